/- The contract of strings.ToLower at this translation, every string: applications of theorems of the kit's shelf; the listed tables, read. -/
import Derived.Shelf.Strings.OnBuilder
import Derived.Shelf.Strings.CaseAny
import Derived.Lib.LaidU8
import Derived.Lib.LaidCaseMet
import GoSem.PinnedTables
import Derived.Test.YtpahiipfmccbiaaDoorProg
namespace Go.Proofs
open Go.Shelf Go.RowKit
def Tryd.lays159_ren : Go.Shelf.Ren := ⟨fun | 159 => 27 | 165 => 49 | 166 => 50 | 167 => 31 | 169 => 33 | 230 => 51 | 204 => 52 | 240 => 53 | 241 => 67 | 197 => 66 | 118 => 68 | 168 => 69 | 270 => 70 | 262 => 71 | 276 => 72 | 277 => 85 | 260 => 84 | 242 => 86 | 313 => 87 | 278 => 90 | 274 => 91 | 275 => 92 | n => n, fun | 9 => 9 | 4 => 4 | 3 => 3 | 5 => 5 | 72 => 49 | 0 => 0 | 76 => 71 | 75 => 52 | 107 => 74 | 70 => 47 | 20 => 20 | 37 => 40 | 127 => 76 | 21 => 21 | 105 => 84 | 164 => 90 | 162 => 98 | 203 => 96 | 119 => 102 | 46 => 55 | 139 => 105 | 138 => 104 | 51 => 99 | 160 => 106 | 208 => 112 | 206 => 110 | 80 => 56 | n => n, fun | 13 => 1 | 3 => 2 | 4 => 3 | n => n⟩
theorem Tryd.lays159 : Go.Proofs.Lays.n159 Tryd.prog Tryd.lays159_ren := {
  mixed := by kernel_rfl
  f118 := Tryd.func68.trans (congrArg some (by kernel_rfl))
  f159 := Tryd.func27.trans (congrArg some (by kernel_rfl))
  f165 := Tryd.func49.trans (congrArg some (by kernel_rfl))
  f166 := Tryd.func50.trans (congrArg some (by kernel_rfl))
  f167 := Tryd.func31.trans (congrArg some (by kernel_rfl))
  f168 := Tryd.func69.trans (congrArg some (by kernel_rfl))
  f169 := Tryd.func33.trans (congrArg some (by kernel_rfl))
  f197 := Tryd.func66.trans (congrArg some (by kernel_rfl))
  f204 := Tryd.func52.trans (congrArg some (by kernel_rfl))
  f230 := Tryd.func51.trans (congrArg some (by kernel_rfl))
  f240 := Tryd.func53.trans (congrArg some (by kernel_rfl))
  f241 := Tryd.func67.trans (congrArg some (by kernel_rfl))
  f242 := Tryd.func86.trans (congrArg some (by kernel_rfl))
  f260 := Tryd.func84.trans (congrArg some (by kernel_rfl))
  f262 := Tryd.func71.trans (congrArg some (by kernel_rfl))
  f270 := Tryd.func70.trans (congrArg some (by kernel_rfl))
  f274 := Tryd.func91.trans (congrArg some (by kernel_rfl))
  f275 := Tryd.func92.trans (congrArg some (by kernel_rfl))
  f276 := Tryd.func72.trans (congrArg some (by kernel_rfl))
  f277 := Tryd.func85.trans (congrArg some (by kernel_rfl))
  f278 := Tryd.func90.trans (congrArg some (by kernel_rfl))
  f313 := Tryd.func87.trans (congrArg some (by kernel_rfl))
  t0 := Tryd.underlying0
  a0 := Tryd.isAgg0
  z0 := Tryd.sizeOf0
  v0 := Tryd.zeroValue0
  t3 := Tryd.underlying3
  a3 := Tryd.isAgg3
  z3 := Tryd.sizeOf3
  v3 := Tryd.zeroValue3
  t4 := Tryd.underlying4
  a4 := Tryd.isAgg4
  z4 := Tryd.sizeOf4
  v4 := Tryd.zeroValue4
  t5 := Tryd.underlying5
  a5 := Tryd.isAgg5
  z5 := Tryd.sizeOf5
  v5 := Tryd.zeroValue5
  t9 := Tryd.underlying9
  a9 := Tryd.isAgg9
  z9 := Tryd.sizeOf9
  v9 := Tryd.zeroValue9
  t20 := Tryd.underlying20
  a20 := Tryd.isAgg20
  z20 := Tryd.sizeOf20
  v20 := Tryd.zeroValue20
  t21 := Tryd.underlying21
  a21 := Tryd.isAgg21
  z21 := Tryd.sizeOf21
  v21 := Tryd.zeroValue21
  t37 := Tryd.underlying40
  a37 := Tryd.isAgg40
  z37 := Tryd.sizeOf40
  v37 := Tryd.zeroValue40
  t46 := Tryd.underlying55
  a46 := Tryd.isAgg55
  z46 := Tryd.sizeOf55
  v46 := Tryd.zeroValue55
  t51 := Tryd.underlying99
  a51 := Tryd.isAgg99
  z51 := Tryd.sizeOf99
  v51 := Tryd.zeroValue99
  t70 := Tryd.underlying47
  a70 := Tryd.isAgg47
  z70 := Tryd.sizeOf47
  v70 := Tryd.zeroValue47
  t72 := Tryd.underlying49
  a72 := Tryd.isAgg49
  z72 := Tryd.sizeOf49
  v72 := Tryd.zeroValue49
  t75 := Tryd.underlying52
  a75 := Tryd.isAgg52
  z75 := Tryd.sizeOf52
  v75 := Tryd.zeroValue52
  t76 := Tryd.underlying71
  a76 := Tryd.isAgg71
  z76 := Tryd.sizeOf71
  v76 := Tryd.zeroValue71
  t105 := Tryd.underlying84
  a105 := Tryd.isAgg84
  z105 := Tryd.sizeOf84
  v105 := Tryd.zeroValue84
  t107 := Tryd.underlying74
  a107 := Tryd.isAgg74
  z107 := Tryd.sizeOf74
  v107 := Tryd.zeroValue74
  t119 := Tryd.underlying102
  a119 := Tryd.isAgg102
  z119 := Tryd.sizeOf102
  t127 := Tryd.underlying76
  a127 := Tryd.isAgg76
  z127 := Tryd.sizeOf76
  v127 := Tryd.zeroValue76
  t138 := Tryd.underlying104
  a138 := Tryd.isAgg104
  z138 := Tryd.sizeOf104
  v138 := Tryd.zeroValue104
  t139 := Tryd.underlying105
  a139 := Tryd.isAgg105
  z139 := Tryd.sizeOf105
  v139 := Tryd.zeroValue105
  t160 := Tryd.underlying106
  a160 := Tryd.isAgg106
  z160 := Tryd.sizeOf106
  v160 := Tryd.zeroValue106
  t162 := Tryd.underlying98
  a162 := Tryd.isAgg98
  z162 := Tryd.sizeOf98
  v162 := Tryd.zeroValue98
  t164 := Tryd.underlying90
  a164 := Tryd.isAgg90
  z164 := Tryd.sizeOf90
  v164 := Tryd.zeroValue90
  t203 := Tryd.underlying96
  a203 := Tryd.isAgg96
  z203 := Tryd.sizeOf96
  v203 := Tryd.zeroValue96
  t206 := Tryd.underlying110
  a206 := Tryd.isAgg110
  z206 := Tryd.sizeOf110
  v206 := Tryd.zeroValue110
  t208 := Tryd.underlying112
  a208 := Tryd.isAgg112
  z208 := Tryd.sizeOf112
  v208 := Tryd.zeroValue112
  g3 := by kernel_rfl
  g4 := by kernel_rfl
  g13 := by kernel_rfl }
theorem Tryd.Builder_Extra_159 : Builder.Extra Tryd.prog Tryd.lays159_ren := {
  sizeBuilder := by kernel_rfl
  liesBuilder := by kernel_rfl
  t5 := Tryd.underlying5
  a5 := Tryd.isAgg5
  z5 := Tryd.sizeOf5
  v5 := Tryd.zeroValue5
  infoByte := by kernel_rfl
  cellsByte := by kernel_rfl
  sizeByte := by kernel_rfl
  neB5 := by decide }
open Go.RowKit Go.Lib in
theorem Tryd.strings_ToLower_any (s : ByteArray) (w : World) (hs : s.size < 35184372088832) (hV : CaseVar 1 caseA w) (hT : Lib.Utf8Tabs 2 3 w) :
    Calls Tryd.prog 27 #[.string s] w fun e w' => e = .returned (.string ⟨(Lib.toLowerD s.data.toList).toArray⟩) ∧ Below w.heap.size w w' := Any.strings_ToLower_any Tryd.lays159 Tryd.Builder_Extra_159 s w hs hV hT
theorem Tryd.caseExtra : CaseExtra Tryd.prog Tryd.lays159_ren := ⟨by kernel_rfl, by kernel_rfl, by kernel_rfl, by kernel_rfl, by kernel_rfl, by kernel_rfl⟩
theorem Tryd.u8Extra : U8Extra Tryd.prog Tryd.lays159_ren := ⟨by kernel_rfl, by kernel_rfl, by kernel_rfl, by kernel_rfl, by kernel_rfl, by kernel_rfl, by kernel_rfl⟩
theorem caseRanges_data : Go.Pinned.caseRanges = Lib.caseData := by kernel_rfl
theorem utf8First_data : Go.Pinned.utf8First = Lib.firstData := by kernel_rfl
theorem Tryd.caseVar {w : World} (h : Lib.VarReads Tryd.prog w "unicode.CaseRanges" Go.Pinned.caseRanges) : Lib.CaseVar 1 Lib.caseA w := by
  rw [caseRanges_data] at h
  exact caseVar_of_reads (ρ := Tryd.lays159_ren) { Tryd.lays159 with } Tryd.lays159.t206 Tryd.caseExtra h
theorem Tryd.utf8Tabs {w : World} (h3 : Lib.VarReads Tryd.prog w "unicode/utf8.first" Go.Pinned.utf8First) (h4 : Lib.VarReads Tryd.prog w "unicode/utf8.acceptRanges" Lib.acceptData) : Lib.Utf8Tabs 2 3 w := by
  rw [utf8First_data] at h3
  exact utf8Tabs_of_reads (ρ := Tryd.lays159_ren) { Tryd.lays159 with } Tryd.u8Extra h3 h4
/-- The listed variables, in another order. -/
theorem LaidVars_perm {P : Program} {w : World} {l l' : List (String × DataW Unit)} (hp : l.Perm l') : ∀ ps, DataW.LaidVars P w l ps → ∃ ps', DataW.LaidVars P w l' ps' ∧ ps.Perm ps' := by
  induction hp with
  | nil => exact fun ps h => ⟨ps, h, .refl _⟩
  | cons x _ ih =>
    rintro ps ⟨g, t, cs, fuel, p, q, h1, h2, h3, h4, h5, rfl⟩
    obtain ⟨q', h6, h7⟩ := ih q h5
    exact ⟨_, ⟨g, t, cs, fuel, p, q', h1, h2, h3, h4, h6, rfl⟩, h7.append_left _⟩
  | swap x y l =>
    rintro ps ⟨g, t, cs, fuel, p, q, h1, h2, h3, h4, ⟨g', t', cs', fuel', p', q', k1, k2, k3, k4, k5, rfl⟩, rfl⟩
    refine ⟨_, ⟨g', t', cs', fuel', p', _, k1, k2, k3, k4, ⟨g, t, cs, fuel, p, q', h1, h2, h3, h4, k5, rfl⟩, rfl⟩, ?_⟩
    rw [← List.append_assoc, ← List.append_assoc (MemPlace.row ⟨g', 0, none⟩ cs'.size ++ p')]
    exact (List.perm_append_comm).append_right _
  | trans _ _ ih1 ih2 =>
    intro ps h
    obtain ⟨q, h1, h2⟩ := ih1 ps h
    obtain ⟨r, h3, h4⟩ := ih2 q h1
    exact ⟨r, h3, h2.trans h4⟩
theorem laidMet_perm {P : Program} {w : World} {l l' : List (String × DataW Unit)} (hp : l.Perm l') (h : laidMet P l w) : laidMet P l' w := by
  obtain ⟨ps, h1, h2, h3⟩ := h
  obtain ⟨q, k1, k2⟩ := LaidVars_perm hp ps h1
  exact ⟨q, k1, (k2.nodup_iff).1 h2, fun b off hm => h3 b off ((k2.mem_iff).2 hm)⟩
#print axioms Tryd.strings_ToLower_any
end Go.Proofs
