/- A law for a range over a function whose iterator keeps state of its own in cells: the rounds are told apart by a state s; the loop's record lies in block l, the block for deferred calls ahead of it. -/
import Derived.RangeFuncNested
import Derived.RangeFuncBound
import Derived.RangeFuncCalls
import Derived.RangeFuncLeaves
namespace Go.Proofs.YtpahiipfmccbiaaDoor
open Go.RowKit

/-- A round's body ends off its end. -/
def EndsNormal (R : World → Prop) : Exit → Act → World → Prop
  | .normal, _, w => R w
  | _, _, _ => False

theorem wpIn_rangeFunc_st {σ : Type} {P : Program} {n : Nat} {g : Operand} {ps : Array Tmp} {assign body : Code} {Q : Exit → Act → World → Prop} {a : Act} {w : World}
    {gf : Nat} {lb : Array Value} (hg : a.eval g = .func (.func gf) #[] lb) (eg : ∀ args w, (callFunc gf args).run P w = .ok (.enter gf args) w)
    (I : Obj → σ → World → Prop) (I1 : Obj → σ → Act → World → Prop) (J : Obj → σ → World → Prop) (End : Obj → World → Prop)
    (argOf : σ → Array Value) (hps : ∀ s, (argOf s).size = ps.size)
    (hI : ∀ o s W, I o s W → W.heap[w.heap.size + 1]? = some o)
    (hI1 : ∀ o s a₁ W, I1 o s a₁ W → W.heap[w.heap.size + 1]? = some o)
    (hI1p : ∀ o o' s a₁ W, I1 o s a₁ W → I1 o' s a₁ (W.putObj (w.heap.size + 1) o'))
    (hJ : ∀ o s W, J o s W → W.heap[w.heap.size + 1]? = some o)
    (hJp : ∀ o o' s W, J o s W → J o' s (W.putObj (w.heap.size + 1) o'))
    (hE : ∀ o W, End o W → W.heap[w.heap.size + 1]? = some o)
    (hassign : ∀ o s W (K : Act → World → Prop), I o s W → (∀ a₁ W₁, I1 o s a₁ W₁ → K a₁ W₁) →
      assign.wpIn (Fence.wide.inRound (w.heap.size + 1)) (n - 1 - 1) P (Exit.then K (fun _ _ _ => False)) { tmps := (ps.zip (argOf s)).foldl (fun t (p, v) => t.setIfInBounds p v) a.tmps, defers := [] } W)
    (hbody : ∀ o s a₁ W, I1 o s a₁ W → body.wpIn (Fence.wide.inRound (w.heap.size + 1)) (n - 1 - 1) P (EndsNormal (J o s)) a₁ W)
    (hiter : ∀ o, (∀ s W, I o s W → YieldAt Fence.wide (n - 1 - 1) P (w.heap.size + 1) (argOf s) W fun e W' => e = .returned (.bool true) ∧ J o s W') →
      CallsIn Fence.wide (n - 1) P gf (#[.func (.yield (w.heap.size + 1)) #[] #[]] ++ lb) ((w.alloc (.deferred (some []))).alloc o) fun e W' => (∃ v, e = .returned v) ∧ End o W')
    (hdone : ∀ o o' W, End o W → Q .normal { a with defers := { target := .collected w.heap.size, args := #[] } :: a.defers } (W.putObj (w.heap.size + 1) o')) :
    (Code.rangeFunc g ps assign body).wpIn Fence.wide n P Q a w := by
  refine wpIn_rangeFunc ?_
  intro fn hfn
  obtain ⟨rec, hrec⟩ : ∃ rec : LoopState → Option Code → Loop, rec = fun st pe => { state := st, pending := pe, fn, tmps := a.tmps, params := ps, assign, body, defers := w.heap.size } := ⟨_, rfl⟩
  refine ⟨w.heap.size + 1, [{ target := .collected w.heap.size, args := #[] }], (w.alloc (.deferred (some []))).alloc (.loop (rec .ready none)), { target := .fn (.func gf) lb, args := #[.func (.yield (w.heap.size + 1)) #[] #[]] }, (w.alloc (.deferred (some []))).alloc (.loop (rec .ready none)), gf,
    #[.func (.yield (w.heap.size + 1)) #[] #[]] ++ lb, (w.alloc (.deferred (some []))).alloc (.loop (rec .ready none)), ?_, ?_, ?_, ?_, (fun h => by cases h), ?_⟩
  · rw [hrec]; exact run_enterLoop_outer _ _ _ _ _
  · simp only [resolve, hg]
    simp [go_sem]
  · intro f' _; trivial
  · simp [invoke, go_sem, eg]
  · refine (hiter (.loop (rec .ready none)) ?_).mono ?_
    · intro s W hi
      have hl := hI _ _ _ hi
      have hy := run_yield (P := P) (args := argOf s) hl (by rw [hrec]; exact hps s)
      rw [hrec] at hy
      refine ⟨fn, _, assign, body, hy, roundIn_of_wpIn hfn (hassign _ s W _ hi ?_)⟩
      intro a₁ W₁ h1
      have hl1 := hI1 _ _ _ _ h1
      refine ⟨_, run_beginRound hl1 (by rw [hrec]), ?_⟩
      refine wpIn_mono (hbody _ s a₁ _ (hI1p _ (.loop { rec .ready none with state := .busy }) s a₁ W₁ h1)) ?_
      intro e a3 W3 hp
      cases e with
      | normal =>
        have hl3 := hJ _ _ _ hp
        have hr := run_endRound (P := P) none hl3
        refine ⟨_, _, hr, rfl, ?_⟩
        have := hJp _ (.loop (rec .ready none)) s W3 hp
        rw [hrec] at this ⊢
        exact this
      | ret => exact hp.elim
      | exit id => exact hp.elim
      | goto t => exact hp.elim
      | panic ch => exact hp.elim
      | outgrown => exact hp.elim
    · rintro e W2 ⟨⟨v, rfl⟩, hEnd⟩
      have hl := hE _ _ hEnd
      exact ⟨none, _, by have := run_endLoop (P := P) hl (by rw [hrec]; simp); rw [hrec] at this; exact this, hdone _ _ _ hEnd⟩

#print axioms wpIn_rangeFunc_st
end Go.Proofs.YtpahiipfmccbiaaDoor
