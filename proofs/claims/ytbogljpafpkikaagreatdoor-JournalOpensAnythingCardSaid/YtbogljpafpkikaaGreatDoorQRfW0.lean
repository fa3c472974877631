/-
  A range over a function whose iterator writes a variable of its own; a body that is never left early.
-/
import Derived.Test.YtbogljpafpkikaaGreatDoorQRfB
namespace Go.Proofs.YtbogljpafpkikaaGreatDoor
open Go.RowKit Go.Shelf Go.Lib

/-- The word of an iterator that changes block bx alone. -/
def SeqW {α : Type} (F : Fence) (n : Nat) (P : Program) (g : Nat) (lb : Array Value) (encs : α → Array Value) (Kp : World → World → Prop) (S : List α → Prop) (N bx : Nat) (w : World) : Prop :=
  ∀ (l : Nat) (J : List α → World → Prop) (W : World), Fr [] w W → (∀ s X Y, J s X → Fr [bx] X Y → J s Y) →
    (∀ pre x W1, J pre W1 → pre.length < N → YieldAt F (n - 1) P l (encs x) W1 fun e W' => e = .returned (.bool true) ∧ J (pre ++ [x]) W' ∧ Kp W1 W') →
    J [] W → CallsIn F n P g (#[.func (.yield l) #[] #[]] ++ lb) W fun e W' => (∃ v, e = .returned v) ∧ ∃ xs, S xs ∧ J xs W'
/-- Behind a round. -/
def postW {α : Type} (B : Nat) (Kp : World → World → Prop) (I : List α → World → Prop) (xs : List α) (W : World) : Exit → Act → World → Prop
  | .normal, _, W' => KeepsFrom B W W' ∧ Kp W W' ∧ I xs W'
  | _, _, _ => False

set_option maxHeartbeats 4000000 in
theorem range_wr {F : Fence} {n : Nat} {P : Program} {α : Type} {g : Operand} {ps : Array Tmp} {assign body : Code} {Q : Exit → Act → World → Prop} {a : Act} {w : World} (hro : F.round = none) (h1 : 1 ≤ n)
    {gf : Nat} {lb : Array Value} (hg : a.eval g = .func (.func gf) #[] lb) (hFg : F.fn gf) (eg : ∀ args w, (callFunc gf args).run P w = .ok (.enter gf args) w)
    {encs : α → Array Value} {Kp : World → World → Prop} {S : List α → Prop} {N bx : Nat} (hbx : bx < w.heap.size) (hseq : SeqW F (n - 1) P gf lb encs Kp S N bx w) (hKt : ∀ {A B C : World}, Kp A B → Kp B C → Kp A C)
    (hKb : ∀ (W : World) (l : Nat) (o o' : Obj), w.heap.size ≤ l → W.heap[l]? = some o → Kp W (W.putObj l o')) (hps : ∀ x, (encs x).size = ps.size)
    (I : List α → World → Prop) (hI : ∀ s X Y, I s X → Fr [bx] X Y → I s Y) (hO : OwnFrom w.heap.size I) (h0 : I [] w) (a₁ : α → Act)
    (hassign : ∀ (l : Nat) (x : α) (W : World) (K : Act → World → Prop), K (a₁ x) W → assign.wpIn (F.inRound l) (n - 1 - 1) P (Exit.then K (fun _ _ _ => False)) { tmps := (ps.zip (encs x)).foldl (fun t (p, v) => t.setIfInBounds p v) a.tmps, defers := [] } W)
    (hbody : ∀ (l : Nat) (pre : List α) (x : α) (W : World), I pre W → pre.length < N → body.wpIn (F.inRound l) (n - 1 - 1) P (postW w.heap.size Kp I (pre ++ [x]) W) (a₁ x) W)
    (hdone : ∀ (D : Nat) (xs : List α) (W : World), w.heap.size ≤ D → S xs → I xs W → W.heap[D]? = some (.deferred (some [])) → Q .normal { a with defers := { target := .collected D, args := #[] } :: a.defers } W) :
    (Code.rangeFunc g ps assign body).wpIn F n P Q a w := by
  refine wpIn_rangeFunc fun fn hfn => ?_
  rw [hro]
  obtain ⟨R, hR⟩ : ∃ R : LoopState → Loop, ∀ st, R st = { state := st, pending := none, fn := fn, tmps := a.tmps, params := ps, assign := assign, body := body, defers := w.heap.size } := ⟨fun st => { state := st, pending := none, fn := fn, tmps := a.tmps, params := ps, assign := assign, body := body, defers := w.heap.size }, fun _ => rfl⟩
  obtain ⟨W1, hW1⟩ : ∃ W1, W1 = (w.alloc (.deferred (some []))).alloc (.loop (R .ready)) := ⟨_, rfl⟩
  have he : (Instr.enterLoop fn a.tmps ps assign body none).run P w = .ok (w.heap.size + 1, [{ target := .collected w.heap.size, args := #[] }]) W1 := by
    rw [hW1, hR]; exact run_enterLoop_outer _ _ _ _ _
  -- the two blocks of the loop's book-keeping
  have key : CallsIn F (n - 1) P gf (#[.func (.yield (w.heap.size + 1)) #[] #[]] ++ lb) W1 (rangePost F n P (w.heap.size + 1) Q { a with defers := [{ target := .collected w.heap.size, args := #[] }] ++ a.defers }) := by
    have fr : Fr [] w W1 := by rw [hW1]; exact (Fr.alloc _ _ _).trans (Fr.alloc _ _ _)
    have bD : W1.heap[w.heap.size]? = some (.deferred (some [])) := by rw [hW1]; exact heap_alloc_old _ (heap_alloc_new w _)
    have bL : W1.heap[w.heap.size + 1]? = some (.loop (R .ready)) := by
      have := heap_alloc_new (w.alloc (.deferred (some []))) (.loop (R .ready))
      rw [World.size_alloc] at this
      rw [hW1]; exact this
    have i1 : I [] W1 := by rw [hW1]; exact hO.alloc _ (hO.alloc _ h0)
    refine (hseq (w.heap.size + 1) (fun xs W => I xs W ∧ W.heap[w.heap.size + 1]? = some (.loop (R .ready)) ∧ W.heap[w.heap.size]? = some (.deferred (some []))) W1 fr ?_ ?_ ⟨i1, bL, bD⟩).mono ?_
    · rintro s X Y ⟨hi, hl, hd⟩ hf
      exact ⟨hI s X Y hi hf, hf.keep hl (by simp; omega), hf.keep hd (by simp; omega)⟩
    · rintro pre x W ⟨hi, hl, hd⟩ hN
      refine ⟨fn, (ps.zip (encs x)).foldl (fun t (p, v) => t.setIfInBounds p v) a.tmps, assign, body, ?_, roundIn_of_wpIn hfn (hassign _ x W _ ⟨W.putObj (w.heap.size + 1) (.loop (R .busy)), ?_, ?_⟩)⟩
      · have := run_yield (P := P) (args := encs x) hl (by rw [hR]; exact hps x)
        rw [hR] at this
        exact this
      · have := run_beginRound (P := P) hl (by rw [hR])
        rw [hR] at this
        rw [hR]
        exact this
      · have hlt := blk_lt hl
        have hl2 : (W.putObj (w.heap.size + 1) (.loop (R .busy))).heap[w.heap.size + 1]? = some (.loop (R .busy)) := World.putObj_heap_same hlt
        have hd2 : (W.putObj (w.heap.size + 1) (.loop (R .busy))).heap[w.heap.size]? = some (.deferred (some [])) := (World.putObj_heap_other (by omega)).trans hd
        have k1 : Kp W (W.putObj (w.heap.size + 1) (.loop (R .busy))) := hKb _ _ _ _ (by omega) hl
        have i2 := hO.putObj (.loop (R .busy)) hi (by omega) hl rfl
        refine wpIn_mono (hbody _ pre x _ i2 hN) fun e a3 W3 hp => ?_
        cases e with
        | normal =>
          obtain ⟨kf, kp, i3⟩ := hp
          have l3 := kf.same _ _ (by omega) hl2 rfl
          have d3 := kf.same _ _ (Nat.le_refl _) hd2 rfl
          refine ⟨_, _, run_endRound (P := P) none l3, rfl, ⟨hO.putObj _ i3 (by omega) l3 rfl, ?_, (World.putObj_heap_other (by omega)).trans d3⟩, hKt (hKt k1 kp) (hKb _ _ _ _ (by omega) l3)⟩
          refine (World.putObj_heap_same (blk_lt l3)).trans ?_
          rw [hR, hR]
          rfl
        | ret => exact hp.elim
        | exit id => exact hp.elim
        | goto t => exact hp.elim
        | panic ch => exact hp.elim
        | outgrown => exact hp.elim
    · rintro e W2 ⟨⟨v, rfl⟩, xs, hS, hi, hl, hd⟩
      have := run_endLoop (P := P) hl (by rw [hR]; simp)
      rw [show (R .ready).pending = none by rw [hR]] at this
      exact ⟨none, _, this, hdone _ xs _ (Nat.le_refl _) hS (hO.putObj _ hi (by omega) hl rfl) ((World.putObj_heap_other (by omega)).trans hd)⟩
  refine ⟨w.heap.size + 1, [{ target := .collected w.heap.size, args := #[] }], W1, { target := .fn (.func gf) lb, args := #[.func (.yield (w.heap.size + 1)) #[] #[]] }, W1, gf, #[.func (.yield (w.heap.size + 1)) #[] #[]] ++ lb, W1, ?_, ?_, ?_, ?_, fun _ => h1, ?_⟩
  · exact he
  · simp only [resolve, hg]
    simp [go_sem]
  · intro f' hf'
    simp [Target.leads] at hf'
    subst hf'
    exact hFg
  · simp [invoke, go_sem, eg]
  · exact key

end Go.Proofs.YtbogljpafpkikaaGreatDoor
