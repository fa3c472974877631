/-
  Rules in a box, under construction; dialtoneref08's Copy.
-/
import Derived.Test.YtfidioedjmjddaaL8g
namespace Go.Proofs.Ytfidioedjmjddaa
open Go.RowKit Go.Lib

/-- The walk leaves a goal of this name as it is. -/
theorem stop_in {p : Prop} (roundEnd : p) (_other : True) : p := roundEnd

/-- Is g one of the blocks of the rules? -/
def RbHas (vc vr vf : Value) (ys : List ClV) (g : Nat) : Prop := vc.ownBlock = some g ∨ vr.ownBlock = some g ∨ vf.ownBlock = some g ∨ ∃ y, y ∈ ys ∧ (y.vn.ownBlock = some g ∨ y.vb.ownBlock = some g)
theorem RbOwn.lt {N : Nat} {W : World} {vc vr vf : Value} {ys : List ClV} {c : Rb} (h : RbOwn N W vc vr vf ys c) {g : Nat} (hg : RbHas vc vr vf ys g) : g < W.heap.size := by
  rcases hg with hg | hg | hg | ⟨y, hy, hg⟩
  · exact ownsRow_lt h.cls hg
  · exact ownsRow_lt h.rps hg
  · exact ownsRow_lt h.fas hg
  · exact (h.term y hy g hg).2.1
theorem RbOwn.frH {N : Nat} {W W' : World} {vc vr vf : Value} {ys : List ClV} {c : Rb} {S : List Nat} (h : RbOwn N W vc vr vf ys c) (hf : Fr S W W') (hS : ∀ g, RbHas vc vr vf ys g → g ∉ S) : RbOwn N W' vc vr vf ys c :=
  ⟨h.eq, row_fr h.cls hf (fun g hg => hS g (.inl hg)), row_fr h.rps hf (fun g hg => hS g (.inr (.inl hg))), row_fr h.fas hf (fun g hg => hS g (.inr (.inr (.inl hg)))),
    fun y hy => (h.needs y hy).fr hf (fun g hg => hS g (.inr (.inr (.inr ⟨y, hy, .inl hg⟩)))), fun y hy => (h.bars y hy).fr hf (fun g hg => hS g (.inr (.inr (.inr ⟨y, hy, .inr hg⟩)))),
    fun y hy g hg => ⟨(h.term y hy g hg).1, Nat.lt_of_lt_of_le (h.term y hy g hg).2.1 hf.size, (h.term y hy g hg).2.2⟩, h.nc, h.nr, h.nf⟩

/-- Rules in the box b, their rows and the box newer than w. -/
structure BxS (w : World) (b : Nat) (vc vr vf : Value) (ys : List ClV) (c : Rb) (W : World) : Prop where
  fr : Fr [] w W
  hb : w.heap.size ≤ b
  box : W.heap[b]? = some (.cells #[vc, vr, vf] 32 (0, 0))
  own : RbOwn 0 W vc vr vf ys c
  rows : ∀ g, vc.ownBlock = some g ∨ vr.ownBlock = some g ∨ vf.ownBlock = some g → w.heap.size ≤ g
  nb : ¬ RbHas vc vr vf ys b
theorem BxS.same {w : World} {b : Nat} {vc vr vf : Value} {ys : List ClV} {c : Rb} {W W' : World} (h : BxS w b vc vr vf ys c W) (hf : Fr [] W W') : BxS w b vc vr vf ys c W' :=
  ⟨h.fr.trans hf, h.hb, hf.keep h.box (by simp), h.own.same hf, h.rows, h.nb⟩
theorem BxS.store {w : World} {b : Nat} {vc vr vf vc' vr' vf' v' : Value} {ys : List ClV} {c : Rb} {W W1 : World} {S : List Nat} {j : Nat} {ys' : List ClV} {c' : Rb} (h : BxS w b vc vr vf ys c W) (hf1 : Fr S W W1) (hS : ∀ g, g ∈ S → w.heap.size ≤ g ∧ g ≠ b)
    (own : RbOwn 0 W1 vc' vr' vf' ys' c') (rows : ∀ g, vc'.ownBlock = some g ∨ vr'.ownBlock = some g ∨ vf'.ownBlock = some g → w.heap.size ≤ g) (nb : ¬ RbHas vc' vr' vf' ys' b) (he : #[vc, vr, vf].setIfInBounds j v' = #[vc', vr', vf']) : BxS w b vc' vr' vf' ys' c' (W1.setCell ⟨b, j, none⟩ v') := by
  have hsc : Fr [b] W1 (W1.setCell ⟨b, j, none⟩ v') := Fr.setCell _ _ (by simp)
  refine ⟨(h.fr.step hf1 (fun i hi => .inr (hS i hi).1)).step hsc (fun i hi => .inr (by simp at hi; rw [hi]; exact h.hb)), h.hb, ?_, own.frH hsc (fun g hg hm => by simp at hm; subst hm; exact nb hg), rows, nb⟩
  rw [heap_setCell_same _ (hf1.keep h.box (fun hm => (hS b hm).2 rfl)), he]
theorem new_ne {W : World} {v v' : Value} {b : Nat} (ho : v'.ownBlock = v.ownBlock ∨ v'.ownBlock = some W.heap.size) (hb : b < W.heap.size) (hv : v.ownBlock ≠ some b) : v'.ownBlock ≠ some b := fun he => by
  rcases ho with ho | ho
  · exact hv (ho ▸ he)
  · rw [ho] at he; cases he; omega
theorem new_ge {W : World} {v v' : Value} {n : Nat} (ho : v'.ownBlock = v.ownBlock ∨ v'.ownBlock = some W.heap.size) (hn : n ≤ W.heap.size) (hv : ∀ g, v.ownBlock = some g → n ≤ g) : ∀ g, v'.ownBlock = some g → n ≤ g := fun g hg => by
  rcases ho with ho | ho
  · exact hv g (ho ▸ hg)
  · rw [ho] at hg; cases hg; exact hn
theorem BxS.putCl {w : World} {b : Nat} {vc vr vf v' : Value} {ys : List ClV} {c : Rb} {W W1 : World} {y : ClV} {n : Nat} {xs : List Value} (h : BxS w b vc vr vf ys c W) (h1 : IntsR W y.vn y.x.needs) (h2 : IntsR W y.vb y.x.bars)
    (hb : ∀ g, y.vn.ownBlock = some g ∨ y.vb.ownBlock = some g → g < W.heap.size ∧ g ≠ b ∧ vc.ownBlock ≠ some g ∧ vr.ownBlock ≠ some g ∧ vf.ownBlock ≠ some g) (hr : W1.ownsRow 0 38 6 v' n xs) (hn : n = ys.length + 1) (hx : xs = ys.flatMap clC ++ clC y)
    (hf1 : Fr vc.ownBlock.toList W W1) (ho : v'.ownBlock = vc.ownBlock ∨ v'.ownBlock = some W.heap.size) :
    BxS w b v' vr vf (ys ++ [y]) ⟨c.cls ++ [y.x], c.rps, c.fas⟩ (W1.setCell ⟨b, 0, none⟩ v') := by
  have hbl := blk_lt h.box
  refine h.store hf1 (fun g hg => ⟨h.rows g (.inl (by simpa using hg)), fun e => h.nb (.inl (by subst e; simpa using hg))⟩)
    (h.own.addCl (y := y) (Nat.zero_le _) hr hn hx hf1 ho h1 h2 (fun g hg => ⟨Nat.zero_le _, (hb g hg).1, (hb g hg).2.2⟩)) (fun g hg => ?_) (fun hg => ?_) rfl
  · rcases hg with hg | hg | hg
    · exact new_ge ho h.fr.size (fun g hg => h.rows g (.inl hg)) g hg
    · exact h.rows g (.inr (.inl hg))
    · exact h.rows g (.inr (.inr hg))
  · rcases hg with hg | hg | hg | ⟨z, hz, hg⟩
    · exact new_ne ho hbl (fun e => h.nb (.inl e)) hg
    · exact h.nb (.inr (.inl hg))
    · exact h.nb (.inr (.inr (.inl hg)))
    · rcases List.mem_append.1 hz with hz | hz
      · exact h.nb (.inr (.inr (.inr ⟨z, hz, hg⟩)))
      · simp only [List.mem_singleton] at hz; subst hz; exact (hb b hg).2.1 rfl
theorem fr_ne {W : World} {v v' : Value} {b : Nat} (ho : ∀ g, v'.ownBlock = some g → v.ownBlock = some g ∨ W.heap.size ≤ g) (hb : b < W.heap.size) (hv : v.ownBlock ≠ some b) : v'.ownBlock ≠ some b := fun he => by
  rcases ho b he with ho | ho
  · exact hv ho
  · omega
theorem fr_ge {W : World} {v v' : Value} {n : Nat} (ho : ∀ g, v'.ownBlock = some g → v.ownBlock = some g ∨ W.heap.size ≤ g) (hn : n ≤ W.heap.size) (hv : ∀ g, v.ownBlock = some g → n ≤ g) : ∀ g, v'.ownBlock = some g → n ≤ g := fun g hg => by
  rcases ho g hg with ho | ho
  · exact hv g ho
  · omega
theorem own_new {W : World} {v v' : Value} (ho : v'.ownBlock = v.ownBlock ∨ v'.ownBlock = some W.heap.size) : ∀ g, v'.ownBlock = some g → v.ownBlock = some g ∨ W.heap.size ≤ g := fun g hg => by
  rcases ho with ho | ho
  · exact .inl (ho ▸ hg)
  · rw [ho] at hg; cases hg; exact .inr (Nat.le_refl _)
theorem BxS.putRp {w : World} {b : Nat} {vc vr vf v' : Value} {ys : List ClV} {c : Rb} {W W1 : World} {rs : List Rp} {n : Nat} {xs : List Value} (h : BxS w b vc vr vf ys c W)
    (hr : W1.ownsRow 0 52 3 v' n xs) (hn : n = (c.rps ++ rs).length) (hx : xs = (c.rps ++ rs).flatMap rpC)
    (hf1 : Fr vr.ownBlock.toList W W1) (ho : ∀ g, v'.ownBlock = some g → vr.ownBlock = some g ∨ W.heap.size ≤ g) :
    BxS w b vc v' vf ys ⟨c.cls, c.rps ++ rs, c.fas⟩ (W1.setCell ⟨b, 1, none⟩ v') := by
  have hbl := blk_lt h.box
  subst hn hx
  refine h.store hf1 (fun g hg => ⟨h.rows g (.inr (.inl (by simpa using hg))), fun e => h.nb (.inr (.inl (by subst e; simpa using hg)))⟩) ?_ (fun g hg => ?_) (fun hg => ?_) rfl
  · have k := h.own
    refine ⟨k.eq, row_fr k.cls hf1 (fun g hg hm => (k.nc g hg).2.1 (by simpa using hm)), hr, row_fr k.fas hf1 (fun g hg hm => (k.nr g (by simpa using hm)).2 hg), ?_, ?_, ?_, ?_, ?_, k.nf⟩
    · exact fun z hz => (k.needs z hz).fr hf1 (fun g hg hm => (k.term z hz g (.inl hg)).2.2.2.1 (by simpa using hm))
    · exact fun z hz => (k.bars z hz).fr hf1 (fun g hg hm => (k.term z hz g (.inr hg)).2.2.2.1 (by simpa using hm))
    · exact fun z hz g hg => by
        obtain ⟨k1, k2, k3, k4, k5⟩ := k.term z hz g hg
        exact ⟨k1, Nat.lt_of_lt_of_le k2 hf1.size, k3, fr_ne ho k2 k4, k5⟩
    · exact fun g hg => ⟨(k.nc g hg).1, fr_ne ho (ownsRow_lt k.cls hg) (k.nc g hg).2.1, (k.nc g hg).2.2⟩
    · intro g hg
      refine ⟨Nat.zero_le _, fun he => ?_⟩
      rcases ho g hg with ho | ho
      · exact (k.nr g ho).2 he
      · have := ownsRow_lt k.fas he; omega
  · rcases hg with hg | hg | hg
    · exact h.rows g (.inl hg)
    · exact fr_ge ho h.fr.size (fun g hg => h.rows g (.inr (.inl hg))) g hg
    · exact h.rows g (.inr (.inr hg))
  · rcases hg with hg | hg | hg | hg
    · exact h.nb (.inl hg)
    · exact fr_ne ho hbl (fun e => h.nb (.inr (.inl e))) hg
    · exact h.nb (.inr (.inr (.inl hg)))
    · exact h.nb (.inr (.inr (.inr hg)))
theorem BxS.putFa {w : World} {b : Nat} {vc vr vf v' : Value} {ys : List ClV} {c : Rb} {W W1 : World} {rs : List Fa} {n : Nat} {xs : List Value} (h : BxS w b vc vr vf ys c W)
    (hr : W1.ownsRow 0 50 6 v' n xs) (hn : n = (c.fas ++ rs).length) (hx : xs = (c.fas ++ rs).flatMap faC)
    (hf1 : Fr vf.ownBlock.toList W W1) (ho : ∀ g, v'.ownBlock = some g → vf.ownBlock = some g ∨ W.heap.size ≤ g) :
    BxS w b vc vr v' ys ⟨c.cls, c.rps, c.fas ++ rs⟩ (W1.setCell ⟨b, 2, none⟩ v') := by
  have hbl := blk_lt h.box
  subst hn hx
  refine h.store hf1 (fun g hg => ⟨h.rows g (.inr (.inr (by simpa using hg))), fun e => h.nb (.inr (.inr (.inl (by subst e; simpa using hg))))⟩) ?_ (fun g hg => ?_) (fun hg => ?_) rfl
  · have k := h.own
    refine ⟨k.eq, row_fr k.cls hf1 (fun g hg hm => (k.nc g hg).2.2 (by simpa using hm)), row_fr k.rps hf1 (fun g hg hm => (k.nr g hg).2 (by simpa using hm)), hr, ?_, ?_, ?_, ?_, ?_, fun g _ => Nat.zero_le _⟩
    · exact fun z hz => (k.needs z hz).fr hf1 (fun g hg hm => (k.term z hz g (.inl hg)).2.2.2.2 (by simpa using hm))
    · exact fun z hz => (k.bars z hz).fr hf1 (fun g hg hm => (k.term z hz g (.inr hg)).2.2.2.2 (by simpa using hm))
    · exact fun z hz g hg => by
        obtain ⟨k1, k2, k3, k4, k5⟩ := k.term z hz g hg
        exact ⟨k1, Nat.lt_of_lt_of_le k2 hf1.size, k3, k4, fr_ne ho k2 k5⟩
    · exact fun g hg => ⟨(k.nc g hg).1, (k.nc g hg).2.1, fr_ne ho (ownsRow_lt k.cls hg) (k.nc g hg).2.2⟩
    · exact fun g hg => ⟨(k.nr g hg).1, fr_ne ho (ownsRow_lt k.rps hg) (k.nr g hg).2⟩
  · rcases hg with hg | hg | hg
    · exact h.rows g (.inl hg)
    · exact h.rows g (.inr (.inl hg))
    · exact fr_ge ho h.fr.size (fun g hg => h.rows g (.inr (.inr hg))) g hg
  · rcases hg with hg | hg | hg | hg
    · exact h.nb (.inl hg)
    · exact h.nb (.inr (.inl hg))
    · exact fr_ne ho hbl (fun e => h.nb (.inr (.inr (.inl e)))) hg
    · exact h.nb (.inr (.inr (.inr hg)))
theorem BxS.start {w W : World} {b : Nat} (hf : Fr [] w W) (hb : w.heap.size ≤ b) (hx : W.heap[b]? = some (.cells #[.slice none 0 0, .slice none 0 0, .slice none 0 0] 32 (0, 0))) : BxS w b (.slice none 0 0) (.slice none 0 0) (.slice none 0 0) [] ⟨[], [], []⟩ W := by
  refine ⟨hf, hb, hx, RbOwn.start _ _, fun g hg => ?_, fun hg => ?_⟩
  · rcases hg with hg | hg | hg <;> cases hg
  · rcases hg with hg | hg | hg | ⟨y, hy, _⟩
    · cases hg
    · cases hg
    · cases hg
    · cases hy
/-- Rules that a call has returned are put into a box. -/
theorem BxS.boxed {w W : World} {N : Nat} {vc vr vf : Value} {ys : List ClV} {c : Rb} (hf : Fr [] w W) (h : RbOwn N W vc vr vf ys c) (rows : ∀ g, vc.ownBlock = some g ∨ vr.ownBlock = some g ∨ vf.ownBlock = some g → w.heap.size ≤ g) :
    BxS w W.heap.size vc vr vf ys c (W.alloc (.cells #[vc, vr, vf] 32)) :=
  ⟨hf.trans (Fr.alloc _ _ _), hf.size, heap_alloc_new _ _, (h.older (Nat.zero_le _)).same (Fr.alloc _ _ _), rows, fun hg => by have := h.lt hg; omega⟩

/-- An empty block as a slice. -/
theorem row_blk0 {w : World} {b : Nat} {e : TypeId} (h : w.heap[b]? = some (.cells #[] e (0, 0))) (size : Nat) : w.ownsRow 0 e size (.slice (some ⟨b, 0, none⟩) 0 0) 0 [] :=
  ⟨by simp, .inr ⟨b, 0, #[], rfl, Nat.zero_le _, h, Nat.le_refl _, Nat.zero_le _, by simp, by simp⟩⟩
theorem rpC_len (l : List Rp) : (l.flatMap rpC).length = l.length * 3 := flat_len (enc := rpC) (k := 3) (fun _ => rfl) l
theorem faC_len (l : List Fa) : (l.flatMap faC).length = l.length * 6 := flat_len (enc := faC) (k := 6) (fun _ => rfl) l
theorem rpC_one (l : List Rp) : ∀ u, u ∈ l.flatMap rpC → u.oneCell' = true := by
  intro u hu
  obtain ⟨x, _, hx⟩ := List.mem_flatMap.1 hu
  simp only [rpC, List.mem_cons, List.not_mem_nil, or_false] at hx
  rcases hx with rfl | rfl | rfl <;> rfl
theorem faC_one (l : List Fa) : ∀ u, u ∈ l.flatMap faC → u.oneCell' = true := by
  intro u hu
  obtain ⟨x, _, hx⟩ := List.mem_flatMap.1 hu
  simp only [faC, List.mem_cons, List.not_mem_nil, or_false] at hx
  rcases hx with rfl | rfl | rfl | rfl | rfl | rfl <;> rfl
theorem intC_one (l : List Int) : ∀ u, u ∈ intC l → u.oneCell' = true := by
  intro u hu
  simp only [intC, List.mem_map] at hu
  obtain ⟨x, _, rfl⟩ := hu
  rfl
/-- A clause's cells. -/
theorem clRow_cells {w : World} {vc : Value} {ys : List ClV} (h : Sl w vc ys.length (ys.flatMap clC)) (k : Nat) (hk : k < ys.length) : ∃ b off cap, vc = .slice (some ⟨b, off, none⟩) ys.length cap ∧ ∀ j u, (clC ys[k])[j]? = some u → w.cell? ⟨b, off + k * 6 + j, none⟩ = some u := by
  obtain ⟨a, cap, rfl⟩ := h.val
  obtain ⟨b, off, rfl, hc⟩ := h.at_ (by omega)
  refine ⟨b, off, cap, rfl, fun j u hu => ?_⟩
  have hj : j < 6 := by have := (List.getElem?_eq_some_iff.1 hu).1; simpa [clC] using this
  have := hc (k * 6 + j) u ((flat_get (enc := clC) (k := 6) (fun _ => rfl) ys k hk j hj).trans hu)
  rwa [← Nat.add_assoc] at this

end Go.Proofs.Ytfidioedjmjddaa
