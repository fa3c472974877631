/-
  Rules that a call has made; dialtoneref08's Made.
-/
import Derived.Test.YtahfpadaoobkfaaGreatDoorQS08
import Derived.Test.YtahfpadaoobkfaaGreatDoorQS19
namespace Go.Proofs.YtahfpadaoobkfaaGreatDoor
open Go.RowKit Go.Lib

theorem SrcAt.fr {w w' : World} {v : Value} {n : Nat} {cs : List Value} {S : List Nat} (h : SrcAt w v n cs) (hf : Fr S w w') (hn : ∀ g, v.ownBlock = some g → g ∉ S) : SrcAt w' v n cs := by
  refine ⟨?_⟩
  rcases h.form with h | ⟨ad, c, rfl, h2⟩
  · exact .inl h
  · refine .inr ⟨ad, c, rfl, fun j u hu => ?_⟩
    have hb : (ad.add j).block = ad.block := by unfold Addr.add; split <;> rfl
    exact (World.cell?_of_block (hf.block _ (World.block_lt_of_cell? w _ (h2 j u hu)) (by rw [hb]; exact hn _ rfl))).trans (h2 j u hu)
theorem SrcAt.same {w w' : World} {v : Value} {n : Nat} {cs : List Value} (h : SrcAt w v n cs) (hf : Fr [] w w') : SrcAt w' v n cs := h.fr hf (by simp)
/-- Integers that can be read, and appended to others. -/
structure IntsR (w : World) (v : Value) (l : List Int) : Prop where
  sl : IntsAt w v l
  src : SrcAt w v l.length (intC l)
theorem IntsR.fr {w w' : World} {v : Value} {l : List Int} {S : List Nat} (h : IntsR w v l) (hf : Fr S w w') (hn : ∀ g, v.ownBlock = some g → g ∉ S) : IntsR w' v l := ⟨h.sl.fr hf hn, h.src.fr hf hn⟩
theorem IntsR.same {w w' : World} {v : Value} {l : List Int} (h : IntsR w v l) (hf : Fr [] w w') : IntsR w' v l := h.fr hf (by simp)
theorem intsR_of_row {w : World} {v : Value} {l : List Int} (h : w.ownsRow 0 3 1 v l.length (intC l)) : IntsR w v l := ⟨sl_of_row h, srcAt_of_row h⟩
/-- Rules whose rows nobody else has; the blocks are from N on. -/
structure RbOwn (N : Nat) (W : World) (vc vr vf : Value) (ys : List ClV) (c : Rb) : Prop where
  eq : c.cls = ys.map (·.x)
  cls : W.ownsRow 0 105 6 vc ys.length (ys.flatMap clC)
  rps : W.ownsRow 0 108 3 vr c.rps.length (c.rps.flatMap rpC)
  fas : W.ownsRow 0 93 6 vf c.fas.length (c.fas.flatMap faC)
  needs : ∀ y, y ∈ ys → IntsR W y.vn y.x.needs
  bars : ∀ y, y ∈ ys → IntsR W y.vb y.x.bars
  term : ∀ y, y ∈ ys → ∀ g, y.vn.ownBlock = some g ∨ y.vb.ownBlock = some g → N ≤ g ∧ g < W.heap.size ∧ vc.ownBlock ≠ some g ∧ vr.ownBlock ≠ some g ∧ vf.ownBlock ≠ some g
  nc : ∀ g, vc.ownBlock = some g → N ≤ g ∧ vr.ownBlock ≠ some g ∧ vf.ownBlock ≠ some g
  nr : ∀ g, vr.ownBlock = some g → N ≤ g ∧ vf.ownBlock ≠ some g
  nf : ∀ g, vf.ownBlock = some g → N ≤ g
theorem RbOwn.fr {N : Nat} {W W' : World} {vc vr vf : Value} {ys : List ClV} {c : Rb} {S : List Nat} (h : RbOwn N W vc vr vf ys c) (hf : Fr S W W') (hS : ∀ g, g ∈ S → g < N) : RbOwn N W' vc vr vf ys c := by
  have hn : ∀ g, N ≤ g → g ∉ S := fun g hg hm => by have := hS g hm; omega
  exact ⟨h.eq, row_fr h.cls hf (fun g hg => hn g (h.nc g hg).1), row_fr h.rps hf (fun g hg => hn g (h.nr g hg).1), row_fr h.fas hf (fun g hg => hn g (h.nf g hg)),
    fun y hy => (h.needs y hy).fr hf (fun g hg => hn g (h.term y hy g (.inl hg)).1), fun y hy => (h.bars y hy).fr hf (fun g hg => hn g (h.term y hy g (.inr hg)).1),
    fun y hy g hg => ⟨(h.term y hy g hg).1, Nat.lt_of_lt_of_le (h.term y hy g hg).2.1 hf.size, (h.term y hy g hg).2.2⟩, h.nc, h.nr, h.nf⟩
theorem RbOwn.same {N : Nat} {W W' : World} {vc vr vf : Value} {ys : List ClV} {c : Rb} (h : RbOwn N W vc vr vf ys c) (hf : Fr [] W W') : RbOwn N W' vc vr vf ys c := h.fr hf (by simp)
theorem RbOwn.at_ {N : Nat} {W : World} {vc vr vf : Value} {ys : List ClV} {c : Rb} (h : RbOwn N W vc vr vf ys c) (ho : RbOk c) : RbAt W vc vr vf ys c :=
  ⟨h.eq, ⟨sl_of_row h.cls, fun y hy => (h.needs y hy).sl, fun y hy => (h.bars y hy).sl⟩, sl_of_row h.rps, sl_of_row h.fas, ho⟩
theorem RbOwn.older {N N' : Nat} {W : World} {vc vr vf : Value} {ys : List ClV} {c : Rb} (h : RbOwn N W vc vr vf ys c) (hn : N' ≤ N) : RbOwn N' W vc vr vf ys c :=
  ⟨h.eq, h.cls, h.rps, h.fas, h.needs, h.bars, fun y hy g hg => ⟨Nat.le_trans hn (h.term y hy g hg).1, (h.term y hy g hg).2⟩, fun g hg => ⟨Nat.le_trans hn (h.nc g hg).1, (h.nc g hg).2⟩, fun g hg => ⟨Nat.le_trans hn (h.nr g hg).1, (h.nr g hg).2⟩, fun g hg => Nat.le_trans hn (h.nf g hg)⟩
theorem RbOwn.start (N : Nat) (W : World) : RbOwn N W (.slice none 0 0) (.slice none 0 0) (.slice none 0 0) [] ⟨[], [], []⟩ :=
  ⟨rfl, ⟨rfl, .inl ⟨rfl, rfl⟩⟩, ⟨rfl, .inl ⟨rfl, rfl⟩⟩, ⟨rfl, .inl ⟨rfl, rfl⟩⟩, by simp, by simp, by simp, (fun g hg => by cases hg), (fun g hg => by cases hg), (fun g hg => by cases hg)⟩

/-- One more clause. -/
theorem RbOwn.addCl {N : Nat} {W W' : World} {vc vr vf v' : Value} {ys : List ClV} {c : Rb} {y : ClV} {n : Nat} {xs : List Value} (h : RbOwn N W vc vr vf ys c) (hN : N ≤ W.heap.size) (hr : W'.ownsRow 0 105 6 v' n xs) (hn : n = ys.length + 1) (hx : xs = ys.flatMap clC ++ clC y)
    (hf : Fr vc.ownBlock.toList W W') (ho : v'.ownBlock = vc.ownBlock ∨ v'.ownBlock = some W.heap.size) (h1 : IntsR W y.vn y.x.needs) (h2 : IntsR W y.vb y.x.bars)
    (ht : ∀ g, y.vn.ownBlock = some g ∨ y.vb.ownBlock = some g → N ≤ g ∧ g < W.heap.size ∧ vc.ownBlock ≠ some g ∧ vr.ownBlock ≠ some g ∧ vf.ownBlock ≠ some g) :
    RbOwn N W' v' vr vf (ys ++ [y]) ⟨c.cls ++ [y.x], c.rps, c.fas⟩ := by
  subst hn hx
  have hv : ∀ g, g < W.heap.size → vc.ownBlock ≠ some g → v'.ownBlock ≠ some g := fun g hg hne he => by
    rcases ho with ho | ho
    · exact hne (ho ▸ he)
    · rw [ho] at he; cases he; omega
  have key : ∀ z, z ∈ ys ++ [y] → IntsR W z.vn z.x.needs ∧ IntsR W z.vb z.x.bars ∧ ∀ g, z.vn.ownBlock = some g ∨ z.vb.ownBlock = some g → N ≤ g ∧ g < W.heap.size ∧ vc.ownBlock ≠ some g ∧ vr.ownBlock ≠ some g ∧ vf.ownBlock ≠ some g := fun z hz => by
    rcases List.mem_append.1 hz with hz | hz
    · exact ⟨h.needs z hz, h.bars z hz, h.term z hz⟩
    · simp only [List.mem_singleton] at hz; subst hz; exact ⟨h1, h2, ht⟩
  refine ⟨by rw [List.map_append, h.eq]; rfl, by simpa using hr, row_fr h.rps hf (fun g hg hm => (h.nc g (by simpa using hm)).2.1 hg), row_fr h.fas hf (fun g hg hm => (h.nc g (by simpa using hm)).2.2 hg), ?_, ?_, ?_, ?_, h.nr, h.nf⟩
  · exact fun z hz => (key z hz).1.fr hf (fun g hg hm => ((key z hz).2.2 g (.inl hg)).2.2.1 (by simpa using hm))
  · exact fun z hz => (key z hz).2.1.fr hf (fun g hg hm => ((key z hz).2.2 g (.inr hg)).2.2.1 (by simpa using hm))
  · exact fun z hz g hg => by
      obtain ⟨k1, k2, k3, k4, k5⟩ := (key z hz).2.2 g hg
      exact ⟨k1, Nat.lt_of_lt_of_le k2 hf.size, hv g k2 k3, k4, k5⟩
  · intro g hg
    rcases ho with ho | ho
    · exact h.nc g (ho ▸ hg)
    · rw [ho] at hg; cases hg
      exact ⟨hN, fun he => by have := ownsRow_lt h.rps he; omega, fun he => by have := ownsRow_lt h.fas he; omega⟩
/-- One more repeal. -/
theorem RbOwn.addRp {N : Nat} {W W' : World} {vc vr vf v' : Value} {ys : List ClV} {c : Rb} {y : Rp} {n : Nat} {xs : List Value} (h : RbOwn N W vc vr vf ys c) (hN : N ≤ W.heap.size) (hr : W'.ownsRow 0 108 3 v' n xs) (hn : n = c.rps.length + 1) (hx : xs = c.rps.flatMap rpC ++ rpC y)
    (hf : Fr vr.ownBlock.toList W W') (ho : v'.ownBlock = vr.ownBlock ∨ v'.ownBlock = some W.heap.size) : RbOwn N W' vc v' vf ys ⟨c.cls, c.rps ++ [y], c.fas⟩ := by
  subst hn hx
  have hv : ∀ g, g < W.heap.size → vr.ownBlock ≠ some g → v'.ownBlock ≠ some g := fun g hg hne he => by
    rcases ho with ho | ho
    · exact hne (ho ▸ he)
    · rw [ho] at he; cases he; omega
  refine ⟨h.eq, row_fr h.cls hf (fun g hg hm => (h.nc g hg).2.1 (by simpa using hm)), by simpa using hr, row_fr h.fas hf (fun g hg hm => (h.nr g (by simpa using hm)).2 hg), ?_, ?_, ?_, ?_, ?_, h.nf⟩
  · exact fun z hz => (h.needs z hz).fr hf (fun g hg hm => (h.term z hz g (.inl hg)).2.2.2.1 (by simpa using hm))
  · exact fun z hz => (h.bars z hz).fr hf (fun g hg hm => (h.term z hz g (.inr hg)).2.2.2.1 (by simpa using hm))
  · exact fun z hz g hg => by
      obtain ⟨k1, k2, k3, k4, k5⟩ := h.term z hz g hg
      exact ⟨k1, Nat.lt_of_lt_of_le k2 hf.size, k3, hv g k2 k4, k5⟩
  · exact fun g hg => ⟨(h.nc g hg).1, hv g (ownsRow_lt h.cls hg) (h.nc g hg).2.1, (h.nc g hg).2.2⟩
  · intro g hg
    rcases ho with ho | ho
    · exact h.nr g (ho ▸ hg)
    · rw [ho] at hg; cases hg
      exact ⟨hN, fun he => by have := ownsRow_lt h.fas he; omega⟩
/-- One more fact. -/
theorem RbOwn.addFa {N : Nat} {W W' : World} {vc vr vf v' : Value} {ys : List ClV} {c : Rb} {y : Fa} {n : Nat} {xs : List Value} (h : RbOwn N W vc vr vf ys c) (hN : N ≤ W.heap.size) (hr : W'.ownsRow 0 93 6 v' n xs) (hn : n = c.fas.length + 1) (hx : xs = c.fas.flatMap faC ++ faC y)
    (hf : Fr vf.ownBlock.toList W W') (ho : v'.ownBlock = vf.ownBlock ∨ v'.ownBlock = some W.heap.size) : RbOwn N W' vc vr v' ys ⟨c.cls, c.rps, c.fas ++ [y]⟩ := by
  subst hn hx
  have hv : ∀ g, g < W.heap.size → vf.ownBlock ≠ some g → v'.ownBlock ≠ some g := fun g hg hne he => by
    rcases ho with ho | ho
    · exact hne (ho ▸ he)
    · rw [ho] at he; cases he; omega
  refine ⟨h.eq, row_fr h.cls hf (fun g hg hm => (h.nc g hg).2.2 (by simpa using hm)), row_fr h.rps hf (fun g hg hm => (h.nr g hg).2 (by simpa using hm)), by simpa using hr, ?_, ?_, ?_, ?_, ?_, ?_⟩
  · exact fun z hz => (h.needs z hz).fr hf (fun g hg hm => (h.term z hz g (.inl hg)).2.2.2.2 (by simpa using hm))
  · exact fun z hz => (h.bars z hz).fr hf (fun g hg hm => (h.term z hz g (.inr hg)).2.2.2.2 (by simpa using hm))
  · exact fun z hz g hg => by
      obtain ⟨k1, k2, k3, k4, k5⟩ := h.term z hz g hg
      exact ⟨k1, Nat.lt_of_lt_of_le k2 hf.size, k3, k4, hv g k2 k5⟩
  · exact fun g hg => ⟨(h.nc g hg).1, (h.nc g hg).2.1, hv g (ownsRow_lt h.cls hg) (h.nc g hg).2.2⟩
  · exact fun g hg => ⟨(h.nr g hg).1, hv g (ownsRow_lt h.rps hg) (h.nr g hg).2⟩
  · intro g hg
    rcases ho with ho | ho
    · exact h.nf g (ho ▸ hg)
    · rw [ho] at hg; cases hg
      exact hN

structure ClM (x : Cl) : Prop where
  pub : 0 ≤ x.pub ∧ x.pub < 80
  f : 0 ≤ x.f ∧ x.f < x.t ∧ x.t ≤ 100
  gives : 0 ≤ x.gives ∧ x.gives < 8
  needs : TermM x.needs x.gives
  bars : TermM x.bars x.gives
structure RpM (n : Nat) (x : Rp) : Prop where
  cl : 0 ≤ x.cl ∧ x.cl < n
  pub : 0 ≤ x.pub ∧ x.pub < 100
  frm : 0 ≤ x.frm ∧ x.frm < 100
structure FaM (x : Fa) : Prop where
  thing : 0 ≤ x.thing ∧ x.thing < 3
  says : 0 ≤ x.says ∧ x.says < 6
  f : 0 ≤ x.f ∧ x.f < x.t ∧ x.t ≤ 100
  k : 0 ≤ x.kf ∧ x.kf < x.kt ∧ x.kt ≤ 100
/-- What Made returns. -/
structure MadeOk (c : Rb) : Prop where
  nc : c.cls.length ≤ 8
  nr : c.rps.length ≤ 3
  nf : c.fas.length ≤ 8
  cls : ∀ x, x ∈ c.cls → ClM x
  rps : ∀ x, x ∈ c.rps → RpM c.cls.length x
  fas : ∀ x, x ∈ c.fas → FaM x

theorem ascGo_of {g : Int} : ∀ (l : List Int) (last : Int), l.Pairwise (· < ·) → (∀ m, m ∈ l → last < m ∧ m < g) → ascGo g last l = true
  | [], _, _, _ => rfl
  | n :: l, last, h1, h2 => by
    rw [List.pairwise_cons] at h1
    simp only [ascGo, isInB, Bool.and_eq_true, decide_eq_true_eq]
    have := h2 n (by simp)
    exact ⟨⟨by omega, by omega⟩, ascGo_of l n h1.2 (fun m hm => ⟨h1.1 m hm, (h2 m (by simp [hm])).2⟩)⟩
theorem TermM.ascB {l : List Int} {g : Int} (h : TermM l g) : ascB l g = true := by
  simp only [Go.Proofs.YtahfpadaoobkfaaGreatDoor.ascB, Bool.and_eq_true, decide_eq_true_eq]
  exact ⟨by have := h.len; omega, ascGo_of l (-1) h.asc (fun m hm => by have := h.bnd m hm; omega)⟩
theorem ClM.clB {x : Cl} (h : ClM x) : clB x = true := by
  have h1 := h.pub; have h2 := h.f; have h3 := h.gives
  simp only [Go.Proofs.YtahfpadaoobkfaaGreatDoor.clB, spellB, secB, isInB, Bool.and_eq_true, decide_eq_true_eq]
  exact ⟨⟨⟨⟨⟨by omega, by omega⟩, ⟨by omega, by omega⟩, by omega, by omega⟩, by omega, by omega⟩, h.needs.ascB⟩, h.bars.ascB⟩
theorem RpM.rpB {n : Nat} {x : Rp} (h : RpM n x) : rpB n x = true := by
  have h1 := h.pub; have h2 := h.frm; have h3 := h.cl
  simp only [Go.Proofs.YtahfpadaoobkfaaGreatDoor.rpB, secB, isInB, Bool.and_eq_true, decide_eq_true_eq]
  omega
theorem FaM.faB {x : Fa} (h : FaM x) : faB x = true := by
  have h1 := h.thing; have h2 := h.says; have h3 := h.f; have h4 := h.k
  simp only [Go.Proofs.YtahfpadaoobkfaaGreatDoor.faB, spellB, secB, isInB, Bool.and_eq_true, decide_eq_true_eq]
  omega
theorem MadeOk.valid {c : Rb} (h : MadeOk c) : validB c = true := by
  have h1 := h.nc; have h2 := h.nr; have h3 := h.nf
  simp only [validB, Bool.and_eq_true, decide_eq_true_eq, List.all_eq_true]
  exact ⟨⟨⟨⟨⟨by omega, by omega⟩, by omega⟩, fun x hx => (h.cls x hx).clB⟩, fun x hx => (h.rps x hx).rpB⟩, fun x hx => (h.fas x hx).faB⟩
theorem I64.of {x : Int} (h1 : 0 ≤ x) (h2 : x ≤ 100000000) : I64 x := ⟨by omega, by omega⟩
theorem MadeOk.ok {c : Rb} (h : MadeOk c) : RbOk c := by
  refine ⟨fun x hx => ?_, fun x hx => ?_, fun x hx => ?_⟩
  · have k := h.cls x hx
    have h1 := k.pub; have h2 := k.f; have h3 := k.gives
    exact ⟨I64.of (by omega) (by omega), I64.of (by omega) (by omega), I64.of (by omega) (by omega), I64.of (by omega) (by omega), fun m hm => by have := k.needs.bnd m hm; exact I64.of (by omega) (by omega), fun m hm => by have := k.bars.bnd m hm; exact I64.of (by omega) (by omega)⟩
  · have k := h.rps x hx
    have h1 := k.pub; have h2 := k.frm; have h3 := k.cl; have h4 := h.nc
    exact ⟨I64.of (by omega) (by omega), I64.of (by omega) (by omega), I64.of (by omega) (by omega)⟩
  · have k := h.fas x hx
    have h1 := k.thing; have h2 := k.says; have h3 := k.f; have h4 := k.k
    exact ⟨I64.of (by omega) (by omega), I64.of (by omega) (by omega), I64.of (by omega) (by omega), I64.of (by omega) (by omega), I64.of (by omega) (by omega), I64.of (by omega) (by omega)⟩

end Go.Proofs.YtahfpadaoobkfaaGreatDoor
