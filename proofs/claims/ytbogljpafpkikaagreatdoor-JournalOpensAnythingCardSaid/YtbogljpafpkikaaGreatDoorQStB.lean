/-
  Slices that can be read; rules, findings and questions in memory.
-/
import Derived.Test.YtbogljpafpkikaaGreatDoorQBa
import Derived.Test.YtbogljpafpkikaaGreatDoorQPl
namespace Go.Proofs.YtbogljpafpkikaaGreatDoor
open Go.RowKit Go.Lib

/-- A slice of n elements whose cells are cs. -/
def Sl (w : World) (v : Value) (n : Nat) (cs : List Value) : Prop :=
  ∃ a cap, v = .slice a n cap ∧ n ≤ cap ∧ cap ≤ 9223372036854775807 ∧ (0 < n → ∃ b off, a = some ⟨b, off, none⟩ ∧ ∀ j u, cs[j]? = some u → w.cell? ⟨b, off + j, none⟩ = some u)

theorem Sl.fr {w w' : World} {v : Value} {n : Nat} {cs : List Value} {S : List Nat} (h : Sl w v n cs) (hf : Fr S w w') (hn : ∀ g, v.ownBlock = some g → g ∉ S) : Sl w' v n cs := by
  obtain ⟨a, cap, rfl, h1, h2, h3⟩ := h
  refine ⟨a, cap, rfl, h1, h2, fun h0 => ?_⟩
  obtain ⟨b, off, rfl, hc⟩ := h3 h0
  refine ⟨b, off, rfl, fun j u hu => ?_⟩
  have := hc j u hu
  exact (World.cell?_of_block (hf.block b (World.block_lt_of_cell? w _ this) (hn b rfl))).trans this
theorem Sl.same {w w' : World} {v : Value} {n : Nat} {cs : List Value} (h : Sl w v n cs) (hf : Fr [] w w') : Sl w' v n cs := h.fr hf (by simp)
theorem Sl.nil (w : World) : Sl w (.slice none 0 0) 0 [] := ⟨none, 0, rfl, by omega, by omega, by omega⟩
theorem Sl.len {w : World} {v : Value} {n : Nat} {cs : List Value} (h : Sl w v n cs) : n ≤ 9223372036854775807 := by
  obtain ⟨a, cap, rfl, h1, h2, _⟩ := h
  omega
theorem Sl.val {w : World} {v : Value} {n : Nat} {cs : List Value} (h : Sl w v n cs) : ∃ a cap, v = .slice a n cap := by
  obtain ⟨a, cap, rfl, _⟩ := h
  exact ⟨a, cap, rfl⟩
theorem Sl.at_ {w : World} {a : Option Addr} {cap n : Nat} {cs : List Value} (h : Sl w (.slice a n cap) n cs) (h0 : 0 < n) : ∃ b off, a = some ⟨b, off, none⟩ ∧ ∀ j u, cs[j]? = some u → w.cell? ⟨b, off + j, none⟩ = some u := by
  obtain ⟨a', cap', hv, h1, h2, h3⟩ := h
  cases hv
  exact h3 h0
theorem sl_of_row {w : World} {e : TypeId} {size : Nat} {v : Value} {n : Nat} {xs : List Value} (h : w.ownsRow 0 e size v n xs) : Sl w v n xs := by
  rcases h.2 with ⟨rfl, rfl⟩ | ⟨g, cap, cur, rfl, _, hg, r1, r2, r3, r4⟩
  · exact ⟨none, 0, rfl, by omega, by omega, by omega⟩
  · refine ⟨_, cap, rfl, r1, r2, fun _ => ⟨g, 0, rfl, fun j u hu => ?_⟩⟩
    have hj : j < xs.length := (List.getElem?_eq_some_iff.1 hu).1
    have hl := h.1
    rw [Nat.zero_add, cell_of_blk hg]
    rw [← r4, List.getElem?_take_of_lt (by omega), Array.getElem?_toList] at hu
    exact hu
theorem srcAt_of_sl {w : World} {v : Value} {n : Nat} {cs : List Value} (h : Sl w v n cs) (hv : v.ownBlock = none → v = .slice none 0 0) (hc : n = 0 → cs = []) : SrcAt w v n cs := by
  obtain ⟨a, cap, rfl, h1, h2, h3⟩ := h
  refine ⟨?_⟩
  rcases Nat.eq_zero_or_pos n with h0 | h0
  · have e := hc h0
    subst h0
    subst e
    cases a with
    | none => have := hv rfl; cases this; exact .inl ⟨rfl, rfl, rfl⟩
    | some ad => exact .inr ⟨ad, cap, rfl, by simp⟩
  · obtain ⟨b, off, rfl, hcell⟩ := h3 h0
    refine .inr ⟨_, cap, rfl, fun j u hu => ?_⟩
    have e : (⟨b, off, none⟩ : Addr).add j = ⟨b, off + j, none⟩ := by
      unfold Addr.add
      split
      · rename_i h; subst h; rfl
      · rfl
    rw [e]
    exact hcell j u hu

/-- Elements of k cells each: the j-th cell of the i-th. -/
theorem flat_get {α : Type} {enc : α → List Value} {k : Nat} (hk : ∀ x, (enc x).length = k) : ∀ (l : List α) (i : Nat) (h : i < l.length) (j : Nat), j < k → (l.flatMap enc)[i * k + j]? = (enc l[i])[j]?
  | [], i, h, _, _ => by simp at h
  | x :: l, 0, _, j, hj => by
    simp only [List.flatMap_cons, Nat.zero_mul, Nat.zero_add, List.getElem_cons_zero]
    rw [List.getElem?_append_left (by rw [hk]; exact hj)]
  | x :: l, i + 1, h, j, hj => by
    have hi : i < l.length := by simpa using h
    rw [List.flatMap_cons, List.getElem?_append_right (by rw [hk, Nat.succ_mul]; omega), hk, show (i + 1) * k + j - k = i * k + j by rw [Nat.succ_mul]; omega, flat_get hk l i hi j hj]
    simp
theorem flat_len {α : Type} {enc : α → List Value} {k : Nat} (hk : ∀ x, (enc x).length = k) (l : List α) : (l.flatMap enc).length = l.length * k := by
  induction l with
  | nil => simp
  | cons x l ih => rw [List.flatMap_cons, List.length_append, hk, ih, List.length_cons, Nat.succ_mul]; omega

abbrev intC (l : List Int) : List Value := l.map (Value.int .i64)
def rpC (x : Rp) : List Value := [.int .i64 x.cl, .int .i64 x.pub, .int .i64 x.frm]
def faC (x : Fa) : List Value := [.int .i64 x.thing, .int .i64 x.says, .int .i64 x.f, .int .i64 x.t, .int .i64 x.kf, .int .i64 x.kt]
def fdC (x : Fd) : List Value := [.int .i64 x.says, .bool x.holds, .int .i64 x.fact, .int .i64 x.cl]
/-- A clause with the two slices of its needs and bars. -/
structure ClV where
  x : Cl
  vn : Value
  vb : Value
instance : Inhabited ClV := ⟨⟨default, .slice none 0 0, .slice none 0 0⟩⟩
def clC (y : ClV) : List Value := [.int .i64 y.x.pub, .int .i64 y.x.f, .int .i64 y.x.t, y.vn, y.vb, .int .i64 y.x.gives]

abbrev I64 (x : Int) : Prop := -9223372036854775808 ≤ x ∧ x ≤ 9223372036854775807
abbrev IntsAt (w : World) (v : Value) (l : List Int) : Prop := Sl w v l.length (intC l)
structure ClOk (x : Cl) : Prop where
  pub : I64 x.pub
  f : I64 x.f
  t : I64 x.t
  gives : I64 x.gives
  needs : ∀ m, m ∈ x.needs → I64 m
  bars : ∀ m, m ∈ x.bars → I64 m
structure RpOk (x : Rp) : Prop where
  cl : I64 x.cl
  pub : I64 x.pub
  frm : I64 x.frm
structure FaOk (x : Fa) : Prop where
  thing : I64 x.thing
  says : I64 x.says
  f : I64 x.f
  t : I64 x.t
  kf : I64 x.kf
  kt : I64 x.kt
structure FdOk (x : Fd) : Prop where
  says : I64 x.says
  fact : I64 x.fact
  cl : I64 x.cl
structure QnOk (q : Qn) : Prop where
  thing : I64 q.thing
  says : I64 q.says
  at_ : I64 q.at_
  known : I64 q.known
structure RbOk (c : Rb) : Prop where
  cls : ∀ x, x ∈ c.cls → ClOk x
  rps : ∀ x, x ∈ c.rps → RpOk x
  fas : ∀ x, x ∈ c.fas → FaOk x

/-- The clauses in memory: a slice, and the slices of their terms. -/
structure ClsAt (w : World) (v : Value) (ys : List ClV) : Prop where
  sl : Sl w v ys.length (ys.flatMap clC)
  needs : ∀ y, y ∈ ys → IntsAt w y.vn y.x.needs
  bars : ∀ y, y ∈ ys → IntsAt w y.vb y.x.bars
/-- Rules in memory. -/
structure RbAt (w : World) (vc vr vf : Value) (ys : List ClV) (c : Rb) : Prop where
  eq : c.cls = ys.map (·.x)
  cls : ClsAt w vc ys
  rps : Sl w vr c.rps.length (c.rps.flatMap rpC)
  fas : Sl w vf c.fas.length (c.fas.flatMap faC)
  ok : RbOk c
theorem RbAt.same {w w' : World} {vc vr vf : Value} {ys : List ClV} {c : Rb} (h : RbAt w vc vr vf ys c) (hf : Fr [] w w') : RbAt w' vc vr vf ys c :=
  ⟨h.eq, ⟨h.cls.sl.same hf, fun y hy => (h.cls.needs y hy).same hf, fun y hy => (h.cls.bars y hy).same hf⟩, h.rps.same hf, h.fas.same hf, h.ok⟩
abbrev rbV (vc vr vf : Value) : Value := .agg #[vc, vr, vf]
abbrev qnV (q : Qn) : Value := .agg #[.int .i64 q.thing, .int .i64 q.says, .int .i64 q.at_, .int .i64 q.known]
abbrev faV (x : Fa) : Value := .agg #[.int .i64 x.thing, .int .i64 x.says, .int .i64 x.f, .int .i64 x.t, .int .i64 x.kf, .int .i64 x.kt]
abbrev rpV (x : Rp) : Value := .agg #[.int .i64 x.cl, .int .i64 x.pub, .int .i64 x.frm]
abbrev clV (y : ClV) : Value := .agg #[.int .i64 y.x.pub, .int .i64 y.x.f, .int .i64 y.x.t, y.vn, y.vb, .int .i64 y.x.gives]
abbrev fdV (x : Fd) : Value := .agg #[.int .i64 x.says, .bool x.holds, .int .i64 x.fact, .int .i64 x.cl]

end Go.Proofs.YtbogljpafpkikaaGreatDoor
