/-
  The journal's laws: JournalKeeps, the plain part and its argument.
-/
import Derived.Test.YtfmlaepgnfphiaaGreatDoorQLP
namespace Go.Proofs.YtfmlaepgnfphiaaGreatDoor
open Go.RowKit Go.Lib

/-- What the law knows behind a round: the disk is as the journal says, or the power is off. -/
structure KpP (m : Nat) (D : Dk) (L : List ByteArray) (br : Bool) : Prop where
  len : D.dur.length = m
  fit : encN L ≤ m
  way : (br = false ∧ CleanL D L) ∨ (br = true ∧ D.off = true ∧ ∃ g, Hurt D L (L ++ g) ∧ encN (L ++ g) ≤ m)
theorem KpP.hurt {m : Nat} {D : Dk} {L : List ByteArray} {br : Bool} (h : KpP m D L br) : ∃ g, Hurt D L (L ++ g) ∧ encN (L ++ g) ≤ m := by
  rcases h.way with ⟨_, hc⟩ | ⟨_, _, g, hg, hf⟩
  · exact ⟨[], by rw [List.append_nil]; exact hc.hurt, by rw [List.append_nil]; exact h.fit⟩
  · exact ⟨g, hg, hf⟩
theorem KpP.few {m : Nat} {D : Dk} {L : List ByteArray} {br : Bool} (h : KpP m D L br) : D.pend.length ≤ 4000000000 := by
  obtain ⟨g, hg, _⟩ := h.hurt
  have := hg.few
  omega
theorem KpP.cut {m : Nat} {D : Dk} {L : List ByteArray} {br : Bool} (h : KpP m D L br) (n : Int) (hn : 1 ≤ n) : KpP m (D.cutD n) L br := by
  rcases h.way with ⟨hb, hc⟩ | ⟨hb, ho, g, hg, hf⟩
  · have ho : D.off = false := hc.off
    have e : D.cutD n = D.cut n.toNat := by
      simp only [Dk.cutD, ho, Bool.false_eq_true, if_false]
      rw [if_neg (by omega)]
    rw [e]
    exact ⟨h.len, h.fit, .inl ⟨hb, hc.cut _ (by omega)⟩⟩
  · have e : D.cutD n = D := by simp [Dk.cutD, ho]
    rw [e]
    exact h
theorem KpP.app {m : Nat} {D : Dk} {L : List ByteArray} {br : Bool} (h : KpP m D L br) (l : List ByteArray) (hl : l.any longB = false) : ∃ n L' br' D', D.apps (tp0.adds L) br l = (n, tp0.adds L', br', D') ∧ KpP m D' L' br' ∧ ((n = 0 ∧ L' = L ++ l) ∨ ((n == 0) = false ∧ L' = L)) := by
  rcases h.way with ⟨hb, hc⟩ | ⟨hb, ho, g, hg, hf⟩
  · subst hb
    obtain ⟨n, L', br', D', h1, h2⟩ := append_pow hc (by rw [h.len]; exact h.fit) l hl
    have hln : D'.dur.length = m := by rw [h2.len]; exact h.len
    have hft : encN L' ≤ m := by have := h2.fit; rw [h.len] at this; exact this
    refine ⟨n, L', br', D', h1, ?_⟩
    rcases h2.way with ⟨rfl, h3, h4, h5⟩ | ⟨rfl, h3, h4, h5⟩ | ⟨rfl, h3, h4, h5, h6, h7⟩
    · exact ⟨⟨hln, hft, .inl ⟨h4, h5⟩⟩, .inl ⟨rfl, h3⟩⟩
    · exact ⟨⟨hln, hft, .inl ⟨h4, by rw [h5, h3]; exact hc⟩⟩, .inr ⟨rfl, h3⟩⟩
    · exact ⟨⟨hln, hft, .inr ⟨h4, h5, l, by rw [h3]; exact h6, by rw [h3, ← h.len]; exact h7⟩⟩, .inr ⟨rfl, h3⟩⟩
  · subst hb
    exact ⟨100, L, true, D, apps_broken D _ l, h, .inr ⟨rfl, rfl⟩⟩
theorem KpP.opens {m : Nat} {D : Dk} {L : List ByteArray} {br : Bool} (h : KpP m D L br) (hD : D.Ok) (keep : List Int) (torn : Int) : ∃ Lr D', (D.crash keep torn).opens = (0, some (tp0.adds Lr), D') ∧ KpP m D' Lr false ∧ Lr.take L.length = L ∧ L.length ≤ Lr.length := by
  obtain ⟨g, hg, hf⟩ := h.hurt
  obtain ⟨Lr, D', hL, h1, h2, h3⟩ := hg.opens hD keep torn
  refine ⟨Lr, D', h1, ⟨by rw [h3]; exact h.len, ?_, .inl ⟨rfl, h2.any⟩⟩, ?_, ?_⟩
  · rcases hL with rfl | rfl
    · exact h.fit
    · exact hf
  · rcases hL with rfl | rfl
    · exact List.take_length
    · exact List.take_left
  · rcases hL with rfl | rfl
    · exact Nat.le_refl _
    · rw [List.length_append]; omega
/-- The first elements of a slice. -/
theorem Sl.cut {w : World} {a : Option Addr} {n c : Nat} {cs : List Value} (h : Sl w (.slice a n c) n cs) (k : Nat) (hk : k ≤ n) : Sl w (.slice a k c) k (cs.take k) := by
  obtain ⟨a', c', he, h1, h2, h3⟩ := h
  cases he
  refine ⟨a, c, rfl, by omega, h2, fun h0 => ?_⟩
  obtain ⟨b, off, rfl, hc⟩ := h3 (by omega)
  refine ⟨b, off, rfl, fun j u hu => hc j u ?_⟩
  rcases Nat.lt_or_ge j k with hj | hj
  · rw [List.getElem?_take_of_lt hj] at hu
    exact hu
  · rw [List.getElem?_eq_none (by simp; omega)] at hu
    cases hu
theorem Sl.caps {w : World} {a : Option Addr} {n c : Nat} {cs : List Value} (h : Sl w (.slice a n c) n cs) : n ≤ c ∧ c ≤ 9223372036854775807 := by
  obtain ⟨a', c', he, h1, h2, _⟩ := h
  cases he
  exact ⟨h1, h2⟩

/-- A call of the law: its kind, a group, how many writes or bytes, which writes survive. -/
structure OpV where
  kind : Int
  lv : Value
  l : List ByteArray
  n : Int
  ka : Option Addr
  kc : Nat
  keep : List Int
structure OpV.Ok (y : OpV) (w : World) : Prop where
  k1 : -9223372036854775808 ≤ y.kind
  k2 : y.kind ≤ 9223372036854775807
  n1 : -9223372036854775808 ≤ y.n
  n2 : y.n ≤ 9223372036854775807
  grp : GOk w y.lv y.l
  row : RowI w y.ka y.kc y.keep
instance : Inhabited OpV := ⟨⟨0, .slice none 0 0, [], 0, none, 0, []⟩⟩
/-- A slice of such calls. -/
structure RowOp (W : World) (a : Option Addr) (cap : Nat) (l : List OpV) : Prop where
  le : l.length ≤ cap
  max : cap ≤ 9223372036854775807
  ok : ∀ y, y ∈ l → y.Ok W
  cells : 0 < l.length → ∃ b off, a = some ⟨b, off, none⟩ ∧ ∀ i, (h : i < l.length) → W.cell? ⟨b, off + i * 4, none⟩ = some (.int .i64 l[i].kind) ∧ W.cell? ⟨b, off + i * 4 + 1, none⟩ = some l[i].lv ∧ W.cell? ⟨b, off + i * 4 + 2, none⟩ = some (.int .i64 l[i].n) ∧ W.cell? ⟨b, off + i * 4 + 3, none⟩ = some (.slice l[i].ka l[i].keep.length l[i].kc)

end Go.Proofs.YtfmlaepgnfphiaaGreatDoor
