/-
  The plain model of a journal (chapters 1, 2, 10): how integers, strings and records are stored, and how a content is read.
-/
import Derived.Test.YtbogljpafpkikaaGreatDoorQDgM2
namespace Go.Proofs.YtbogljpafpkikaaGreatDoor
open Go.RowKit Go.Lib

/-- An integer as a natural number, and back. -/
def zig (n : Int) : Nat := if n < 0 then (-2 * n - 1).toNat else (2 * n).toNat
def unz (z : Nat) : Int := if z % 2 = 0 then ((z / 2 : Nat) : Int) else -((z / 2 : Nat) : Int) - 1
/-- The groups of seven bits. -/
def encZ (z : Nat) : List UInt8 := if z < 128 then [UInt8.ofNat z] else UInt8.ofNat (z % 128 + 128) :: encZ (z / 128)
termination_by z
decreasing_by omega
def getGo (s : List UInt8) (p : Nat) : Nat → Nat → Nat → Option (Int × Nat)
  | 0, _, _ => none
  | f + 1, i, z =>
    match s[p + i]? with
    | none => none
    | some b =>
      if 128 ≤ b.toNat then getGo s p f (i + 1) (z + b.toNat % 128 * 2 ^ (7 * i))
      else if (b.toNat = 0 ∧ 0 < i) ∨ unz (z + b.toNat % 128 * 2 ^ (7 * i)) < -4611686018427387903 then none
      else some (unz (z + b.toNat % 128 * 2 ^ (7 * i)), p + i + 1)
def getI (s : List UInt8) (p : Nat) : Option (Int × Nat) := getGo s p 9 0 0
def getS (s : List UInt8) (p : Nat) : Option (List UInt8 × Nat) :=
  match getI s p with
  | none => none
  | some (n, q) => if n < 0 ∨ 65536 < n ∨ (s.length : Int) - q < n then none else some ((s.drop q).take n.toNat, q + n.toNat)

def bts (s : ByteArray) : List UInt8 := s.data.toList
def str (l : List UInt8) : ByteArray := ⟨l.toArray⟩
theorem bts_str (l : List UInt8) : bts (str l) = l := rfl
theorem str_bts (s : ByteArray) : str (bts s) = s := rfl
theorem bts_len (s : ByteArray) : (bts s).length = s.size := rfl
theorem str_size (l : List UInt8) : (str l).size = l.length := rfl

def chainM (h r : ByteArray) : ByteArray := shaB (str (2 :: (bts h ++ bts r)))
theorem chainM_size (h r : ByteArray) : (chainM h r).size = 32 := shaB_size _
/-- Records as they are stored. -/
structure Tp where
  recs : List ByteArray
  head : ByteArray
  size : Nat
def putS (r : ByteArray) : List UInt8 := encZ (2 * r.size) ++ bts r
def recL (h r : ByteArray) : List UInt8 := 1 :: (putS r ++ bts (chainM h r))
def Tp.add (t : Tp) (r : ByteArray) : Tp := ⟨t.recs ++ [r], chainM t.head r, t.size + (recL t.head r).length⟩
def Tp.adds (t : Tp) (l : List ByteArray) : Tp := l.foldl Tp.add t
def encAll (h : ByteArray) : List ByteArray → List UInt8
  | [] => []
  | r :: l => recL h r ++ encAll (chainM h r) l
def head0 : ByteArray := str (List.replicate 32 0)
def tp0 : Tp := ⟨[], head0, 0⟩
/-- A content is read. -/
def ldM (s : List UInt8) : Nat → Tp → Option Tp
  | 0, _ => none
  | f + 1, t =>
    match s[t.size]? with
    | none => some t
    | some b =>
      if b = 0 then some t
      else if b ≠ 1 then none
      else match getS s (t.size + 1) with
        | none => none
        | some (r, q) =>
          if s.length < q + 32 then none
          else if recL t.head (str r) = (s.drop t.size).take (q + 32 - t.size) then ldM s f (t.add (str r)) else none
def openM (s : List UInt8) : Option Tp := ldM s (s.length + 1) tp0

/-! ### What is stored is read back -/
theorem encZ_one {z : Nat} (h : z < 128) : encZ z = [UInt8.ofNat z] := by rw [encZ, if_pos h]
theorem encZ_more {z : Nat} (h : ¬ z < 128) : encZ z = UInt8.ofNat (z % 128 + 128) :: encZ (z / 128) := by rw [encZ, if_neg h]
theorem encZ_len (z : Nat) (h : z < 2 ^ 21) : (encZ z).length ≤ 3 ∧ 1 ≤ (encZ z).length := by
  by_cases h1 : z < 128
  · rw [encZ_one h1]; simp
  · rw [encZ_more h1]
    by_cases h2 : z / 128 < 128
    · rw [encZ_one h2]; simp
    · rw [encZ_more h2, encZ_one (by omega)]; simp
theorem getGo_at (s : List UInt8) (p : Nat) (f i z : Nat) {b : UInt8} (h : s[p + i]? = some b) : getGo s p (f + 1) i z =
    if 128 ≤ b.toNat then getGo s p f (i + 1) (z + b.toNat % 128 * 2 ^ (7 * i))
      else if (b.toNat = 0 ∧ 0 < i) ∨ unz (z + b.toNat % 128 * 2 ^ (7 * i)) < -4611686018427387903 then none
      else some (unz (z + b.toNat % 128 * 2 ^ (7 * i)), p + i + 1) := by
  rw [getGo, h]
theorem unz_two (n : Nat) : unz (2 * n) = n := by simp [unz]
theorem getI_enc (a c : List UInt8) (n : Nat) (hn : n ≤ 65536) : getI (a ++ encZ (2 * n) ++ c) a.length = some ((n : Int), a.length + (encZ (2 * n)).length) := by
  have small : ∀ x : Nat, x < 256 → (UInt8.ofNat x).toNat = x := fun x hx => by simp; omega
  have at0 : ∀ (x : UInt8) (l : List UInt8) (k : Nat) (m : List UInt8), m.length = k → (a ++ (m ++ x :: l) ++ c)[a.length + k]? = some x := fun x l k m hk => by
    rw [List.append_assoc, List.getElem?_append_right (by omega), Nat.add_sub_cancel_left, List.append_assoc, List.getElem?_append_right (by omega), hk, Nat.sub_self]
    rfl
  have fin : ∀ (k : Nat) (q : Nat) (z : Nat), z = 2 * n → q = a.length + k → (some (unz z, q) : Option (Int × Nat)) = some ((n : Int), a.length + k) := fun k q z hz hq => by rw [hz, unz_two, hq]
  have nn : ∀ z : Nat, z = 2 * n → ¬ unz z < -4611686018427387903 := fun z hz => by rw [hz, unz_two]; omega
  unfold getI
  by_cases h1 : 2 * n < 128
  · rw [encZ_one h1]
    have e0 := at0 (UInt8.ofNat (2 * n)) [] 0 [] rfl
    rw [List.nil_append] at e0
    rw [getGo_at _ _ _ _ _ e0, small _ (by omega), if_neg (by omega), if_neg (by
      rintro (⟨_, h⟩ | h)
      · omega
      · exact nn _ (by simp; omega) h)]
    exact fin 1 _ _ (by simp; omega) rfl
  · rw [encZ_more h1]
    have e0 : (a ++ (UInt8.ofNat (2 * n % 128 + 128) :: encZ (2 * n / 128)) ++ c)[a.length + 0]? = some (UInt8.ofNat (2 * n % 128 + 128)) := at0 _ _ 0 [] rfl
    rw [getGo_at _ _ _ _ _ e0, small _ (by omega), if_pos (by omega)]
    by_cases h2 : 2 * n / 128 < 128
    · rw [encZ_one h2] at *
      have e1 := at0 (UInt8.ofNat (2 * n / 128)) [] 1 [UInt8.ofNat (2 * n % 128 + 128)] rfl
      rw [List.singleton_append] at e1
      rw [getGo_at _ _ _ _ _ e1, small _ (by omega), if_neg (by omega), if_neg (by
        rintro (⟨h, _⟩ | h)
        · omega
        · exact nn _ (by simp; omega) h)]
      exact fin 2 _ _ (by simp; omega) rfl
    · rw [encZ_more h2] at *
      have e1 : (a ++ (UInt8.ofNat (2 * n % 128 + 128) :: UInt8.ofNat (2 * n / 128 % 128 + 128) :: encZ (2 * n / 128 / 128)) ++ c)[a.length + 1]? = some (UInt8.ofNat (2 * n / 128 % 128 + 128)) := at0 _ _ 1 [_] rfl
      rw [getGo_at _ _ _ _ _ e1, small _ (by omega), if_pos (by omega)]
      rw [encZ_one (by omega)] at *
      have e2 := at0 (UInt8.ofNat (2 * n / 128 / 128)) [] 2 [UInt8.ofNat (2 * n % 128 + 128), UInt8.ofNat (2 * n / 128 % 128 + 128)] rfl
      rw [List.cons_append, List.singleton_append] at e2
      rw [getGo_at _ _ _ _ _ e2, small _ (by omega), if_neg (by omega), if_neg (by
        rintro (⟨h, _⟩ | h)
        · omega
        · exact nn _ (by simp; omega) h)]
      exact fin 3 _ _ (by simp; omega) rfl
theorem getS_put (a c : List UInt8) (r : ByteArray) (hr : r.size ≤ 65536) : getS (a ++ putS r ++ c) a.length = some (bts r, a.length + (putS r).length) := by
  have h := getI_enc a (bts r ++ c) r.size hr
  rw [putS, show a ++ (encZ (2 * r.size) ++ bts r) ++ c = a ++ encZ (2 * r.size) ++ (bts r ++ c) by simp]
  unfold getS
  rw [h]
  dsimp only
  have hl : (a ++ encZ (2 * r.size) ++ (bts r ++ c)).length = a.length + (encZ (2 * r.size)).length + r.size + c.length := by simp [bts_len]; omega
  rw [if_neg (by rw [hl]; omega), Int.toNat_natCast]
  have hd : ((a ++ encZ (2 * r.size) ++ (bts r ++ c)).drop (a.length + (encZ (2 * r.size)).length)).take r.size = bts r := by
    rw [List.drop_left' (by simp), List.take_left' (bts_len r)]
  rw [hd, List.length_append, bts_len, Nat.add_assoc]

theorem recL_len (h r : ByteArray) : (recL h r).length = 33 + (putS r).length := by simp [recL, bts_len, chainM_size]; omega
theorem ldM_enc (z : Nat) : ∀ (l : List ByteArray) (a : List UInt8) (t : Tp) (f : Nat), (∀ r, r ∈ l → r.size ≤ 65536) → t.size = a.length → l.length < f → ldM (a ++ encAll t.head l ++ List.replicate z 0) f t = some (t.adds l)
  | [], a, t, f, _, ht, hf => by
    obtain ⟨g, rfl⟩ : ∃ g, f = g + 1 := ⟨f - 1, by simp at hf; omega⟩
    rw [ldM, encAll, List.append_nil, ht]
    cases z with
    | zero => rw [List.replicate_zero, List.append_nil, List.getElem?_eq_none (Nat.le_refl _)]; rfl
    | succ z => rw [List.getElem?_append_right (Nat.le_refl _), Nat.sub_self]; rfl
  | r :: l, a, t, f, hr, ht, hf => by
    obtain ⟨g, rfl⟩ : ∃ g, f = g + 1 := ⟨f - 1, by simp at hf; omega⟩
    have e0 : (a ++ encAll t.head (r :: l) ++ List.replicate z 0)[t.size]? = some 1 := by
      rw [encAll, recL, ht, List.append_assoc, List.getElem?_append_right (Nat.le_refl _), Nat.sub_self]; rfl
    have es : a ++ encAll t.head (r :: l) ++ List.replicate z 0 = (a ++ [1]) ++ putS r ++ (bts (chainM t.head r) ++ (encAll (chainM t.head r) l ++ List.replicate z 0)) := by simp [encAll, recL]
    have e1 : getS (a ++ encAll t.head (r :: l) ++ List.replicate z 0) (t.size + 1) = some (bts r, a.length + 1 + (putS r).length) := by
      have h := getS_put (a ++ [1]) (bts (chainM t.head r) ++ (encAll (chainM t.head r) l ++ List.replicate z 0)) r (hr r (by simp))
      rw [← es, List.length_append, List.length_singleton] at h
      rw [ht]; exact h
    rw [ldM, e0]
    dsimp only
    rw [if_neg (by decide), if_neg (by decide), e1]
    dsimp only
    rw [str_bts, if_neg (by simp [encAll, recL, bts_len, chainM_size]; omega)]
    rw [if_pos (by
      rw [ht, encAll, List.append_assoc, List.drop_left, List.append_assoc, List.take_left' (by rw [recL_len]; omega)])]
    have ih := ldM_enc z l (a ++ recL t.head r) (t.add r) g (fun x hx => hr x (by simp [hx])) (by simp [Tp.add, ht]) (by simp at hf; omega)
    rw [show a ++ encAll t.head (r :: l) ++ List.replicate z 0 = a ++ recL t.head r ++ encAll (t.add r).head l ++ List.replicate z 0 by simp [encAll, Tp.add]]
    rw [ih]; rfl
theorem encAll_len (l : List ByteArray) : ∀ h, l.length ≤ (encAll h l).length := by
  induction l with
  | nil => intro h; exact Nat.le_refl _
  | cons r l ih => intro h; rw [encAll, List.length_append, List.length_cons, recL_len]; have := ih (chainM h r); omega
/-- The records of a content are those that were stored. -/
theorem openM_enc (z : Nat) (l : List ByteArray) (h : ∀ r, r ∈ l → r.size ≤ 65536) : openM (encAll head0 l ++ List.replicate z 0) = some (tp0.adds l) :=
  ldM_enc z l [] tp0 _ h rfl (by have := encAll_len l head0; simp only [List.length_append, List.length_replicate]; show l.length < (encAll head0 l).length + z + 1; omega)
theorem adds_size (l : List ByteArray) : ∀ t : Tp, (t.adds l).size = t.size + (encAll t.head l).length := by
  induction l with
  | nil => intro t; rfl
  | cons r l ih => intro t; show ((t.add r).adds l).size = _; rw [ih, encAll, List.length_append]; simp only [Tp.add]; omega
theorem adds_recs (l : List ByteArray) : ∀ t : Tp, (t.adds l).recs = t.recs ++ l := by
  induction l with
  | nil => intro t; simp [Tp.adds]
  | cons r l ih => intro t; show ((t.add r).adds l).recs = _; rw [ih]; simp [Tp.add]
def headOf (h : ByteArray) (l : List ByteArray) : ByteArray := l.foldl chainM h
theorem adds_head (l : List ByteArray) : ∀ t : Tp, (t.adds l).head = headOf t.head l := by
  induction l with
  | nil => intro t; rfl
  | cons r l ih => intro t; show ((t.add r).adds l).head = _; rw [ih]; rfl
theorem encAll_append (l m : List ByteArray) : ∀ h, encAll h (l ++ m) = encAll h l ++ encAll (headOf h l) m := by
  induction l with
  | nil => intro h; rfl
  | cons r l ih => intro h; rw [List.cons_append, encAll, ih, encAll, List.append_assoc]; rfl
theorem adds_append (l m : List ByteArray) (t : Tp) : t.adds (l ++ m) = (t.adds l).adds m := by simp [Tp.adds]

end Go.Proofs.YtbogljpafpkikaaGreatDoor
