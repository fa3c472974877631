/-
  A disk that a law itself has made; the law's helpers pick, cut, sane.
-/
import Derived.Test.YtanjjgodlgmfcaaDkC
namespace Go.Proofs.Ytanjjgodlgmfcaa
open Go.RowKit Go.Lib

/-- A disk that was made since the world w. -/
structure Own (w w' : World) (b : Nat) (fp : List Nat) (D : Dk) : Prop where
  at_ : DkA w' b fp D
  fr : Fr [] w w'
  new : ∀ k, k ∈ fp → w.heap.size ≤ k

def OwnStep (w : World) (b : Nat) (r : Value) (D : Dk) (e : Ending) (w' : World) : Prop := e = .returned r ∧ ∃ fp, Own w w' b fp D

theorem Own.step {w w1 w2 : World} {b : Nat} {fp : List Nat} {D D' : Dk} {r : Value} {e : Ending} (h : Own w w1 b fp D) (k : DkStep b fp r D' w1 e w2) : OwnStep w b r D' e w2 := by
  obtain ⟨he, fp', h1, h2⟩ := k
  exact ⟨he, fp', h1, h.fr.step h2.fr fun i hi => .inr (h.new i hi), fun i hi => by
    rcases h2.sub i hi with h3 | h3
    · exact h.new i h3
    · exact Nat.le_trans h.fr.size h3⟩

theorem new_own (n : Nat) (w : World) (h1 : 1 ≤ n) (h2 : n ≤ 4194304) : Calls Try.prog 13 #[.int .i64 n] w fun e w' => ∃ b fp, e = .returned (.tuple #[.pointer (some ⟨b, 0, none⟩), .int .i64 0]) ∧ Own w w' b fp (Dk.new n) :=
  (new_ok n w h1 h2).mono fun _ _ ⟨b, fp, he, h1, h2, h3⟩ => ⟨b, fp, he, h1, h2, h3⟩

/-- The law's w may be older than the disk's. -/
theorem Own.older {w0 w w' : World} {b : Nat} {fp : List Nat} {D : Dk} (h : Own w w' b fp D) (hf : Fr [] w0 w) : Own w0 w' b fp D :=
  ⟨h.at_, hf.trans h.fr, fun k hk => Nat.le_trans hf.size (h.new k hk)⟩

theorem Own.same {w w1 w2 : World} {b : Nat} {fp : List Nat} {D : Dk} (h : Own w w1 b fp D) (hf : Fr [] w1 w2) : Own w w2 b fp D :=
  ⟨h.at_.keep hf (by simp), h.fr.trans hf, h.new⟩

theorem write_own {w w1 : World} {b : Nat} {fp : List Nat} {D : Dk} (h : Own w w1 b fp D) (off : Int) (s : ByteArray) (ho : -9223372036854775808 ≤ off) (ho2 : off ≤ 9223372036854775807) (hs : s.size ≤ 9223372036854775807) (hp : D.pend.length ≤ 4294967296) :
    Calls Try.prog 21 #[.pointer (some ⟨b, 0, none⟩), .int .i64 off, .string s] w1 (OwnStep w b (.int .i64 (D.writeE off s)) (D.writeD off s)) :=
  (write_dk b fp D off s w1 h.at_ ho ho2 hs hp).mono fun _ _ k => h.step k
theorem sync_own {w w1 : World} {b : Nat} {fp : List Nat} {D : Dk} (h : Own w w1 b fp D) : Calls Try.prog 23 #[.pointer (some ⟨b, 0, none⟩)] w1 (OwnStep w b (.int .i64 D.syncE) D.syncD) :=
  (sync_dk b fp D w1 h.at_).mono fun _ _ k => h.step k
theorem cut_own {w w1 : World} {b : Nat} {fp : List Nat} {D : Dk} (h : Own w w1 b fp D) (n : Int) (hn : n ≤ 9223372036854775807) : Calls Try.prog 24 #[.pointer (some ⟨b, 0, none⟩), .int .i64 n] w1 (OwnStep w b (.int .i64 (D.cutE n)) (D.cutD n)) :=
  (cut_dk b fp D n w1 h.at_ hn).mono fun _ _ ⟨he, h1, h2⟩ => h.step ⟨he, fp, h1, h2, fun _ h => .inl h⟩
theorem crash_own {w w1 : World} {b : Nat} {fp : List Nat} {D : Dk} (h : Own w w1 b fp D) (sv : Value) (keep : List Int) (torn : Int) (hI : IntsB w1.heap.size w1 sv keep) (hreach : keep.length * 8 ≤ 140737488351232) (hwf : ∀ x, x ∈ keep → -9223372036854775808 ≤ x ∧ x ≤ 9223372036854775807)
    (ht : -9223372036854775808 ≤ torn) (ht2 : torn ≤ 9223372036854775807) :
    Calls Try.prog 25 #[.pointer (some ⟨b, 0, none⟩), sv, .int .i64 torn] w1 (OwnStep w b (.int .i64 0) (D.crash keep torn)) :=
  (crash_dk b fp sv D keep torn w1 h.at_ hI hreach hwf ht ht2).mono fun _ _ k => h.step k
theorem read_own {w w1 : World} {b : Nat} {fp : List Nat} {D : Dk} (h : Own w w1 b fp D) (off n : Int) (ho : -9223372036854775808 ≤ off) (ho2 : off ≤ 9223372036854775807) (hn : -9223372036854775808 ≤ n) (hn2 : n ≤ 9223372036854775807) :
    Calls Try.prog 14 #[.pointer (some ⟨b, 0, none⟩), .int .i64 off, .int .i64 n] w1 fun e w' => e = .returned (.tuple #[.string ⟨(D.readS off n).toArray⟩, .int .i64 (D.readE off n)]) ∧ w1 = w' := read_dk b fp D off n w1 h.at_ ho ho2 hn hn2
theorem size_own {w w1 : World} {b : Nat} {fp : List Nat} {D : Dk} (h : Own w w1 b fp D) : Calls Try.prog 16 #[.pointer (some ⟨b, 0, none⟩)] w1 fun e w' => e = .returned (.int .i64 D.dur.length) ∧ w1 = w' := size_dk b fp D w1 h.at_
theorem pending_own {w w1 : World} {b : Nat} {fp : List Nat} {D : Dk} (h : Own w w1 b fp D) : Calls Try.prog 17 #[.pointer (some ⟨b, 0, none⟩)] w1 fun e w' => e = .returned (.int .i64 D.pend.length) ∧ w1 = w' := pending_dk b fp D w1 h.at_

/-- An index in 0 .. n - 1. -/
def pickI (c n : Int) : Int := (if c < 0 then -(c + 1) else c) % n
theorem pickI_bound (c n : Int) (h : 1 ≤ n) : 0 ≤ pickI c n ∧ pickI c n < n := ⟨Int.emod_nonneg _ (by omega), Int.emod_lt_of_pos _ (by omega)⟩

set_option maxHeartbeats 400000 in
theorem pick_any (c n : Int) (w : World) (hc : -9223372036854775808 ≤ c) (hc2 : c ≤ 9223372036854775807) (hn : 1 ≤ n) (hn2 : n ≤ 9223372036854775807) :
    Calls Try.prog 15 #[.int .i64 c, .int .i64 n] w fun e w' => e = .returned (.int .i64 (pickI c n)) ∧ w = w' := by
  by_cases h : c < 0
  · have h1 : 0 ≤ -(c + 1) := by omega
    have e : pickI c n = (-(c + 1)).tmod n := by
      unfold pickI; rw [if_pos h, Int.tmod_eq_emod_of_nonneg h1]
    rw [e]
    go_enter Try.func15, Try.ntmps15
    go_wp2
    go_ret
    exact ⟨by simp, rfl⟩
  · have e : pickI c n = c % n := by unfold pickI; rw [if_neg h]
    rw [e]
    go_enter Try.func15, Try.ntmps15
    go_wp2
    go_ret
    exact ⟨by simp, rfl⟩

set_option maxHeartbeats 400000 in
theorem cut_str (s : ByteArray) (n : Nat) (w : World) (hs : s.size ≤ 9223372036854775807) (hn : n ≤ 9223372036854775807) :
    Calls Try.prog 22 #[.string s, .int .i64 n] w fun e w' => e = .returned (.string (s.extract 0 (min s.size n))) ∧ w = w' := by
  go_enter Try.func22, Try.ntmps22
  go_wp2
  go_ret
  refine ⟨?_, rfl⟩
  have e : (min (s.size : Int) n).toNat = min s.size n := by omega
  simp [e]

/-! ### sane -/
def sD1 : Dk := (Dk.new 4).writeD 0 ⟨#[97, 98]⟩
def sD2 : Dk := sD1.writeD 1 ⟨#[120, 121]⟩
def sD3 : Dk := sD2.crash [1, 0] 1
def sD4 : Dk := sD3.cutD 1
def sD5 : Dk := sD4.writeD 3 ⟨#[113]⟩

theorem sort10 : sortI [1, 0] = [0, 1] := by simp [sortI, List.mergeSort, List.MergeSort.Internal.splitInTwo]
theorem sD2_eq : sD2 = ⟨false, 0, [0, 0, 0, 0], [97, 120, 121, 0], [(0, ⟨#[97, 98]⟩), (1, ⟨#[120, 121]⟩)]⟩ := by rfl
theorem survL10 : survL 2 [1, 0] = [0, 1] := by unfold survL; rw [sort10]; rfl
theorem sD3_eq : sD3 = ⟨false, 0, [97, 120, 0, 0], [97, 120, 0, 0], []⟩ := by
  unfold sD3 Dk.crash
  rw [sD2_eq]
  simp only [List.length_cons, List.length_nil, Nat.zero_add, Nat.reduceAdd]
  rw [survL10]
  rfl
theorem sD5_eq : sD5 = ⟨true, 0, [97, 120, 0, 0], [97, 120, 0, 113], [(3, ⟨#[113]⟩)]⟩ := by
  unfold sD5 sD4
  rw [sD3_eq]
  rfl

end Go.Proofs.Ytanjjgodlgmfcaa
