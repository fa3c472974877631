/-
  The law's helpers fits and put, and the parameters of a write.
-/
import Derived.Test.YtanjjgodlgmfcaaL9s
import Derived.Test.YtanjjgodlgmfcaaLawS
namespace Go.Proofs.Ytanjjgodlgmfcaa
open Go.RowKit Go.Lib

/-- The parameters of a write. -/
structure Wp where
  off : Int
  s : ByteArray
  sync : Bool

def Wp.Ok (x : Wp) : Prop := -9223372036854775808 ≤ x.off ∧ x.off ≤ 9223372036854775807 ∧ x.s.size ≤ 9223372036854775807

/-- A slice of them in memory. -/
structure RowW (W : World) (a : Option Addr) (cap : Nat) (l : List Wp) : Prop where
  le : l.length ≤ cap
  max : cap ≤ 9223372036854775807
  ok : ∀ x, x ∈ l → x.Ok
  cells : 0 < l.length → ∃ b off, a = some ⟨b, off, none⟩ ∧ b < W.heap.size ∧ ∀ i, (h : i < l.length) → W.cell? ⟨b, off + i * 3, none⟩ = some (.int .i64 l[i].off) ∧ W.cell? ⟨b, off + i * 3 + 1, none⟩ = some (.string l[i].s) ∧ W.cell? ⟨b, off + i * 3 + 2, none⟩ = some (.bool l[i].sync)

theorem RowW.keep {W W' : World} {a : Option Addr} {cap : Nat} {l : List Wp} (h : RowW W a cap l) (hb : Below W.heap.size W W') : RowW W' a cap l where
  le := h.le
  max := h.max
  ok := h.ok
  cells := fun h0 => by
    obtain ⟨b, off, h1, h2, h3⟩ := h.cells h0
    exact ⟨b, off, h1, Nat.lt_of_lt_of_le h2 hb.size, fun j hj => ⟨(hb.cell (p := ⟨b, off + j * 3, none⟩) h2).trans (h3 j hj).1, (hb.cell (p := ⟨b, off + j * 3 + 1, none⟩) h2).trans (h3 j hj).2.1, (hb.cell (p := ⟨b, off + j * 3 + 2, none⟩) h2).trans (h3 j hj).2.2⟩⟩

theorem list_of_each {α : Type} [Inhabited α] {Q : Nat → α → Prop} (n : Nat) (h : ∀ i, i < n → ∃ x, Q i x) : ∃ l : List α, l.length = n ∧ ∀ i, (hi : i < l.length) → Q i l[i] := by
  refine ⟨(List.range n).map fun i => if hi : i < n then Classical.choose (h i hi) else default, by simp, fun i hi => ?_⟩
  have hin : i < n := by simpa using hi
  simp only [List.getElem_map, List.getElem_range, hin, dif_pos]
  exact Classical.choose_spec (h i hin)

instance : Inhabited Wp := ⟨⟨0, ByteArray.empty, false⟩⟩

set_option maxRecDepth 100000 in
theorem rowW_of_open {H : Type} {enc : TypeId × Value → H} {W : World} {base : Nat} {v : Value} {d : DataW H} {p : List MemPlace}
    (k : Value.okWide Try.prog W .any base 51 v) (h : DataW.Trod enc Try.prog W 0 (fun _ => true) true 51 v d p) : ∃ a cap l, v = .slice a l.length cap ∧ RowW W a cap l := by
  obtain ⟨a0, len0, cap0, rfl⟩ := Go.WideShapes.okWide_slice Try.underlying51 k
  obtain ⟨fuel, hf⟩ := h
  obtain ⟨a, len, cap, hv, h1, h2, h3⟩ := structs_of_trod Try.underlying51 Try.underlying53 (by kernel_rfl) (by kernel_rfl) (by decide) (by simpa [Value.cells] using hf)
  have key : ∃ l : List Wp, l.length = len ∧ (∀ x, x ∈ l → x.Ok) ∧ (0 < len → ∃ b off, a = some ⟨b, off, none⟩ ∧ b < W.heap.size ∧ ∀ i, (h : i < l.length) → W.cell? ⟨b, off + i * 3, none⟩ = some (.int .i64 l[i].off) ∧ W.cell? ⟨b, off + i * 3 + 1, none⟩ = some (.string l[i].s) ∧ W.cell? ⟨b, off + i * 3 + 2, none⟩ = some (.bool l[i].sync)) := by
    rcases Nat.eq_zero_or_pos len with h0 | h0
    · exact ⟨[], h0.symm, by simp, fun h => by omega⟩
    · obtain ⟨b, off, ha, hb, hc⟩ := h3 h0
      have each : ∀ i, i < len → ∃ x : Wp, x.Ok ∧ W.cell? ⟨b, off + i * 3, none⟩ = some (.int .i64 x.off) ∧ W.cell? ⟨b, off + i * 3 + 1, none⟩ = some (.string x.s) ∧ W.cell? ⟨b, off + i * 3 + 2, none⟩ = some (.bool x.sync) := by
        intro i hi
        obtain ⟨u0, _, _, c0, t0⟩ := hc i hi 0 _ rfl
        obtain ⟨u1, _, _, c1, t1⟩ := hc i hi 1 _ rfl
        obtain ⟨u2, _, _, c2, t2⟩ := hc i hi 2 _ rfl
        obtain ⟨o, rfl, o1, o2⟩ := trod_i64 Try.underlying3 t0
        obtain ⟨s, rfl, s1⟩ := trod_str Try.underlying9 t1
        obtain ⟨y, rfl⟩ := trod_bool Try.underlying4 t2
        exact ⟨⟨o, s, y⟩, ⟨o1, o2, s1⟩, c0, c1, c2⟩
      obtain ⟨l, hl, hQ⟩ := list_of_each len each
      refine ⟨l, hl, fun x hx => ?_, fun _ => ⟨b, off, ha, hb, fun i hi => (hQ i hi).2⟩⟩
      obtain ⟨j, hj, rfl⟩ := List.getElem_of_mem hx
      exact (hQ j hj).1
  obtain ⟨l, hl, hok, hcs⟩ := key
  exact ⟨a, cap, l, by rw [hv, hl], by omega, h2, hok, fun h => hcs (by omega)⟩

/-- A write that lies on a disk of size n. -/
def fitW (x : Wp) (n : Nat) : Nat × ByteArray := ((pickI x.off (n + 1)).toNat, x.s.extract 0 (min x.s.size (n - (pickI x.off (n + 1)).toNat)))
theorem fitW_fits (x : Wp) (n : Nat) : (fitW x n).1 + (fitW x n).2.size ≤ n := by
  have := pickI_bound x.off (n + 1) (by omega)
  simp only [fitW, ByteArray.size_extract]
  omega

set_option maxRecDepth 100000 in
set_option maxHeartbeats 800000 in
theorem fits_c (x : Wp) (n : Nat) (w : World) (hx : x.Ok) (hn : n ≤ 4194304) :
    Calls Try.prog 26 #[.agg #[.int .i64 x.off, .string x.s, .bool x.sync], .int .i64 n] w fun e w' => e = .returned (.agg #[.int .i64 ((fitW x n).1 : Nat), .string (fitW x n).2, .bool x.sync]) ∧ Fr [] w w' := by
  obtain ⟨o, s, y⟩ := x
  obtain ⟨h1, h2, h3⟩ := hx
  simp only at h1 h2 h3
  have hp := pickI_bound o (n + 1) (by omega)
  have cP := Lib.hid (fun w => pick_any o (n + 1) w h1 h2 (by omega) (by omega))
  obtain ⟨k, hk⟩ := Int.eq_ofNat_of_zero_le hp.1
  have hkn : k ≤ n := by omega
  have cC := Lib.hid (fun w => cut_str s (n - k) w h3 (by omega))
  have e2 : (fitW ⟨o, s, y⟩ n).2 = s.extract 0 (min s.size (n - k)) := by simp only [fitW, hk, Int.toNat_natCast]
  have e1 : (fitW ⟨o, s, y⟩ n).1 = k := by simp only [fitW, hk, Int.toNat_natCast]
  rw [e1, e2]
  simp only
  rw [hk] at cP
  generalize s.extract 0 (min s.size (n - k)) = s2 at *
  clear hp e1 e2 hk
  have ec : ((n - k : Nat) : Int) = (n : Int) - k := by omega
  rw [ec] at cC
  clear ec
  go_enter Try.func26, Try.ntmps26
  go_wp2_with (first | (go_at_call 15; refine (cP.out _).mono ?_; rintro e w1 ⟨rfl, rfl⟩) | (go_at_call 22; refine (cC.out _).mono ?_; rintro e w1 ⟨rfl, rfl⟩))
  refine bodyPost_ret (v := .agg #[.int .i64 k, .string s2, .bool y]) (by simp [results, Try.results26, go_sem]) rfl ⟨rfl, ?_⟩
  exact (Fr.alloc _ _ _).trans (Fr.alloc _ _ _)

theorem bytesAt_set {w : World} {b i : Nat} {e : TypeId} {l : List UInt8} (c : UInt8) (h : BytesAt w b e l) : BytesAt (w.setCell ⟨b, i, none⟩ (.int .u8 c.toNat)) b e (l.set i c) := by
  unfold BytesAt
  rw [heap_setCell_same _ h]
  simp [byteCells, List.map_set]

theorem paste_get (l : List UInt8) (o : Nat) (s : List UInt8) (h : o + s.length ≤ l.length) (j : Nat) : (paste l o s)[j]? = if j < o then l[j]? else if j < o + s.length then s[j - o]? else l[j]? := by
  have e2 : (l.take o).length = o := by simp; omega
  unfold paste
  by_cases h1 : j < o
  · rw [if_pos h1, List.append_assoc, List.getElem?_append_left (by omega), List.getElem?_take_of_lt h1]
  · rw [if_neg h1, List.append_assoc, List.getElem?_append_right (by omega), e2]
    by_cases h2 : j < o + s.length
    · rw [if_pos h2, List.getElem?_append_left (by omega)]
    · rw [if_neg h2, List.getElem?_append_right (by omega), List.getElem?_drop]
      congr 1
      omega

theorem paste_step (l : List UInt8) (o : Nat) (s : List UInt8) (k : Nat) (hk : k < s.length) (h : o + s.length ≤ l.length) : (paste l o (s.take k)).set (o + k) s[k] = paste l o (s.take (k + 1)) := by
  apply List.ext_getElem?
  intro j
  have e0 : (s.take k).length = k := by simp; omega
  have e1 : (s.take (k + 1)).length = k + 1 := by simp; omega
  have hp : (paste l o (s.take k)).length = l.length := paste_length _ _ _ (by omega)
  rw [List.getElem?_set, paste_get l o _ (by omega), paste_get l o _ (by omega), e0, e1, hp]
  by_cases h1 : o + k = j
  · subst h1
    rw [if_pos rfl, if_pos (by omega), if_neg (by omega), if_pos (by omega), show o + k - o = k by omega, List.getElem?_take_of_lt (by omega), List.getElem?_eq_getElem hk]
  · rw [if_neg h1]
    by_cases h2 : j < o
    · rw [if_pos h2, if_pos h2]
    · by_cases h3 : j < o + k
      · rw [if_neg h2, if_neg h2, if_pos h3, if_pos (by omega), List.getElem?_take_of_lt (by omega), List.getElem?_take_of_lt (by omega)]
      · rw [if_neg h2, if_neg h2, if_neg h3, if_neg (by omega)]

set_option maxRecDepth 100000 in
set_option maxHeartbeats 800000 in
theorem put_c (b n o : Nat) (s : ByteArray) (l : List UInt8) (w : World) (hb : BytesAt w b 5 l) (hl : l.length = n) (ho : o + s.size ≤ n) (hn : n ≤ 4194304) :
    Calls Try.prog 27 #[.slice (some ⟨b, 0, none⟩) n n, .int .i64 o, .string s] w fun e w' => e = .returned (.tuple #[]) ∧ Fr [b] w w' ∧ BytesAt w' b 5 (paste l o s.data.toList) := by
  have Hb := Lib.hid hb; have Hl := Lib.hid hl; clear hb hl
  go_enter Try.func27, Try.ntmps27
  go_wp2
  go_loopw [6] (fun i wr => ∃ k : Nat, k ≤ s.size ∧ i = .int .i64 k ∧ Fr [b] w wr ∧ Hid (BytesAt wr b 5 (paste l o (s.data.toList.take k)))) (fun i _ => s.size - (intOf i).toNat)
  case atStart => exact ⟨0, Nat.zero_le _, rfl, Fr.refl _ _, Lib.hid (by simpa [paste_nil] using Hb.out)⟩
  case round =>
    obtain ⟨k, hk, rfl, hf, HB⟩ := hrel
    by_cases hlt : k < s.size
    · have hpl : (paste l o (s.data.toList.take k)).length = n := by
        rw [paste_length _ _ _ (by rw [Hl.out]; simp; omega), Hl.out]
      have hci : ∃ v, wr.cell? ⟨b, o + k, none⟩ = some v := by
        rw [cell_of_blk HB.out]
        have : o + k < (byteCells (paste l o (s.data.toList.take k))).toArray.size := by simp [byteCells_length, hpl]; omega
        exact ⟨_, Array.getElem?_eq_getElem this⟩
      obtain ⟨vi, hci⟩ := hci
      have hfi := free_of_blk HB.out (o + k)
      clear hpl
      go_wp2
      go_roundw
      case rel =>
        refine ⟨k + 1, by omega, by go_num, hf.trans (Fr.setCell _ _ (by simp)), Lib.hid ?_⟩
        have hks : k < s.data.toList.length := by simpa using hlt
        have h1 := bytesAt_set (i := o + k) (s.data.toList[k]) HB.out
        rw [paste_step l o s.data.toList k hks (by rw [Hl.out]; simpa using ho)] at h1
        exact h1
      case measure => simp [intOf]; omega
    · obtain rfl : k = s.size := by omega
      go_wp2
      go_end0
      refine ⟨rfl, hf, ?_⟩
      have := HB.out
      rwa [List.take_of_length_le (by simp)] at this

end Go.Proofs.Ytanjjgodlgmfcaa
