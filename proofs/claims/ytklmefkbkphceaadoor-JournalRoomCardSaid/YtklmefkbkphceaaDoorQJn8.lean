/-
  journal: what is too long; a copy of the records.
-/
import Derived.Test.YtklmefkbkphceaaDoorQJnB2
namespace Go.Proofs.YtklmefkbkphceaaDoor
open Go.RowKit Go.Lib

def longB (s : ByteArray) : Bool := decide (65536 < s.size)
theorem isLong_c (s : ByteArray) (w : World) : Calls Tryd.prog 28 #[.string s] w fun e w' => e = .returned (.bool (longB s)) ∧ w = w' := by
  unfold longB
  by_cases h : 65536 < s.size
  · go_enter Tryd.func28, Tryd.ntmps28
    go_wp2
    go_ret
    exact ⟨by simp [h]; try omega, rfl⟩
  · go_enter Tryd.func28, Tryd.ntmps28
    go_wp2
    go_ret
    exact ⟨by simp [h]; try omega, rfl⟩

set_option maxRecDepth 100000 in
set_option maxHeartbeats 1000000 in
theorem indexLong_c (a : Option Addr) (cap : Nat) (l : List ByteArray) (w : World) (hs : Sl w (.slice a l.length cap) l.length (l.map Value.string)) :
    Calls Tryd.prog 51 #[.slice a l.length cap, .func (.func 28) #[] #[]] w fun e w' => ∃ i : Int, e = .returned (.int .i64 i) ∧ decide (0 ≤ i) = l.any longB ∧ w = w' := by
  have hlen := hs.len
  have HS := Lib.hid hs
  clear hs
  go_enter Tryd.func51, Tryd.ntmps51
  go_wp2_with fail
  go_loopw [8] (fun i wr => ∃ (k : Nat), i = .int .i64 k ∧ k ≤ l.length ∧ wr = w ∧ Hid (l.any longB = (l.drop k).any longB)) (fun i _ => l.length - (RowKit.intOf i).toNat)
  case atStart => exact ⟨0, rfl, Nat.zero_le _, rfl, Lib.hid rfl⟩
  case round =>
    obtain ⟨k, rfl, hk, rfl, HA⟩ := hrel
    by_cases hlt : k < l.length
    · obtain ⟨b, off, rfl, hc⟩ := HS.out.at_ (by omega)
      have ck : wr.cell? ⟨b, off + k, none⟩ = some (.string l[k]) := hc k _ (by simp [hlt])
      have HD : Hid ((l.drop k).any longB = (longB l[k] || (l.drop (k + 1)).any longB)) := Lib.hid (by rw [List.drop_eq_getElem_cons hlt, List.any_cons])
      clear hc
      generalize l[k] = s at *
      have HC := Lib.hid (isLong_c s wr)
      cases hl : longB s with
      | true =>
        rw [hl] at HC
        have HL := Lib.hid hl
        clear hl
        go_wp2_with fail
        refine HC.out.mono ?_
        rintro e w2 ⟨rfl, rfl⟩
        go_wp2_with fail
        go_ret
        exact ⟨k, rfl, by rw [HA.out, HD.out, HL.out]; simp, rfl⟩
      | false =>
        rw [hl] at HC
        have HL := Lib.hid hl
        clear hl
        go_wp2_with fail
        refine HC.out.mono ?_
        rintro e w2 ⟨rfl, rfl⟩
        go_wp2_with fail
        go_roundw
        case rel => exact ⟨k + 1, by go_num, hlt, trivial, Lib.hid (by rw [HA.out, HD.out, HL.out]; rfl)⟩
        case measure => simp [RowKit.intOf]; omega
    · have he : k = l.length := by omega
      subst he
      go_wp2_with fail
      go_ret
      exact ⟨-1, rfl, by rw [HA.out]; simp, rfl⟩

set_option maxRecDepth 100000 in
theorem containsLong_c (a : Option Addr) (cap : Nat) (l : List ByteArray) (w : World) (hs : Sl w (.slice a l.length cap) l.length (l.map Value.string)) :
    Calls Tryd.prog 29 #[.slice a l.length cap, .func (.func 28) #[] #[]] w fun e w' => e = .returned (.bool (l.any longB)) ∧ w = w' := by
  have HC := Lib.hid (indexLong_c a cap l w hs)
  clear hs
  go_enter Tryd.func29, Tryd.ntmps29
  go_wp2_with fail
  refine HC.out.mono ?_
  rintro e w2 ⟨i, rfl, hi, rfl⟩
  have HI := Lib.hid hi
  clear hi HC
  go_wp2_with fail
  go_ret
  exact ⟨by rw [HI.out]; rfl, rfl⟩

theorem row_zero0 {w : World} {base : Nat} {e : TypeId} {size : Nat} {v : Value} {n : Nat} {xs : List Value} (h : w.ownsRow base e size v n xs) : w.ownsRow 0 e size v n xs := by
  refine ⟨h.1, h.2.imp id ?_⟩
  rintro ⟨g, cap, cur, rfl, h1, h2⟩
  exact ⟨g, cap, cur, rfl, Nat.zero_le _, h2⟩
theorem row_base {w : World} {base : Nat} {e : TypeId} {size : Nat} {v : Value} {n : Nat} {xs : List Value} (h : w.ownsRow base e size v n xs) {g : Nat} (hg : v.ownBlock = some g) : base ≤ g := by
  rcases h.2 with ⟨rfl, _⟩ | ⟨g', cap, cur, rfl, h1, _⟩
  · cases hg
  · simp [Value.ownBlock] at hg; omega

theorem clone_c (vr : Value) (rs : List ByteArray) (w : World) (h : w.ownsRow 0 9 1 vr rs.length (rs.map Value.string)) (hl : rs.length ≤ 1000000000) :
    Calls Tryd.prog 30 #[vr] w fun e w' => ∃ v', e = .returned v' ∧ w'.ownsRow 0 9 1 v' rs.length (rs.map Value.string) ∧ (∀ g, v'.ownBlock = some g → w.heap.size ≤ g) ∧ Fr [] w w' := by
  rcases h.2 with ⟨rfl, h0⟩ | ⟨g, cap, cur, rfl, hbg, hg, hnc, hcm, hcs, htake⟩
  · refine (Tryd.slices_Clone_string_nil 0 0 w).mono ?_
    rintro e w' ⟨rfl, rfl⟩
    exact ⟨_, rfl, h, (by intro g hg; cases hg), Fr.refl _ _⟩
  · refine (Tryd.slices_Clone_string g 0 rs.length cap rs w (Nat.le_refl _) (by omega) (fun j hj => ?_)).mono ?_
    · have := h.cells (g := g) rfl j (.string (rs.getD j ByteArray.empty)) (by simp [hj])
      rw [add_at] at this
      rw [Nat.zero_add]
      exact this
    · rintro e w' ⟨v', rfl, h1, h2, h3⟩
      rw [List.take_length] at h1
      exact ⟨v', rfl, row_zero0 h1, fun g hg => row_base h1 hg, Fr.of_below _ h3⟩

end Go.Proofs.YtklmefkbkphceaaDoor
