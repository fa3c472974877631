/-
  wire: String.
-/
import Derived.Test.YtbogljpafpkikaaGreatDoorQWi3
namespace Go.Proofs.YtbogljpafpkikaaGreatDoor
open Go.RowKit Go.Lib

/-- What String returns. -/
def strV : Option (List UInt8 × Nat) → Value
  | none => .tuple #[.string ⟨#[]⟩, .int .i64 0, .int .i64 10]
  | some (r, q) => .tuple #[.string (str r), .int .i64 q, .int .i64 0]
theorem getGo_bound (s : List UInt8) (p : Nat) : ∀ (f i z : Nat) (n : Int) (q : Nat), getGo s p f i z = some (n, q) → q ≤ s.length ∧ p ≤ q
  | 0, _, _, _, _, h => by simp [getGo] at h
  | f + 1, i, z, n, q, h => by
    cases hb : s[p + i]? with
    | none => rw [getGo, hb] at h; cases h
    | some b =>
      have hl := (List.getElem?_eq_some_iff.1 hb).1
      rw [getGo_at _ _ _ _ _ hb] at h
      split at h
      · exact getGo_bound s p f (i + 1) _ n q h
      · split at h
        · cases h
        · simp only [Option.some.injEq, Prod.mk.injEq] at h
          omega
theorem getI_bound {s : List UInt8} {p : Nat} {n : Int} {q : Nat} (h : getI s p = some (n, q)) : q ≤ s.length ∧ p ≤ q := getGo_bound s p 9 0 0 n q h
theorem extract_str (s : ByteArray) (a b : Nat) : s.extract a b = str (((bts s).drop a).take (b - a)) := by
  apply ByteArray.ext
  apply Array.ext'
  simp [str, bts, List.extract_eq_take_drop]

set_option maxRecDepth 100000 in
set_option maxHeartbeats 4000000 in
theorem string_c (s : ByteArray) (p : Nat) (hp : p ≤ s.size) (hs : s.size ≤ 4611686018427387903) (w : World) : Calls Tryz.prog 95 #[.string s, .int .i64 p] w fun e w' => w = w' ∧ e = .returned (strV (getS (bts s) p)) := by
  have CI := Lib.hid (int_c s p hp hs w)
  cases hg : getI (bts s) p with
  | none =>
    rw [hg] at CI
    unfold intV at CI
    have HR : Shut (getS (bts s) p = none) := ⟨by rw [getS, hg]⟩
    clear hg
    go_enter Tryz.func95, Tryz.ntmps95
    go_wp2_with fail
    refine CI.out.mono ?_
    rintro e w1 ⟨rfl, rfl⟩
    clear CI
    go_wp2_with fail
    go_ret3
    exact ⟨rfl, by rw [HR.out]; rfl⟩
  | some x =>
    obtain ⟨n, q⟩ := x
    have hb := getI_bound hg
    rw [bts_len] at hb
    obtain ⟨hq1, hq2⟩ := hb
    rw [hg] at CI
    unfold intV at CI
    have HG : Shut (getS (bts s) p = if n < 0 ∨ 65536 < n ∨ ((bts s).length : Int) - q < n then none else some (((bts s).drop q).take n.toNat, q + n.toNat)) := ⟨by rw [getS, hg]⟩
    rw [bts_len] at HG
    clear hg
    by_cases hbad : n < 0 ∨ 65536 < n ∨ (s.size : Int) - q < n
    · have HR : Shut (getS (bts s) p = none) := ⟨by rw [HG.out, if_pos hbad]⟩
      clear HG
      go_enter Tryz.func95, Tryz.ntmps95
      go_wp2_with fail
      refine CI.out.mono ?_
      rintro e w1 ⟨rfl, rfl⟩
      clear CI
      go_wp2_with fail
      all_goals
        go_ret3
        exact ⟨rfl, by rw [HR.out]; rfl⟩
    · have HR : Shut (getS (bts s) p = some (((bts s).drop q).take n.toNat, q + n.toNat)) := ⟨by rw [HG.out, if_neg hbad]⟩
      obtain ⟨m, rfl⟩ := Int.eq_ofNat_of_zero_le (show 0 ≤ n by omega)
      clear HG
      go_enter Tryz.func95, Tryz.ntmps95
      go_wp2_with fail
      refine CI.out.mono ?_
      rintro e w1 ⟨rfl, rfl⟩
      clear CI
      go_wp2_with fail
      go_ret3
      refine ⟨rfl, ?_⟩
      rw [HR.out, extract_str, Nat.add_sub_cancel_left]
      simp [strV]

end Go.Proofs.YtbogljpafpkikaaGreatDoor
