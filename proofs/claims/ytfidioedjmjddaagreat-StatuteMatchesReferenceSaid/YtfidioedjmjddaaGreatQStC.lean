/-
  slices.IndexFunc and slices.ContainsFunc at []int with a predicate that may change the world.
-/
import Derived.Test.YtfidioedjmjddaaGreatQSB
namespace Go.Proofs.YtfidioedjmjddaaGreat
open Go.RowKit Go.Lib

/-- The first number below n that p takes, or -1. -/
def idxN (p : Nat → Bool) (n : Nat) : Int := match (List.range n).find? p with | some k => k | none => -1
def anyN (p : Nat → Bool) (n : Nat) : Bool := (List.range n).any p
theorem idxN_some {p : Nat → Bool} {n k : Nat} (hk : k < n) (h1 : p k = true) (h0 : ∀ j, j < k → p j = false) : idxN p n = k := by
  have : (List.range n).find? p = some k := by
    rw [List.find?_range_eq_some]
    exact ⟨h1, by simpa using hk, fun j hj => by simp [h0 j hj]⟩
  simp [idxN, this]
theorem idxN_none {p : Nat → Bool} {n : Nat} (h0 : ∀ j, j < n → p j = false) : idxN p n = -1 := by
  have : (List.range n).find? p = none := List.find?_eq_none.2 fun j hj => by simp [h0 j (by simpa using hj)]
  simp [idxN, this]
theorem anyN_true {p : Nat → Bool} {n k : Nat} (hk : k < n) (h1 : p k = true) : anyN p n = true := List.any_eq_true.2 ⟨k, by simpa using hk, h1⟩
theorem anyN_false {p : Nat → Bool} {n : Nat} (h0 : ∀ j, j < n → p j = false) : anyN p n = false := List.any_eq_false.2 fun j hj => by simp [h0 j (by simpa using hj)]
theorem idxN_ge (p : Nat → Bool) (n : Nat) : decide ((0 : Int) ≤ idxN p n) = anyN p n := by
  cases h : anyN p n with
  | true =>
    obtain ⟨k, hk, hp⟩ := List.any_eq_true.1 h
    unfold idxN
    cases hf : (List.range n).find? p with
    | none => exact absurd hp (by simpa using List.find?_eq_none.1 hf k hk)
    | some j => simp
  | false =>
    rw [idxN_none fun j hj => by simpa using List.any_eq_false.1 h j (by simpa using hj)]
    rfl
theorem anyN_list {α : Type} (l : List α) (q : α → Bool) (d : α) : anyN (fun k => q (l.getD k d)) l.length = l.any q := by
  cases h : l.any q with
  | true =>
    obtain ⟨x, hx, hq⟩ := List.any_eq_true.1 h
    obtain ⟨k, hk, rfl⟩ := List.getElem_of_mem hx
    exact anyN_true hk (by simpa [hk] using hq)
  | false =>
    refine anyN_false fun j hj => ?_
    have := List.any_eq_false.1 h l[j] (List.getElem_mem hj)
    simpa [hj] using this

theorem anyN_succ (p : Nat → Bool) (n : Nat) : anyN p (n + 1) = (p 0 || anyN (fun k => p (k + 1)) n) := by
  unfold anyN
  rw [List.range_succ_eq_map, List.any_cons, List.any_map]
  rfl

/-- What a predicate's calls do: in the k-th world it answers p k and leaves the next world. -/
def Steps (f : Nat) (lb : Array Value) (n : Nat) (elem : Nat → Value) (p : Nat → Bool) (J : Nat → World → Prop) : Prop :=
  ∀ k W, k < n → (∀ j, j < k → p j = false) → J k W → Calls Tryz.prog f (#[elem k] ++ lb) W fun e W' => e = .returned (.bool (p k)) ∧ J (k + 1) W'

set_option maxRecDepth 100000 in
set_option maxHeartbeats 1000000 in
theorem ifInt_c (f : Nat) (lb : Array Value) (eg : ∀ args w, (callFunc f args).run Tryz.prog w = .ok (.enter f args) w) (a : Option Addr) (cap : Nat) (zs : List Int) (p : Nat → Bool) (J : Nat → World → Prop) (w : World)
    (hsl : ∀ k W, J k W → IntsAt W (.slice a zs.length cap) zs) (hst : Steps f lb zs.length (fun k => .int .i64 (zs.getD k 0)) p J) (h0 : J 0 w) :
    Calls Tryz.prog 70 #[.slice a zs.length cap, .func (.func f) #[] lb] w fun e w' => e = .returned (.int .i64 (idxN p zs.length)) ∧ ∃ k, J k w' := by
  have hlen := (hsl 0 w h0).len
  have HSL := Lib.hid hsl; have HST := Lib.hid hst; have H0 := Lib.hid h0
  clear hsl hst h0
  go_enter Tryz.func70, Tryz.ntmps70
  go_wp2_with fail
  go_loopw [8] (fun i wr => ∃ k : Nat, k ≤ zs.length ∧ i = .int .i64 k ∧ Hid (J k wr) ∧ Hid (∀ j, j < k → p j = false)) (fun i _ => zs.length - (intOf i).toNat)
  case atStart => exact ⟨0, Nat.zero_le _, rfl, H0, Lib.hid fun j h => by omega⟩
  case round =>
    obtain ⟨k, hk, rfl, HJ, HP⟩ := hrel
    by_cases hlt : k < zs.length
    · obtain ⟨b, off, ha, hc⟩ := (HSL.out k wr HJ.out).at_ (by omega)
      subst ha
      have c0 := hc k (.int .i64 (zs.getD k 0)) (by simp [hlt])
      have hs := HST.out k wr hlt HP.out HJ.out
      simp only at hs
      generalize zs.getD k 0 = x at *
      clear hc
      cases hb : p k with
      | true =>
        rw [hb] at hs
        have HS := Lib.hid hs; have Hb := Lib.hid hb; clear hs hb
        go_wp2_with fail
        refine HS.out.mono ?_
        rintro e w1 ⟨rfl, j1⟩
        have J1 := Lib.hid j1; clear j1
        go_wp2_with fail
        go_ret
        exact ⟨by rw [idxN_some hlt Hb.out HP.out]; rfl, k + 1, J1.out⟩
      | false =>
        rw [hb] at hs
        have HS := Lib.hid hs; have Hb := Lib.hid hb; clear hs hb
        go_wp2_with fail
        refine HS.out.mono ?_
        rintro e w1 ⟨rfl, j1⟩
        have J1 := Lib.hid j1; clear j1
        go_wp2_with fail
        go_roundw
        case rel => exact ⟨k + 1, by omega, by go_num, J1, Lib.hid fun j h => by
          rcases Nat.lt_or_ge j k with h1 | h1
          · exact HP.out j h1
          · obtain rfl : j = k := by omega
            exact Hb.out⟩
        case measure => simp [intOf]; omega
    · obtain rfl : k = zs.length := by omega
      go_wp2_with fail
      go_ret
      exact ⟨by rw [idxN_none HP.out]; rfl, _, HJ.out⟩

theorem cfInt_c (f : Nat) (lb : Array Value) (eg : ∀ args w, (callFunc f args).run Tryz.prog w = .ok (.enter f args) w) (a : Option Addr) (cap : Nat) (zs : List Int) (p : Nat → Bool) (J : Nat → World → Prop) (w : World)
    (hsl : ∀ k W, J k W → IntsAt W (.slice a zs.length cap) zs) (hst : Steps f lb zs.length (fun k => .int .i64 (zs.getD k 0)) p J) (h0 : J 0 w) :
    Calls Tryz.prog 58 #[.slice a zs.length cap, .func (.func f) #[] lb] w fun e w' => e = .returned (.bool (anyN p zs.length)) ∧ ∃ k, J k w' := by
  have c := Lib.hid (ifInt_c f lb eg a cap zs p J w hsl hst h0)
  clear hsl hst h0 eg
  rw [← idxN_ge]
  generalize idxN p zs.length = r at *
  go_enter Tryz.func58, Tryz.ntmps58
  go_wp2_with (go_at_call 70; refine c.out.mono ?_; rintro e w1 ⟨rfl, h1⟩; have H1 := Lib.hid h1; clear h1)
  go_ret
  exact ⟨rfl, H1.out⟩

set_option maxRecDepth 100000 in
set_option maxHeartbeats 1000000 in
theorem ifRp_c (f : Nat) (lb : Array Value) (eg : ∀ args w, (callFunc f args).run Tryz.prog w = .ok (.enter f args) w) (a : Option Addr) (cap : Nat) (zs : List Rp) (p : Nat → Bool) (J : Nat → World → Prop) (w : World)
    (hsl : ∀ k W, J k W → Sl W (.slice a zs.length cap) zs.length (zs.flatMap rpC)) (hst : Steps f lb zs.length (fun k => rpV (zs.getD k default)) p J) (h0 : J 0 w) :
    Calls Tryz.prog 59 #[.slice a zs.length cap, .func (.func f) #[] lb] w fun e w' => e = .returned (.int .i64 (idxN p zs.length)) ∧ ∃ k, J k w' := by
  have hlen := (hsl 0 w h0).len
  have HSL := Lib.hid hsl; have HST := Lib.hid hst; have H0 := Lib.hid h0
  clear hsl hst h0
  go_enter Tryz.func59, Tryz.ntmps59
  go_wp2_with fail
  go_loopw [8] (fun i wr => ∃ k : Nat, k ≤ zs.length ∧ i = .int .i64 k ∧ Hid (J k wr) ∧ Hid (∀ j, j < k → p j = false)) (fun i _ => zs.length - (intOf i).toNat)
  case atStart => exact ⟨0, Nat.zero_le _, rfl, H0, Lib.hid fun j h => by omega⟩
  case round =>
    obtain ⟨k, hk, rfl, HJ, HP⟩ := hrel
    by_cases hlt : k < zs.length
    · obtain ⟨b, off, ha, hc⟩ := (HSL.out k wr HJ.out).at_ (by omega)
      subst ha
      have c0 := hc (k * 3 + 0) _ ((flat_get (enc := rpC) (k := 3) (fun _ => rfl) zs k hlt 0 (by omega)).trans rfl)
      have c1 := hc (k * 3 + 1) _ ((flat_get (enc := rpC) (k := 3) (fun _ => rfl) zs k hlt 1 (by omega)).trans rfl)
      have c2 := hc (k * 3 + 2) _ ((flat_get (enc := rpC) (k := 3) (fun _ => rfl) zs k hlt 2 (by omega)).trans rfl)
      have hs := HST.out k wr hlt HP.out HJ.out
      simp only at hs
      rw [show zs.getD k default = zs[k] by simp [hlt]] at hs
      generalize zs[k] = x at *
      obtain ⟨x0, x1, x2⟩ := x
      simp only [Nat.add_zero] at hs c0 c1 c2
      simp only [← Nat.add_assoc] at c0 c1 c2
      clear hc
      cases hb : p k with
      | true =>
        rw [hb] at hs
        have HS := Lib.hid hs; have Hb := Lib.hid hb; clear hs hb
        go_wp2_with fail
        refine HS.out.mono ?_
        rintro e w1 ⟨rfl, j1⟩
        have J1 := Lib.hid j1; clear j1
        go_wp2_with fail
        go_ret
        exact ⟨by rw [idxN_some hlt Hb.out HP.out]; rfl, k + 1, J1.out⟩
      | false =>
        rw [hb] at hs
        have HS := Lib.hid hs; have Hb := Lib.hid hb; clear hs hb
        go_wp2_with fail
        refine HS.out.mono ?_
        rintro e w1 ⟨rfl, j1⟩
        have J1 := Lib.hid j1; clear j1
        go_wp2_with fail
        go_roundw
        case rel => exact ⟨k + 1, by omega, by go_num, J1, Lib.hid fun j h => by
          rcases Nat.lt_or_ge j k with h1 | h1
          · exact HP.out j h1
          · obtain rfl : j = k := by omega
            exact Hb.out⟩
        case measure => simp [intOf]; omega
    · obtain rfl : k = zs.length := by omega
      go_wp2_with fail
      go_ret
      exact ⟨by rw [idxN_none HP.out]; rfl, _, HJ.out⟩

theorem cfRp_c (f : Nat) (lb : Array Value) (eg : ∀ args w, (callFunc f args).run Tryz.prog w = .ok (.enter f args) w) (a : Option Addr) (cap : Nat) (zs : List Rp) (p : Nat → Bool) (J : Nat → World → Prop) (w : World)
    (hsl : ∀ k W, J k W → Sl W (.slice a zs.length cap) zs.length (zs.flatMap rpC)) (hst : Steps f lb zs.length (fun k => rpV (zs.getD k default)) p J) (h0 : J 0 w) :
    Calls Tryz.prog 36 #[.slice a zs.length cap, .func (.func f) #[] lb] w fun e w' => e = .returned (.bool (anyN p zs.length)) ∧ ∃ k, J k w' := by
  have c := Lib.hid (ifRp_c f lb eg a cap zs p J w hsl hst h0)
  clear hsl hst h0 eg
  rw [← idxN_ge]
  generalize idxN p zs.length = r at *
  go_enter Tryz.func36, Tryz.ntmps36
  go_wp2_with (go_at_call 59; refine c.out.mono ?_; rintro e w1 ⟨rfl, h1⟩; have H1 := Lib.hid h1; clear h1)
  go_ret
  exact ⟨rfl, H1.out⟩

set_option maxRecDepth 100000 in
set_option maxHeartbeats 1000000 in
theorem ifFa_c (f : Nat) (lb : Array Value) (eg : ∀ args w, (callFunc f args).run Tryz.prog w = .ok (.enter f args) w) (a : Option Addr) (cap : Nat) (zs : List Fa) (p : Nat → Bool) (J : Nat → World → Prop) (w : World)
    (hsl : ∀ k W, J k W → Sl W (.slice a zs.length cap) zs.length (zs.flatMap faC)) (hst : Steps f lb zs.length (fun k => faV (zs.getD k default)) p J) (h0 : J 0 w) :
    Calls Tryz.prog 60 #[.slice a zs.length cap, .func (.func f) #[] lb] w fun e w' => e = .returned (.int .i64 (idxN p zs.length)) ∧ ∃ k, J k w' := by
  have hlen := (hsl 0 w h0).len
  have HSL := Lib.hid hsl; have HST := Lib.hid hst; have H0 := Lib.hid h0
  clear hsl hst h0
  go_enter Tryz.func60, Tryz.ntmps60
  go_wp2_with fail
  go_loopw [8] (fun i wr => ∃ k : Nat, k ≤ zs.length ∧ i = .int .i64 k ∧ Hid (J k wr) ∧ Hid (∀ j, j < k → p j = false)) (fun i _ => zs.length - (intOf i).toNat)
  case atStart => exact ⟨0, Nat.zero_le _, rfl, H0, Lib.hid fun j h => by omega⟩
  case round =>
    obtain ⟨k, hk, rfl, HJ, HP⟩ := hrel
    by_cases hlt : k < zs.length
    · obtain ⟨b, off, ha, hc⟩ := (HSL.out k wr HJ.out).at_ (by omega)
      subst ha
      have c0 := hc (k * 6 + 0) _ ((flat_get (enc := faC) (k := 6) (fun _ => rfl) zs k hlt 0 (by omega)).trans rfl)
      have c1 := hc (k * 6 + 1) _ ((flat_get (enc := faC) (k := 6) (fun _ => rfl) zs k hlt 1 (by omega)).trans rfl)
      have c2 := hc (k * 6 + 2) _ ((flat_get (enc := faC) (k := 6) (fun _ => rfl) zs k hlt 2 (by omega)).trans rfl)
      have c3 := hc (k * 6 + 3) _ ((flat_get (enc := faC) (k := 6) (fun _ => rfl) zs k hlt 3 (by omega)).trans rfl)
      have c4 := hc (k * 6 + 4) _ ((flat_get (enc := faC) (k := 6) (fun _ => rfl) zs k hlt 4 (by omega)).trans rfl)
      have c5 := hc (k * 6 + 5) _ ((flat_get (enc := faC) (k := 6) (fun _ => rfl) zs k hlt 5 (by omega)).trans rfl)
      have hs := HST.out k wr hlt HP.out HJ.out
      simp only at hs
      rw [show zs.getD k default = zs[k] by simp [hlt]] at hs
      generalize zs[k] = x at *
      obtain ⟨x0, x1, x2, x3, x4, x5⟩ := x
      simp only [Nat.add_zero] at hs c0 c1 c2 c3 c4 c5
      simp only [← Nat.add_assoc] at c0 c1 c2 c3 c4 c5
      clear hc
      cases hb : p k with
      | true =>
        rw [hb] at hs
        have HS := Lib.hid hs; have Hb := Lib.hid hb; clear hs hb
        go_wp2_with fail
        refine HS.out.mono ?_
        rintro e w1 ⟨rfl, j1⟩
        have J1 := Lib.hid j1; clear j1
        go_wp2_with fail
        go_ret
        exact ⟨by rw [idxN_some hlt Hb.out HP.out]; rfl, k + 1, J1.out⟩
      | false =>
        rw [hb] at hs
        have HS := Lib.hid hs; have Hb := Lib.hid hb; clear hs hb
        go_wp2_with fail
        refine HS.out.mono ?_
        rintro e w1 ⟨rfl, j1⟩
        have J1 := Lib.hid j1; clear j1
        go_wp2_with fail
        go_roundw
        case rel => exact ⟨k + 1, by omega, by go_num, J1, Lib.hid fun j h => by
          rcases Nat.lt_or_ge j k with h1 | h1
          · exact HP.out j h1
          · obtain rfl : j = k := by omega
            exact Hb.out⟩
        case measure => simp [intOf]; omega
    · obtain rfl : k = zs.length := by omega
      go_wp2_with fail
      go_ret
      exact ⟨by rw [idxN_none HP.out]; rfl, _, HJ.out⟩

theorem cfFa_c (f : Nat) (lb : Array Value) (eg : ∀ args w, (callFunc f args).run Tryz.prog w = .ok (.enter f args) w) (a : Option Addr) (cap : Nat) (zs : List Fa) (p : Nat → Bool) (J : Nat → World → Prop) (w : World)
    (hsl : ∀ k W, J k W → Sl W (.slice a zs.length cap) zs.length (zs.flatMap faC)) (hst : Steps f lb zs.length (fun k => faV (zs.getD k default)) p J) (h0 : J 0 w) :
    Calls Tryz.prog 38 #[.slice a zs.length cap, .func (.func f) #[] lb] w fun e w' => e = .returned (.bool (anyN p zs.length)) ∧ ∃ k, J k w' := by
  have c := Lib.hid (ifFa_c f lb eg a cap zs p J w hsl hst h0)
  clear hsl hst h0 eg
  rw [← idxN_ge]
  generalize idxN p zs.length = r at *
  go_enter Tryz.func38, Tryz.ntmps38
  go_wp2_with (go_at_call 60; refine c.out.mono ?_; rintro e w1 ⟨rfl, h1⟩; have H1 := Lib.hid h1; clear h1)
  go_ret
  exact ⟨rfl, H1.out⟩

set_option maxRecDepth 100000 in
set_option maxHeartbeats 1000000 in
theorem ifFd_c (f : Nat) (lb : Array Value) (eg : ∀ args w, (callFunc f args).run Tryz.prog w = .ok (.enter f args) w) (a : Option Addr) (cap : Nat) (zs : List Fd) (p : Nat → Bool) (J : Nat → World → Prop) (w : World)
    (hsl : ∀ k W, J k W → Sl W (.slice a zs.length cap) zs.length (zs.flatMap fdC)) (hst : Steps f lb zs.length (fun k => fdV (zs.getD k default)) p J) (h0 : J 0 w) :
    Calls Tryz.prog 85 #[.slice a zs.length cap, .func (.func f) #[] lb] w fun e w' => e = .returned (.int .i64 (idxN p zs.length)) ∧ ∃ k, J k w' := by
  have hlen := (hsl 0 w h0).len
  have HSL := Lib.hid hsl; have HST := Lib.hid hst; have H0 := Lib.hid h0
  clear hsl hst h0
  go_enter Tryz.func85, Tryz.ntmps85
  go_wp2_with fail
  go_loopw [8] (fun i wr => ∃ k : Nat, k ≤ zs.length ∧ i = .int .i64 k ∧ Hid (J k wr) ∧ Hid (∀ j, j < k → p j = false)) (fun i _ => zs.length - (intOf i).toNat)
  case atStart => exact ⟨0, Nat.zero_le _, rfl, H0, Lib.hid fun j h => by omega⟩
  case round =>
    obtain ⟨k, hk, rfl, HJ, HP⟩ := hrel
    by_cases hlt : k < zs.length
    · obtain ⟨b, off, ha, hc⟩ := (HSL.out k wr HJ.out).at_ (by omega)
      subst ha
      have c0 := hc (k * 4 + 0) _ ((flat_get (enc := fdC) (k := 4) (fun _ => rfl) zs k hlt 0 (by omega)).trans rfl)
      have c1 := hc (k * 4 + 1) _ ((flat_get (enc := fdC) (k := 4) (fun _ => rfl) zs k hlt 1 (by omega)).trans rfl)
      have c2 := hc (k * 4 + 2) _ ((flat_get (enc := fdC) (k := 4) (fun _ => rfl) zs k hlt 2 (by omega)).trans rfl)
      have c3 := hc (k * 4 + 3) _ ((flat_get (enc := fdC) (k := 4) (fun _ => rfl) zs k hlt 3 (by omega)).trans rfl)
      have hs := HST.out k wr hlt HP.out HJ.out
      simp only at hs
      rw [show zs.getD k default = zs[k] by simp [hlt]] at hs
      generalize zs[k] = x at *
      obtain ⟨x0, x1, x2, x3⟩ := x
      simp only [Nat.add_zero] at hs c0 c1 c2 c3
      simp only [← Nat.add_assoc] at c0 c1 c2 c3
      clear hc
      cases hb : p k with
      | true =>
        rw [hb] at hs
        have HS := Lib.hid hs; have Hb := Lib.hid hb; clear hs hb
        go_wp2_with fail
        refine HS.out.mono ?_
        rintro e w1 ⟨rfl, j1⟩
        have J1 := Lib.hid j1; clear j1
        go_wp2_with fail
        go_ret
        exact ⟨by rw [idxN_some hlt Hb.out HP.out]; rfl, k + 1, J1.out⟩
      | false =>
        rw [hb] at hs
        have HS := Lib.hid hs; have Hb := Lib.hid hb; clear hs hb
        go_wp2_with fail
        refine HS.out.mono ?_
        rintro e w1 ⟨rfl, j1⟩
        have J1 := Lib.hid j1; clear j1
        go_wp2_with fail
        go_roundw
        case rel => exact ⟨k + 1, by omega, by go_num, J1, Lib.hid fun j h => by
          rcases Nat.lt_or_ge j k with h1 | h1
          · exact HP.out j h1
          · obtain rfl : j = k := by omega
            exact Hb.out⟩
        case measure => simp [intOf]; omega
    · obtain rfl : k = zs.length := by omega
      go_wp2_with fail
      go_ret
      exact ⟨by rw [idxN_none HP.out]; rfl, _, HJ.out⟩

theorem cfFd_c (f : Nat) (lb : Array Value) (eg : ∀ args w, (callFunc f args).run Tryz.prog w = .ok (.enter f args) w) (a : Option Addr) (cap : Nat) (zs : List Fd) (p : Nat → Bool) (J : Nat → World → Prop) (w : World)
    (hsl : ∀ k W, J k W → Sl W (.slice a zs.length cap) zs.length (zs.flatMap fdC)) (hst : Steps f lb zs.length (fun k => fdV (zs.getD k default)) p J) (h0 : J 0 w) :
    Calls Tryz.prog 73 #[.slice a zs.length cap, .func (.func f) #[] lb] w fun e w' => e = .returned (.bool (anyN p zs.length)) ∧ ∃ k, J k w' := by
  have c := Lib.hid (ifFd_c f lb eg a cap zs p J w hsl hst h0)
  clear hsl hst h0 eg
  rw [← idxN_ge]
  generalize idxN p zs.length = r at *
  go_enter Tryz.func73, Tryz.ntmps73
  go_wp2_with (go_at_call 85; refine c.out.mono ?_; rintro e w1 ⟨rfl, h1⟩; have H1 := Lib.hid h1; clear h1)
  go_ret
  exact ⟨rfl, H1.out⟩

set_option maxRecDepth 100000 in
set_option maxHeartbeats 1000000 in
theorem ifCl_c (f : Nat) (lb : Array Value) (eg : ∀ args w, (callFunc f args).run Tryz.prog w = .ok (.enter f args) w) (a : Option Addr) (cap : Nat) (zs : List ClV) (p : Nat → Bool) (J : Nat → World → Prop) (w : World)
    (hsl : ∀ k W, J k W → Sl W (.slice a zs.length cap) zs.length (zs.flatMap clC)) (hst : Steps f lb zs.length (fun k => clV (zs.getD k default)) p J) (h0 : J 0 w) :
    Calls Tryz.prog 56 #[.slice a zs.length cap, .func (.func f) #[] lb] w fun e w' => e = .returned (.int .i64 (idxN p zs.length)) ∧ ∃ k, J k w' := by
  have hlen := (hsl 0 w h0).len
  have HSL := Lib.hid hsl; have HST := Lib.hid hst; have H0 := Lib.hid h0
  clear hsl hst h0
  go_enter Tryz.func56, Tryz.ntmps56
  go_wp2_with fail
  go_loopw [8] (fun i wr => ∃ k : Nat, k ≤ zs.length ∧ i = .int .i64 k ∧ Hid (J k wr) ∧ Hid (∀ j, j < k → p j = false)) (fun i _ => zs.length - (intOf i).toNat)
  case atStart => exact ⟨0, Nat.zero_le _, rfl, H0, Lib.hid fun j h => by omega⟩
  case round =>
    obtain ⟨k, hk, rfl, HJ, HP⟩ := hrel
    by_cases hlt : k < zs.length
    · obtain ⟨b, off, ha, hc⟩ := (HSL.out k wr HJ.out).at_ (by omega)
      subst ha
      have c0 := hc (k * 6 + 0) _ ((flat_get (enc := clC) (k := 6) (fun _ => rfl) zs k hlt 0 (by omega)).trans rfl)
      have c1 := hc (k * 6 + 1) _ ((flat_get (enc := clC) (k := 6) (fun _ => rfl) zs k hlt 1 (by omega)).trans rfl)
      have c2 := hc (k * 6 + 2) _ ((flat_get (enc := clC) (k := 6) (fun _ => rfl) zs k hlt 2 (by omega)).trans rfl)
      have c3 := hc (k * 6 + 3) _ ((flat_get (enc := clC) (k := 6) (fun _ => rfl) zs k hlt 3 (by omega)).trans rfl)
      have c4 := hc (k * 6 + 4) _ ((flat_get (enc := clC) (k := 6) (fun _ => rfl) zs k hlt 4 (by omega)).trans rfl)
      have c5 := hc (k * 6 + 5) _ ((flat_get (enc := clC) (k := 6) (fun _ => rfl) zs k hlt 5 (by omega)).trans rfl)
      have hs := HST.out k wr hlt HP.out HJ.out
      simp only at hs
      rw [show zs.getD k default = zs[k] by simp [hlt]] at hs
      generalize zs[k] = x at *
      obtain ⟨⟨x0, x1, x2, xn, xb, x5⟩, x3, x4⟩ := x
      simp only [Nat.add_zero] at hs c0 c1 c2 c3 c4 c5
      simp only [← Nat.add_assoc] at c0 c1 c2 c3 c4 c5
      clear hc
      cases hb : p k with
      | true =>
        rw [hb] at hs
        have HS := Lib.hid hs; have Hb := Lib.hid hb; clear hs hb
        go_wp2_with fail
        refine HS.out.mono ?_
        rintro e w1 ⟨rfl, j1⟩
        have J1 := Lib.hid j1; clear j1
        go_wp2_with fail
        go_ret
        exact ⟨by rw [idxN_some hlt Hb.out HP.out]; rfl, k + 1, J1.out⟩
      | false =>
        rw [hb] at hs
        have HS := Lib.hid hs; have Hb := Lib.hid hb; clear hs hb
        go_wp2_with fail
        refine HS.out.mono ?_
        rintro e w1 ⟨rfl, j1⟩
        have J1 := Lib.hid j1; clear j1
        go_wp2_with fail
        go_roundw
        case rel => exact ⟨k + 1, by omega, by go_num, J1, Lib.hid fun j h => by
          rcases Nat.lt_or_ge j k with h1 | h1
          · exact HP.out j h1
          · obtain rfl : j = k := by omega
            exact Hb.out⟩
        case measure => simp [intOf]; omega
    · obtain rfl : k = zs.length := by omega
      go_wp2_with fail
      go_ret
      exact ⟨by rw [idxN_none HP.out]; rfl, _, HJ.out⟩

theorem cfCl_c (f : Nat) (lb : Array Value) (eg : ∀ args w, (callFunc f args).run Tryz.prog w = .ok (.enter f args) w) (a : Option Addr) (cap : Nat) (zs : List ClV) (p : Nat → Bool) (J : Nat → World → Prop) (w : World)
    (hsl : ∀ k W, J k W → Sl W (.slice a zs.length cap) zs.length (zs.flatMap clC)) (hst : Steps f lb zs.length (fun k => clV (zs.getD k default)) p J) (h0 : J 0 w) :
    Calls Tryz.prog 30 #[.slice a zs.length cap, .func (.func f) #[] lb] w fun e w' => e = .returned (.bool (anyN p zs.length)) ∧ ∃ k, J k w' := by
  have c := Lib.hid (ifCl_c f lb eg a cap zs p J w hsl hst h0)
  clear hsl hst h0 eg
  rw [← idxN_ge]
  generalize idxN p zs.length = r at *
  go_enter Tryz.func30, Tryz.ntmps30
  go_wp2_with (go_at_call 56; refine c.out.mono ?_; rintro e w1 ⟨rfl, h1⟩; have H1 := Lib.hid h1; clear h1)
  go_ret
  exact ⟨rfl, H1.out⟩

/-- The same for a method bound to its receiver. -/
def StepsB (f : Nat) (u : Value) (n : Nat) (elem : Nat → Value) (p : Nat → Bool) (J : Nat → World → Prop) : Prop :=
  ∀ k W, k < n → (∀ j, j < k → p j = false) → J k W → Calls Tryz.prog f #[u, elem k] W fun e W' => e = .returned (.bool (p k)) ∧ J (k + 1) W'

set_option maxRecDepth 100000 in
set_option maxHeartbeats 1000000 in
theorem ifIntB_c (f : Nat) (u : Value) (eg : ∀ args w, (callFunc f args).run Tryz.prog w = .ok (.enter f args) w) (a : Option Addr) (cap : Nat) (zs : List Int) (p : Nat → Bool) (J : Nat → World → Prop) (w : World)
    (hsl : ∀ k W, J k W → IntsAt W (.slice a zs.length cap) zs) (hst : StepsB f u zs.length (fun k => .int .i64 (zs.getD k 0)) p J) (h0 : J 0 w) :
    Calls Tryz.prog 70 #[.slice a zs.length cap, .func (.func f) #[u] #[]] w fun e w' => e = .returned (.int .i64 (idxN p zs.length)) ∧ ∃ k, J k w' := by
  have hlen := (hsl 0 w h0).len
  have HSL := Lib.hid hsl; have HST := Lib.hid hst; have H0 := Lib.hid h0
  clear hsl hst h0
  go_enter Tryz.func70, Tryz.ntmps70
  go_wp2_with fail
  go_loopw [8] (fun i wr => ∃ k : Nat, k ≤ zs.length ∧ i = .int .i64 k ∧ Hid (J k wr) ∧ Hid (∀ j, j < k → p j = false)) (fun i _ => zs.length - (intOf i).toNat)
  case atStart => exact ⟨0, Nat.zero_le _, rfl, H0, Lib.hid fun j h => by omega⟩
  case round =>
    obtain ⟨k, hk, rfl, HJ, HP⟩ := hrel
    by_cases hlt : k < zs.length
    · obtain ⟨b, off, ha, hc⟩ := (HSL.out k wr HJ.out).at_ (by omega)
      subst ha
      have c0 := hc k (.int .i64 (zs.getD k 0)) (by simp [hlt])
      have hs := HST.out k wr hlt HP.out HJ.out
      simp only at hs
      generalize zs.getD k 0 = x at *
      clear hc
      cases hb : p k with
      | true =>
        rw [hb] at hs
        have HS := Lib.hid hs; have Hb := Lib.hid hb; clear hs hb
        go_wp2_with fail
        refine HS.out.mono ?_
        rintro e w1 ⟨rfl, j1⟩
        have J1 := Lib.hid j1; clear j1
        go_wp2_with fail
        go_ret
        exact ⟨by rw [idxN_some hlt Hb.out HP.out]; rfl, k + 1, J1.out⟩
      | false =>
        rw [hb] at hs
        have HS := Lib.hid hs; have Hb := Lib.hid hb; clear hs hb
        go_wp2_with fail
        refine HS.out.mono ?_
        rintro e w1 ⟨rfl, j1⟩
        have J1 := Lib.hid j1; clear j1
        go_wp2_with fail
        go_roundw
        case rel => exact ⟨k + 1, by omega, by go_num, J1, Lib.hid fun j h => by
          rcases Nat.lt_or_ge j k with h1 | h1
          · exact HP.out j h1
          · obtain rfl : j = k := by omega
            exact Hb.out⟩
        case measure => simp [intOf]; omega
    · obtain rfl : k = zs.length := by omega
      go_wp2_with fail
      go_ret
      exact ⟨by rw [idxN_none HP.out]; rfl, _, HJ.out⟩

theorem cfIntB_c (f : Nat) (u : Value) (eg : ∀ args w, (callFunc f args).run Tryz.prog w = .ok (.enter f args) w) (a : Option Addr) (cap : Nat) (zs : List Int) (p : Nat → Bool) (J : Nat → World → Prop) (w : World)
    (hsl : ∀ k W, J k W → IntsAt W (.slice a zs.length cap) zs) (hst : StepsB f u zs.length (fun k => .int .i64 (zs.getD k 0)) p J) (h0 : J 0 w) :
    Calls Tryz.prog 58 #[.slice a zs.length cap, .func (.func f) #[u] #[]] w fun e w' => e = .returned (.bool (anyN p zs.length)) ∧ ∃ k, J k w' := by
  have c := Lib.hid (ifIntB_c f u eg a cap zs p J w hsl hst h0)
  clear hsl hst h0 eg
  rw [← idxN_ge]
  generalize idxN p zs.length = r at *
  go_enter Tryz.func58, Tryz.ntmps58
  go_wp2_with (go_at_call 70; refine c.out.mono ?_; rintro e w1 ⟨rfl, h1⟩; have H1 := Lib.hid h1; clear h1)
  go_ret
  exact ⟨rfl, H1.out⟩

end Go.Proofs.YtfidioedjmjddaaGreat
