/-
  statute: isIn, isSecond, isSpell, has, Asks, states.
-/
import Derived.Test.YtahfpadaoobkfaaGreatDoorRows
import Derived.Test.YtahfpadaoobkfaaGreatDoorQS02
import Derived.Deep.QuietTactic
import Derived.BigQuiet
import Derived.Deep.RegionLaw
import Derived.Deep.RegionHeld3
namespace Go.Proofs.YtahfpadaoobkfaaGreatDoor
open Go.RowKit Go.Lib

theorem isIn_c (n lo hi : Int) (w : World) : Calls Tryz.prog 115 #[.int .i64 n, .int .i64 lo, .int .i64 hi] w fun e w' => e = .returned (.bool (isInB n lo hi)) ∧ w = w' := by
  unfold isInB
  by_cases h : lo ≤ n
  · go_enter Tryz.func115, Tryz.ntmps115
    go_wp2
    go_ret
    exact ⟨by simp [h], rfl⟩
  · go_enter Tryz.func115, Tryz.ntmps115
    go_wp2
    go_ret
    exact ⟨by have h2 : ¬ lo ≤ n := by omega
              simp [h2], rfl⟩

theorem isSecond_c (n : Int) (w : World) : Calls Tryz.prog 113 #[.int .i64 n] w fun e w' => e = .returned (.bool (secB n)) ∧ w = w' := by
  have c := Lib.hid (isIn_c n 0 10000000 w)
  go_enter Tryz.func113, Tryz.ntmps113
  go_wp2_with (go_at_call 115; refine c.out.mono ?_; rintro e w' ⟨rfl, rfl⟩)
  go_ret
  exact ⟨rfl, rfl⟩

theorem isSpell_c (f t : Int) (w : World) : Calls Tryz.prog 114 #[.agg #[.int .i64 f, .int .i64 t]] w fun e w' => e = .returned (.bool (spellB f t)) ∧ Fr [] w w' := by
  have c1 := Lib.hid (fun w => isSecond_c f w)
  have c2 := Lib.hid (fun w => isIn_c t (f + 1) 10000001 w)
  unfold spellB
  cases h : secB f with
  | false =>
    rw [h] at c1
    go_enter Tryz.func114, Tryz.ntmps114
    go_wp2_with (first | (go_at_call 113; refine (c1.out _).mono ?_; rintro e w' ⟨rfl, rfl⟩))
    go_ret
    exact ⟨rfl, Fr.alloc _ _ _⟩
  | true =>
    have hb : 0 ≤ f ∧ f ≤ 10000000 := isInB_iff.1 h
    rw [h] at c1
    generalize isInB t (f + 1) 10000001 = b at *
    go_enter Tryz.func114, Tryz.ntmps114
    go_wp2_with (first | (go_at_call 113; refine (c1.out _).mono ?_; rintro e w' ⟨rfl, rfl⟩) | (go_at_call 115; refine (c2.out _).mono ?_; rintro e w' ⟨rfl, rfl⟩))
    go_ret
    exact ⟨rfl, Fr.alloc _ _ _⟩

theorem has_c (f t s : Int) (w : World) (ht : -9223372036854775807 ≤ t ∧ t ≤ 9223372036854775807) : Calls Tryz.prog 170 #[.agg #[.int .i64 f, .int .i64 t], .int .i64 s] w fun e w' => e = .returned (.bool (hasB f t s)) ∧ Fr [] w w' := by
  have c2 := Lib.hid (fun w => isIn_c s f (t - 1) w)
  unfold hasB
  generalize isInB s f (t - 1) = b at *
  go_enter Tryz.func170, Tryz.ntmps170
  go_wp2_with (first | (go_at_call 115; refine (c2.out _).mono ?_; rintro e w' ⟨rfl, rfl⟩))
  go_ret
  exact ⟨rfl, Fr.alloc _ _ _⟩

set_option maxRecDepth 100000 in
set_option maxHeartbeats 800000 in
theorem asks_c (q : Qn) (w : World) : Calls Tryz.prog 147 #[qnV q] w fun e w' => e = .returned (.bool (asksB q)) ∧ Fr [] w w' := by
  obtain ⟨th, sa, a, k⟩ := q
  unfold asksB qnV
  simp only
  cases h1 : isInB th 0 99999999 <;> cases h2 : isInB sa 0 19 <;> cases h3 : secB a
  all_goals
    go_enter Tryz.func147, Tryz.ntmps147
    go_wp2_with (first | (go_at_call 115; refine (isIn_c _ _ _ _).mono ?_; rintro e w' ⟨rfl, rfl⟩) | (go_at_call 113; refine (isSecond_c _ _).mono ?_; rintro e w' ⟨rfl, rfl⟩))
    go_ret
    exact ⟨rfl, Fr.alloc _ _ _⟩

set_option maxRecDepth 100000 in
set_option maxHeartbeats 800000 in
theorem states_c (x : Fa) (q : Qn) (w : World) (hx : faB x = true) : Calls Tryz.prog 148 #[faV x, qnV q] w fun e w' => e = .returned (.bool (statesB x q)) ∧ Fr [] w w' := by
  obtain ⟨qt, qs, qa, qk⟩ := q
  obtain ⟨th, sa, f, t, kf, kt⟩ := x
  simp only [faB, spellB, secB, Bool.and_eq_true, isInB_iff] at hx
  have b1 : -9223372036854775807 ≤ t ∧ t ≤ 9223372036854775807 := ⟨by omega, by omega⟩
  have b2 : -9223372036854775807 ≤ kt ∧ kt ≤ 9223372036854775807 := ⟨by omega, by omega⟩
  clear hx
  have B1 := Lib.hid b1; have B2 := Lib.hid b2; clear b1 b2
  unfold statesB qnV faV
  simp only
  by_cases h1 : th = qt
  · subst h1
    cases h2 : hasB f t qa
    all_goals
      go_enter Tryz.func148, Tryz.ntmps148
      go_wp2_with fail
      refine (has_c f t qa _ B1.out).mono ?_
      rintro e w1 ⟨rfl, f1⟩
      have k0 := f1.keep (heap_alloc_old _ (heap_alloc_new w (.cells #[.int .i64 th, .int .i64 sa, .int .i64 f, .int .i64 t, .int .i64 kf, .int .i64 kt] 93))) (by simp)
      have k1 := f1.keep (heap_alloc_new (w.alloc (.cells #[.int .i64 th, .int .i64 sa, .int .i64 f, .int .i64 t, .int .i64 kf, .int .i64 kt] 93)) (.cells #[.int .i64 th, .int .i64 qs, .int .i64 qa, .int .i64 qk] 142)) (by simp)
      have d4 : w1.cell? ⟨w.heap.size, 4, none⟩ = some (.int .i64 kf) := cell_of_blk k0 4
      have d5 : w1.cell? ⟨w.heap.size, 5, none⟩ = some (.int .i64 kt) := cell_of_blk k0 5
      have e3 : w1.cell? ⟨w.heap.size + 1, 3, none⟩ = some (.int .i64 qk) := by simpa using cell_of_blk k1 3
      have F1 := Lib.hid (((Fr.alloc [] _ _).trans (Fr.alloc [] _ _)).trans f1)
      clear k0 k1 f1
      go_wp2_with (first | (go_at_call 170; refine (has_c kf kt qk _ B2.out).mono ?_; rintro e w2 ⟨rfl, f2⟩))
      go_ret
      first
        | exact ⟨by simp, F1.out⟩
        | exact ⟨by simp, F1.out.trans f2⟩
  · go_enter Tryz.func148, Tryz.ntmps148
    go_wp2_with fail
    go_ret
    exact ⟨by simp [h1], (Fr.alloc _ _ _).trans (Fr.alloc _ _ _)⟩

end Go.Proofs.YtahfpadaoobkfaaGreatDoor

/-
  slices.IndexFunc and slices.ContainsFunc at []int with a predicate that may change the world.
-/
namespace Go.Proofs.YtahfpadaoobkfaaGreatDoor
open Go.RowKit Go.Lib

/-- The first number below n that p takes, or -1. -/
def idxN (p : Nat → Bool) (n : Nat) : Int := match (List.range n).find? p with | some k => k | none => -1
def anyN (p : Nat → Bool) (n : Nat) : Bool := (List.range n).any p
theorem idxN_some {p : Nat → Bool} {n k : Nat} (hk : k < n) (h1 : p k = true) (h0 : ∀ j, j < k → p j = false) : idxN p n = k := by
  have : (List.range n).find? p = some k := by
    rw [List.find?_range_eq_some]
    exact ⟨h1, by simpa using hk, fun j hj => by simp [h0 j hj]⟩
  simp [idxN, this]
theorem idxN_none {p : Nat → Bool} {n : Nat} (h0 : ∀ j, j < n → p j = false) : idxN p n = -1 := by
  have : (List.range n).find? p = none := List.find?_eq_none.2 fun j hj => by simp [h0 j (by simpa using hj)]
  simp [idxN, this]
theorem anyN_true {p : Nat → Bool} {n k : Nat} (hk : k < n) (h1 : p k = true) : anyN p n = true := List.any_eq_true.2 ⟨k, by simpa using hk, h1⟩
theorem anyN_false {p : Nat → Bool} {n : Nat} (h0 : ∀ j, j < n → p j = false) : anyN p n = false := List.any_eq_false.2 fun j hj => by simp [h0 j (by simpa using hj)]
theorem idxN_ge (p : Nat → Bool) (n : Nat) : decide ((0 : Int) ≤ idxN p n) = anyN p n := by
  cases h : anyN p n with
  | true =>
    obtain ⟨k, hk, hp⟩ := List.any_eq_true.1 h
    unfold idxN
    cases hf : (List.range n).find? p with
    | none => exact absurd hp (by simpa using List.find?_eq_none.1 hf k hk)
    | some j => simp
  | false =>
    rw [idxN_none fun j hj => by simpa using List.any_eq_false.1 h j (by simpa using hj)]
    rfl
theorem anyN_list {α : Type} (l : List α) (q : α → Bool) (d : α) : anyN (fun k => q (l.getD k d)) l.length = l.any q := by
  cases h : l.any q with
  | true =>
    obtain ⟨x, hx, hq⟩ := List.any_eq_true.1 h
    obtain ⟨k, hk, rfl⟩ := List.getElem_of_mem hx
    exact anyN_true hk (by simpa [hk] using hq)
  | false =>
    refine anyN_false fun j hj => ?_
    have := List.any_eq_false.1 h l[j] (List.getElem_mem hj)
    simpa [hj] using this

theorem anyN_succ (p : Nat → Bool) (n : Nat) : anyN p (n + 1) = (p 0 || anyN (fun k => p (k + 1)) n) := by
  unfold anyN
  rw [List.range_succ_eq_map, List.any_cons, List.any_map]
  rfl

/-- What a predicate's calls do: in the k-th world it answers p k and leaves the next world. -/
def Steps (f : Nat) (lb : Array Value) (n : Nat) (elem : Nat → Value) (p : Nat → Bool) (J : Nat → World → Prop) : Prop :=
  ∀ k W, k < n → (∀ j, j < k → p j = false) → J k W → Calls Tryz.prog f (#[elem k] ++ lb) W fun e W' => e = .returned (.bool (p k)) ∧ J (k + 1) W'

set_option maxRecDepth 100000 in
set_option maxHeartbeats 1000000 in
theorem ifInt_c (f : Nat) (lb : Array Value) (eg : ∀ args w, (callFunc f args).run Tryz.prog w = .ok (.enter f args) w) (a : Option Addr) (cap : Nat) (zs : List Int) (p : Nat → Bool) (J : Nat → World → Prop) (w : World)
    (hsl : ∀ k W, J k W → IntsAt W (.slice a zs.length cap) zs) (hst : Steps f lb zs.length (fun k => .int .i64 (zs.getD k 0)) p J) (h0 : J 0 w) :
    Calls Tryz.prog 79 #[.slice a zs.length cap, .func (.func f) #[] lb] w fun e w' => e = .returned (.int .i64 (idxN p zs.length)) ∧ ∃ k, J k w' := by
  have hlen := (hsl 0 w h0).len
  have HSL := Lib.hid hsl; have HST := Lib.hid hst; have H0 := Lib.hid h0
  clear hsl hst h0
  go_enter Tryz.func79, Tryz.ntmps79
  go_wp2_with fail
  go_loopw [8] (fun i wr => ∃ k : Nat, k ≤ zs.length ∧ i = .int .i64 k ∧ Hid (J k wr) ∧ Hid (∀ j, j < k → p j = false)) (fun i _ => zs.length - (intOf i).toNat)
  case atStart => exact ⟨0, Nat.zero_le _, rfl, H0, Lib.hid fun j h => by omega⟩
  case round =>
    obtain ⟨k, hk, rfl, HJ, HP⟩ := hrel
    by_cases hlt : k < zs.length
    · obtain ⟨b, off, ha, hc⟩ := (HSL.out k wr HJ.out).at_ (by omega)
      subst ha
      have c0 := hc k (.int .i64 (zs.getD k 0)) (by simp [hlt])
      have hs := HST.out k wr hlt HP.out HJ.out
      simp only at hs
      generalize zs.getD k 0 = x at *
      clear hc
      cases hb : p k with
      | true =>
        rw [hb] at hs
        have HS := Lib.hid hs; have Hb := Lib.hid hb; clear hs hb
        go_wp2_with fail
        refine HS.out.mono ?_
        rintro e w1 ⟨rfl, j1⟩
        have J1 := Lib.hid j1; clear j1
        go_wp2_with fail
        go_ret
        exact ⟨by rw [idxN_some hlt Hb.out HP.out]; rfl, k + 1, J1.out⟩
      | false =>
        rw [hb] at hs
        have HS := Lib.hid hs; have Hb := Lib.hid hb; clear hs hb
        go_wp2_with fail
        refine HS.out.mono ?_
        rintro e w1 ⟨rfl, j1⟩
        have J1 := Lib.hid j1; clear j1
        go_wp2_with fail
        go_roundw
        case rel => exact ⟨k + 1, by omega, by go_num, J1, Lib.hid fun j h => by
          rcases Nat.lt_or_ge j k with h1 | h1
          · exact HP.out j h1
          · obtain rfl : j = k := by omega
            exact Hb.out⟩
        case measure => simp [intOf]; omega
    · obtain rfl : k = zs.length := by omega
      go_wp2_with fail
      go_ret
      exact ⟨by rw [idxN_none HP.out]; rfl, _, HJ.out⟩

theorem cfInt_c (f : Nat) (lb : Array Value) (eg : ∀ args w, (callFunc f args).run Tryz.prog w = .ok (.enter f args) w) (a : Option Addr) (cap : Nat) (zs : List Int) (p : Nat → Bool) (J : Nat → World → Prop) (w : World)
    (hsl : ∀ k W, J k W → IntsAt W (.slice a zs.length cap) zs) (hst : Steps f lb zs.length (fun k => .int .i64 (zs.getD k 0)) p J) (h0 : J 0 w) :
    Calls Tryz.prog 43 #[.slice a zs.length cap, .func (.func f) #[] lb] w fun e w' => e = .returned (.bool (anyN p zs.length)) ∧ ∃ k, J k w' := by
  have c := Lib.hid (ifInt_c f lb eg a cap zs p J w hsl hst h0)
  clear hsl hst h0 eg
  rw [← idxN_ge]
  generalize idxN p zs.length = r at *
  go_enter Tryz.func43, Tryz.ntmps43
  go_wp2_with (go_at_call 79; refine c.out.mono ?_; rintro e w1 ⟨rfl, h1⟩; have H1 := Lib.hid h1; clear h1)
  go_ret
  exact ⟨rfl, H1.out⟩

set_option maxRecDepth 100000 in
set_option maxHeartbeats 1000000 in
theorem ifRp_c (f : Nat) (lb : Array Value) (eg : ∀ args w, (callFunc f args).run Tryz.prog w = .ok (.enter f args) w) (a : Option Addr) (cap : Nat) (zs : List Rp) (p : Nat → Bool) (J : Nat → World → Prop) (w : World)
    (hsl : ∀ k W, J k W → Sl W (.slice a zs.length cap) zs.length (zs.flatMap rpC)) (hst : Steps f lb zs.length (fun k => rpV (zs.getD k default)) p J) (h0 : J 0 w) :
    Calls Tryz.prog 138 #[.slice a zs.length cap, .func (.func f) #[] lb] w fun e w' => e = .returned (.int .i64 (idxN p zs.length)) ∧ ∃ k, J k w' := by
  have hlen := (hsl 0 w h0).len
  have HSL := Lib.hid hsl; have HST := Lib.hid hst; have H0 := Lib.hid h0
  clear hsl hst h0
  go_enter Tryz.func138, Tryz.ntmps138
  go_wp2_with fail
  go_loopw [8] (fun i wr => ∃ k : Nat, k ≤ zs.length ∧ i = .int .i64 k ∧ Hid (J k wr) ∧ Hid (∀ j, j < k → p j = false)) (fun i _ => zs.length - (intOf i).toNat)
  case atStart => exact ⟨0, Nat.zero_le _, rfl, H0, Lib.hid fun j h => by omega⟩
  case round =>
    obtain ⟨k, hk, rfl, HJ, HP⟩ := hrel
    by_cases hlt : k < zs.length
    · obtain ⟨b, off, ha, hc⟩ := (HSL.out k wr HJ.out).at_ (by omega)
      subst ha
      have c0 := hc (k * 3 + 0) _ ((flat_get (enc := rpC) (k := 3) (fun _ => rfl) zs k hlt 0 (by omega)).trans rfl)
      have c1 := hc (k * 3 + 1) _ ((flat_get (enc := rpC) (k := 3) (fun _ => rfl) zs k hlt 1 (by omega)).trans rfl)
      have c2 := hc (k * 3 + 2) _ ((flat_get (enc := rpC) (k := 3) (fun _ => rfl) zs k hlt 2 (by omega)).trans rfl)
      have hs := HST.out k wr hlt HP.out HJ.out
      simp only at hs
      rw [show zs.getD k default = zs[k] by simp [hlt]] at hs
      generalize zs[k] = x at *
      obtain ⟨x0, x1, x2⟩ := x
      simp only [Nat.add_zero] at hs c0 c1 c2
      simp only [← Nat.add_assoc] at c0 c1 c2
      clear hc
      cases hb : p k with
      | true =>
        rw [hb] at hs
        have HS := Lib.hid hs; have Hb := Lib.hid hb; clear hs hb
        go_wp2_with fail
        refine HS.out.mono ?_
        rintro e w1 ⟨rfl, j1⟩
        have J1 := Lib.hid j1; clear j1
        go_wp2_with fail
        go_ret
        exact ⟨by rw [idxN_some hlt Hb.out HP.out]; rfl, k + 1, J1.out⟩
      | false =>
        rw [hb] at hs
        have HS := Lib.hid hs; have Hb := Lib.hid hb; clear hs hb
        go_wp2_with fail
        refine HS.out.mono ?_
        rintro e w1 ⟨rfl, j1⟩
        have J1 := Lib.hid j1; clear j1
        go_wp2_with fail
        go_roundw
        case rel => exact ⟨k + 1, by omega, by go_num, J1, Lib.hid fun j h => by
          rcases Nat.lt_or_ge j k with h1 | h1
          · exact HP.out j h1
          · obtain rfl : j = k := by omega
            exact Hb.out⟩
        case measure => simp [intOf]; omega
    · obtain rfl : k = zs.length := by omega
      go_wp2_with fail
      go_ret
      exact ⟨by rw [idxN_none HP.out]; rfl, _, HJ.out⟩

theorem cfRp_c (f : Nat) (lb : Array Value) (eg : ∀ args w, (callFunc f args).run Tryz.prog w = .ok (.enter f args) w) (a : Option Addr) (cap : Nat) (zs : List Rp) (p : Nat → Bool) (J : Nat → World → Prop) (w : World)
    (hsl : ∀ k W, J k W → Sl W (.slice a zs.length cap) zs.length (zs.flatMap rpC)) (hst : Steps f lb zs.length (fun k => rpV (zs.getD k default)) p J) (h0 : J 0 w) :
    Calls Tryz.prog 117 #[.slice a zs.length cap, .func (.func f) #[] lb] w fun e w' => e = .returned (.bool (anyN p zs.length)) ∧ ∃ k, J k w' := by
  have c := Lib.hid (ifRp_c f lb eg a cap zs p J w hsl hst h0)
  clear hsl hst h0 eg
  rw [← idxN_ge]
  generalize idxN p zs.length = r at *
  go_enter Tryz.func117, Tryz.ntmps117
  go_wp2_with (go_at_call 138; refine c.out.mono ?_; rintro e w1 ⟨rfl, h1⟩; have H1 := Lib.hid h1; clear h1)
  go_ret
  exact ⟨rfl, H1.out⟩

set_option maxRecDepth 100000 in
set_option maxHeartbeats 1000000 in
theorem ifFa_c (f : Nat) (lb : Array Value) (eg : ∀ args w, (callFunc f args).run Tryz.prog w = .ok (.enter f args) w) (a : Option Addr) (cap : Nat) (zs : List Fa) (p : Nat → Bool) (J : Nat → World → Prop) (w : World)
    (hsl : ∀ k W, J k W → Sl W (.slice a zs.length cap) zs.length (zs.flatMap faC)) (hst : Steps f lb zs.length (fun k => faV (zs.getD k default)) p J) (h0 : J 0 w) :
    Calls Tryz.prog 139 #[.slice a zs.length cap, .func (.func f) #[] lb] w fun e w' => e = .returned (.int .i64 (idxN p zs.length)) ∧ ∃ k, J k w' := by
  have hlen := (hsl 0 w h0).len
  have HSL := Lib.hid hsl; have HST := Lib.hid hst; have H0 := Lib.hid h0
  clear hsl hst h0
  go_enter Tryz.func139, Tryz.ntmps139
  go_wp2_with fail
  go_loopw [8] (fun i wr => ∃ k : Nat, k ≤ zs.length ∧ i = .int .i64 k ∧ Hid (J k wr) ∧ Hid (∀ j, j < k → p j = false)) (fun i _ => zs.length - (intOf i).toNat)
  case atStart => exact ⟨0, Nat.zero_le _, rfl, H0, Lib.hid fun j h => by omega⟩
  case round =>
    obtain ⟨k, hk, rfl, HJ, HP⟩ := hrel
    by_cases hlt : k < zs.length
    · obtain ⟨b, off, ha, hc⟩ := (HSL.out k wr HJ.out).at_ (by omega)
      subst ha
      have c0 := hc (k * 6 + 0) _ ((flat_get (enc := faC) (k := 6) (fun _ => rfl) zs k hlt 0 (by omega)).trans rfl)
      have c1 := hc (k * 6 + 1) _ ((flat_get (enc := faC) (k := 6) (fun _ => rfl) zs k hlt 1 (by omega)).trans rfl)
      have c2 := hc (k * 6 + 2) _ ((flat_get (enc := faC) (k := 6) (fun _ => rfl) zs k hlt 2 (by omega)).trans rfl)
      have c3 := hc (k * 6 + 3) _ ((flat_get (enc := faC) (k := 6) (fun _ => rfl) zs k hlt 3 (by omega)).trans rfl)
      have c4 := hc (k * 6 + 4) _ ((flat_get (enc := faC) (k := 6) (fun _ => rfl) zs k hlt 4 (by omega)).trans rfl)
      have c5 := hc (k * 6 + 5) _ ((flat_get (enc := faC) (k := 6) (fun _ => rfl) zs k hlt 5 (by omega)).trans rfl)
      have hs := HST.out k wr hlt HP.out HJ.out
      simp only at hs
      rw [show zs.getD k default = zs[k] by simp [hlt]] at hs
      generalize zs[k] = x at *
      obtain ⟨x0, x1, x2, x3, x4, x5⟩ := x
      simp only [Nat.add_zero] at hs c0 c1 c2 c3 c4 c5
      simp only [← Nat.add_assoc] at c0 c1 c2 c3 c4 c5
      clear hc
      cases hb : p k with
      | true =>
        rw [hb] at hs
        have HS := Lib.hid hs; have Hb := Lib.hid hb; clear hs hb
        go_wp2_with fail
        refine HS.out.mono ?_
        rintro e w1 ⟨rfl, j1⟩
        have J1 := Lib.hid j1; clear j1
        go_wp2_with fail
        go_ret
        exact ⟨by rw [idxN_some hlt Hb.out HP.out]; rfl, k + 1, J1.out⟩
      | false =>
        rw [hb] at hs
        have HS := Lib.hid hs; have Hb := Lib.hid hb; clear hs hb
        go_wp2_with fail
        refine HS.out.mono ?_
        rintro e w1 ⟨rfl, j1⟩
        have J1 := Lib.hid j1; clear j1
        go_wp2_with fail
        go_roundw
        case rel => exact ⟨k + 1, by omega, by go_num, J1, Lib.hid fun j h => by
          rcases Nat.lt_or_ge j k with h1 | h1
          · exact HP.out j h1
          · obtain rfl : j = k := by omega
            exact Hb.out⟩
        case measure => simp [intOf]; omega
    · obtain rfl : k = zs.length := by omega
      go_wp2_with fail
      go_ret
      exact ⟨by rw [idxN_none HP.out]; rfl, _, HJ.out⟩

theorem cfFa_c (f : Nat) (lb : Array Value) (eg : ∀ args w, (callFunc f args).run Tryz.prog w = .ok (.enter f args) w) (a : Option Addr) (cap : Nat) (zs : List Fa) (p : Nat → Bool) (J : Nat → World → Prop) (w : World)
    (hsl : ∀ k W, J k W → Sl W (.slice a zs.length cap) zs.length (zs.flatMap faC)) (hst : Steps f lb zs.length (fun k => faV (zs.getD k default)) p J) (h0 : J 0 w) :
    Calls Tryz.prog 119 #[.slice a zs.length cap, .func (.func f) #[] lb] w fun e w' => e = .returned (.bool (anyN p zs.length)) ∧ ∃ k, J k w' := by
  have c := Lib.hid (ifFa_c f lb eg a cap zs p J w hsl hst h0)
  clear hsl hst h0 eg
  rw [← idxN_ge]
  generalize idxN p zs.length = r at *
  go_enter Tryz.func119, Tryz.ntmps119
  go_wp2_with (go_at_call 139; refine c.out.mono ?_; rintro e w1 ⟨rfl, h1⟩; have H1 := Lib.hid h1; clear h1)
  go_ret
  exact ⟨rfl, H1.out⟩

set_option maxRecDepth 100000 in
set_option maxHeartbeats 1000000 in
theorem ifFd_c (f : Nat) (lb : Array Value) (eg : ∀ args w, (callFunc f args).run Tryz.prog w = .ok (.enter f args) w) (a : Option Addr) (cap : Nat) (zs : List Fd) (p : Nat → Bool) (J : Nat → World → Prop) (w : World)
    (hsl : ∀ k W, J k W → Sl W (.slice a zs.length cap) zs.length (zs.flatMap fdC)) (hst : Steps f lb zs.length (fun k => fdV (zs.getD k default)) p J) (h0 : J 0 w) :
    Calls Tryz.prog 174 #[.slice a zs.length cap, .func (.func f) #[] lb] w fun e w' => e = .returned (.int .i64 (idxN p zs.length)) ∧ ∃ k, J k w' := by
  have hlen := (hsl 0 w h0).len
  have HSL := Lib.hid hsl; have HST := Lib.hid hst; have H0 := Lib.hid h0
  clear hsl hst h0
  go_enter Tryz.func174, Tryz.ntmps174
  go_wp2_with fail
  go_loopw [8] (fun i wr => ∃ k : Nat, k ≤ zs.length ∧ i = .int .i64 k ∧ Hid (J k wr) ∧ Hid (∀ j, j < k → p j = false)) (fun i _ => zs.length - (intOf i).toNat)
  case atStart => exact ⟨0, Nat.zero_le _, rfl, H0, Lib.hid fun j h => by omega⟩
  case round =>
    obtain ⟨k, hk, rfl, HJ, HP⟩ := hrel
    by_cases hlt : k < zs.length
    · obtain ⟨b, off, ha, hc⟩ := (HSL.out k wr HJ.out).at_ (by omega)
      subst ha
      have c0 := hc (k * 4 + 0) _ ((flat_get (enc := fdC) (k := 4) (fun _ => rfl) zs k hlt 0 (by omega)).trans rfl)
      have c1 := hc (k * 4 + 1) _ ((flat_get (enc := fdC) (k := 4) (fun _ => rfl) zs k hlt 1 (by omega)).trans rfl)
      have c2 := hc (k * 4 + 2) _ ((flat_get (enc := fdC) (k := 4) (fun _ => rfl) zs k hlt 2 (by omega)).trans rfl)
      have c3 := hc (k * 4 + 3) _ ((flat_get (enc := fdC) (k := 4) (fun _ => rfl) zs k hlt 3 (by omega)).trans rfl)
      have hs := HST.out k wr hlt HP.out HJ.out
      simp only at hs
      rw [show zs.getD k default = zs[k] by simp [hlt]] at hs
      generalize zs[k] = x at *
      obtain ⟨x0, x1, x2, x3⟩ := x
      simp only [Nat.add_zero] at hs c0 c1 c2 c3
      simp only [← Nat.add_assoc] at c0 c1 c2 c3
      clear hc
      cases hb : p k with
      | true =>
        rw [hb] at hs
        have HS := Lib.hid hs; have Hb := Lib.hid hb; clear hs hb
        go_wp2_with fail
        refine HS.out.mono ?_
        rintro e w1 ⟨rfl, j1⟩
        have J1 := Lib.hid j1; clear j1
        go_wp2_with fail
        go_ret
        exact ⟨by rw [idxN_some hlt Hb.out HP.out]; rfl, k + 1, J1.out⟩
      | false =>
        rw [hb] at hs
        have HS := Lib.hid hs; have Hb := Lib.hid hb; clear hs hb
        go_wp2_with fail
        refine HS.out.mono ?_
        rintro e w1 ⟨rfl, j1⟩
        have J1 := Lib.hid j1; clear j1
        go_wp2_with fail
        go_roundw
        case rel => exact ⟨k + 1, by omega, by go_num, J1, Lib.hid fun j h => by
          rcases Nat.lt_or_ge j k with h1 | h1
          · exact HP.out j h1
          · obtain rfl : j = k := by omega
            exact Hb.out⟩
        case measure => simp [intOf]; omega
    · obtain rfl : k = zs.length := by omega
      go_wp2_with fail
      go_ret
      exact ⟨by rw [idxN_none HP.out]; rfl, _, HJ.out⟩

theorem cfFd_c (f : Nat) (lb : Array Value) (eg : ∀ args w, (callFunc f args).run Tryz.prog w = .ok (.enter f args) w) (a : Option Addr) (cap : Nat) (zs : List Fd) (p : Nat → Bool) (J : Nat → World → Prop) (w : World)
    (hsl : ∀ k W, J k W → Sl W (.slice a zs.length cap) zs.length (zs.flatMap fdC)) (hst : Steps f lb zs.length (fun k => fdV (zs.getD k default)) p J) (h0 : J 0 w) :
    Calls Tryz.prog 152 #[.slice a zs.length cap, .func (.func f) #[] lb] w fun e w' => e = .returned (.bool (anyN p zs.length)) ∧ ∃ k, J k w' := by
  have c := Lib.hid (ifFd_c f lb eg a cap zs p J w hsl hst h0)
  clear hsl hst h0 eg
  rw [← idxN_ge]
  generalize idxN p zs.length = r at *
  go_enter Tryz.func152, Tryz.ntmps152
  go_wp2_with (go_at_call 174; refine c.out.mono ?_; rintro e w1 ⟨rfl, h1⟩; have H1 := Lib.hid h1; clear h1)
  go_ret
  exact ⟨rfl, H1.out⟩

set_option maxRecDepth 100000 in
set_option maxHeartbeats 1000000 in
theorem ifCl_c (f : Nat) (lb : Array Value) (eg : ∀ args w, (callFunc f args).run Tryz.prog w = .ok (.enter f args) w) (a : Option Addr) (cap : Nat) (zs : List ClV) (p : Nat → Bool) (J : Nat → World → Prop) (w : World)
    (hsl : ∀ k W, J k W → Sl W (.slice a zs.length cap) zs.length (zs.flatMap clC)) (hst : Steps f lb zs.length (fun k => clV (zs.getD k default)) p J) (h0 : J 0 w) :
    Calls Tryz.prog 136 #[.slice a zs.length cap, .func (.func f) #[] lb] w fun e w' => e = .returned (.int .i64 (idxN p zs.length)) ∧ ∃ k, J k w' := by
  have hlen := (hsl 0 w h0).len
  have HSL := Lib.hid hsl; have HST := Lib.hid hst; have H0 := Lib.hid h0
  clear hsl hst h0
  go_enter Tryz.func136, Tryz.ntmps136
  go_wp2_with fail
  go_loopw [8] (fun i wr => ∃ k : Nat, k ≤ zs.length ∧ i = .int .i64 k ∧ Hid (J k wr) ∧ Hid (∀ j, j < k → p j = false)) (fun i _ => zs.length - (intOf i).toNat)
  case atStart => exact ⟨0, Nat.zero_le _, rfl, H0, Lib.hid fun j h => by omega⟩
  case round =>
    obtain ⟨k, hk, rfl, HJ, HP⟩ := hrel
    by_cases hlt : k < zs.length
    · obtain ⟨b, off, ha, hc⟩ := (HSL.out k wr HJ.out).at_ (by omega)
      subst ha
      have c0 := hc (k * 6 + 0) _ ((flat_get (enc := clC) (k := 6) (fun _ => rfl) zs k hlt 0 (by omega)).trans rfl)
      have c1 := hc (k * 6 + 1) _ ((flat_get (enc := clC) (k := 6) (fun _ => rfl) zs k hlt 1 (by omega)).trans rfl)
      have c2 := hc (k * 6 + 2) _ ((flat_get (enc := clC) (k := 6) (fun _ => rfl) zs k hlt 2 (by omega)).trans rfl)
      have c3 := hc (k * 6 + 3) _ ((flat_get (enc := clC) (k := 6) (fun _ => rfl) zs k hlt 3 (by omega)).trans rfl)
      have c4 := hc (k * 6 + 4) _ ((flat_get (enc := clC) (k := 6) (fun _ => rfl) zs k hlt 4 (by omega)).trans rfl)
      have c5 := hc (k * 6 + 5) _ ((flat_get (enc := clC) (k := 6) (fun _ => rfl) zs k hlt 5 (by omega)).trans rfl)
      have hs := HST.out k wr hlt HP.out HJ.out
      simp only at hs
      rw [show zs.getD k default = zs[k] by simp [hlt]] at hs
      generalize zs[k] = x at *
      obtain ⟨⟨x0, x1, x2, xn, xb, x5⟩, x3, x4⟩ := x
      simp only [Nat.add_zero] at hs c0 c1 c2 c3 c4 c5
      simp only [← Nat.add_assoc] at c0 c1 c2 c3 c4 c5
      clear hc
      cases hb : p k with
      | true =>
        rw [hb] at hs
        have HS := Lib.hid hs; have Hb := Lib.hid hb; clear hs hb
        go_wp2_with fail
        refine HS.out.mono ?_
        rintro e w1 ⟨rfl, j1⟩
        have J1 := Lib.hid j1; clear j1
        go_wp2_with fail
        go_ret
        exact ⟨by rw [idxN_some hlt Hb.out HP.out]; rfl, k + 1, J1.out⟩
      | false =>
        rw [hb] at hs
        have HS := Lib.hid hs; have Hb := Lib.hid hb; clear hs hb
        go_wp2_with fail
        refine HS.out.mono ?_
        rintro e w1 ⟨rfl, j1⟩
        have J1 := Lib.hid j1; clear j1
        go_wp2_with fail
        go_roundw
        case rel => exact ⟨k + 1, by omega, by go_num, J1, Lib.hid fun j h => by
          rcases Nat.lt_or_ge j k with h1 | h1
          · exact HP.out j h1
          · obtain rfl : j = k := by omega
            exact Hb.out⟩
        case measure => simp [intOf]; omega
    · obtain rfl : k = zs.length := by omega
      go_wp2_with fail
      go_ret
      exact ⟨by rw [idxN_none HP.out]; rfl, _, HJ.out⟩

theorem cfCl_c (f : Nat) (lb : Array Value) (eg : ∀ args w, (callFunc f args).run Tryz.prog w = .ok (.enter f args) w) (a : Option Addr) (cap : Nat) (zs : List ClV) (p : Nat → Bool) (J : Nat → World → Prop) (w : World)
    (hsl : ∀ k W, J k W → Sl W (.slice a zs.length cap) zs.length (zs.flatMap clC)) (hst : Steps f lb zs.length (fun k => clV (zs.getD k default)) p J) (h0 : J 0 w) :
    Calls Tryz.prog 111 #[.slice a zs.length cap, .func (.func f) #[] lb] w fun e w' => e = .returned (.bool (anyN p zs.length)) ∧ ∃ k, J k w' := by
  have c := Lib.hid (ifCl_c f lb eg a cap zs p J w hsl hst h0)
  clear hsl hst h0 eg
  rw [← idxN_ge]
  generalize idxN p zs.length = r at *
  go_enter Tryz.func111, Tryz.ntmps111
  go_wp2_with (go_at_call 136; refine c.out.mono ?_; rintro e w1 ⟨rfl, h1⟩; have H1 := Lib.hid h1; clear h1)
  go_ret
  exact ⟨rfl, H1.out⟩

/-- The same for a method bound to its receiver. -/
def StepsB (f : Nat) (u : Value) (n : Nat) (elem : Nat → Value) (p : Nat → Bool) (J : Nat → World → Prop) : Prop :=
  ∀ k W, k < n → (∀ j, j < k → p j = false) → J k W → Calls Tryz.prog f #[u, elem k] W fun e W' => e = .returned (.bool (p k)) ∧ J (k + 1) W'

set_option maxRecDepth 100000 in
set_option maxHeartbeats 1000000 in
theorem ifIntB_c (f : Nat) (u : Value) (eg : ∀ args w, (callFunc f args).run Tryz.prog w = .ok (.enter f args) w) (a : Option Addr) (cap : Nat) (zs : List Int) (p : Nat → Bool) (J : Nat → World → Prop) (w : World)
    (hsl : ∀ k W, J k W → IntsAt W (.slice a zs.length cap) zs) (hst : StepsB f u zs.length (fun k => .int .i64 (zs.getD k 0)) p J) (h0 : J 0 w) :
    Calls Tryz.prog 79 #[.slice a zs.length cap, .func (.func f) #[u] #[]] w fun e w' => e = .returned (.int .i64 (idxN p zs.length)) ∧ ∃ k, J k w' := by
  have hlen := (hsl 0 w h0).len
  have HSL := Lib.hid hsl; have HST := Lib.hid hst; have H0 := Lib.hid h0
  clear hsl hst h0
  go_enter Tryz.func79, Tryz.ntmps79
  go_wp2_with fail
  go_loopw [8] (fun i wr => ∃ k : Nat, k ≤ zs.length ∧ i = .int .i64 k ∧ Hid (J k wr) ∧ Hid (∀ j, j < k → p j = false)) (fun i _ => zs.length - (intOf i).toNat)
  case atStart => exact ⟨0, Nat.zero_le _, rfl, H0, Lib.hid fun j h => by omega⟩
  case round =>
    obtain ⟨k, hk, rfl, HJ, HP⟩ := hrel
    by_cases hlt : k < zs.length
    · obtain ⟨b, off, ha, hc⟩ := (HSL.out k wr HJ.out).at_ (by omega)
      subst ha
      have c0 := hc k (.int .i64 (zs.getD k 0)) (by simp [hlt])
      have hs := HST.out k wr hlt HP.out HJ.out
      simp only at hs
      generalize zs.getD k 0 = x at *
      clear hc
      cases hb : p k with
      | true =>
        rw [hb] at hs
        have HS := Lib.hid hs; have Hb := Lib.hid hb; clear hs hb
        go_wp2_with fail
        refine HS.out.mono ?_
        rintro e w1 ⟨rfl, j1⟩
        have J1 := Lib.hid j1; clear j1
        go_wp2_with fail
        go_ret
        exact ⟨by rw [idxN_some hlt Hb.out HP.out]; rfl, k + 1, J1.out⟩
      | false =>
        rw [hb] at hs
        have HS := Lib.hid hs; have Hb := Lib.hid hb; clear hs hb
        go_wp2_with fail
        refine HS.out.mono ?_
        rintro e w1 ⟨rfl, j1⟩
        have J1 := Lib.hid j1; clear j1
        go_wp2_with fail
        go_roundw
        case rel => exact ⟨k + 1, by omega, by go_num, J1, Lib.hid fun j h => by
          rcases Nat.lt_or_ge j k with h1 | h1
          · exact HP.out j h1
          · obtain rfl : j = k := by omega
            exact Hb.out⟩
        case measure => simp [intOf]; omega
    · obtain rfl : k = zs.length := by omega
      go_wp2_with fail
      go_ret
      exact ⟨by rw [idxN_none HP.out]; rfl, _, HJ.out⟩

theorem cfIntB_c (f : Nat) (u : Value) (eg : ∀ args w, (callFunc f args).run Tryz.prog w = .ok (.enter f args) w) (a : Option Addr) (cap : Nat) (zs : List Int) (p : Nat → Bool) (J : Nat → World → Prop) (w : World)
    (hsl : ∀ k W, J k W → IntsAt W (.slice a zs.length cap) zs) (hst : StepsB f u zs.length (fun k => .int .i64 (zs.getD k 0)) p J) (h0 : J 0 w) :
    Calls Tryz.prog 43 #[.slice a zs.length cap, .func (.func f) #[u] #[]] w fun e w' => e = .returned (.bool (anyN p zs.length)) ∧ ∃ k, J k w' := by
  have c := Lib.hid (ifIntB_c f u eg a cap zs p J w hsl hst h0)
  clear hsl hst h0 eg
  rw [← idxN_ge]
  generalize idxN p zs.length = r at *
  go_enter Tryz.func43, Tryz.ntmps43
  go_wp2_with (go_at_call 79; refine c.out.mono ?_; rintro e w1 ⟨rfl, h1⟩; have H1 := Lib.hid h1; clear h1)
  go_ret
  exact ⟨rfl, H1.out⟩

end Go.Proofs.YtahfpadaoobkfaaGreatDoor

/-
  statute: ascends, and Valid's predicates.
-/
namespace Go.Proofs.YtahfpadaoobkfaaGreatDoor
open Go.RowKit Go.Lib

theorem alloc2' (w : World) (x y : Obj) : ((w.alloc x).alloc y).heap[w.heap.size]? = some x ∧ ((w.alloc x).alloc y).heap[w.heap.size + 1]? = some y := by
  have h : (w.alloc x).heap.size = w.heap.size + 1 := by simp
  exact ⟨heap_alloc_old _ (heap_alloc_new w x), h ▸ heap_alloc_new (w.alloc x) y⟩

def ascP (l : List Int) (below : Int) (k : Nat) : Bool := !isInB (l.getD k 0) (((-1) :: l).getD k 0 + 1) (below - 1)
theorem ascGo_any (below : Int) : ∀ (l : List Int) (last : Int), ascGo below last l = !anyN (fun k => !isInB (l.getD k 0) ((last :: l).getD k 0 + 1) (below - 1)) l.length
  | [], _ => rfl
  | n :: l, last => by
    rw [ascGo, ascGo_any below l n, List.length_cons, anyN_succ]
    simp only [List.getD_cons_zero, List.getD_cons_succ, Bool.not_or, Bool.not_not]

set_option maxRecDepth 100000 in
set_option maxHeartbeats 800000 in
theorem asc1_c (BL BB : Nat) (n before below : Int) (w : World) (hl : w.heap[BL]? = some (.cells #[.int .i64 before] 3 (0, 0))) (hb : w.heap[BB]? = some (.cells #[.int .i64 below] 3 (0, 0))) (hne : BB ≠ BL) (h1 : -9223372036854775808 ≤ before) (h2 : before < 9223372036854775807) (h3 : -9223372036854775808 < below) (h4 : below ≤ 9223372036854775807) :
    Calls Tryz.prog 137 #[.int .i64 n, .pointer (some ⟨BL, 0, none⟩), .pointer (some ⟨BB, 0, none⟩)] w fun e w' => e = .returned (.bool (!isInB n (before + 1) (below - 1))) ∧ w' = w.setCell ⟨BL, 0, none⟩ (.int .i64 n) := by
  have c1 : w.cell? ⟨BL, 0, none⟩ = some (.int .i64 before) := cell_of_blk hl 0
  have f1 := free_of_blk hl 0
  have c2 : w.cell? ⟨BB, 0, none⟩ = some (.int .i64 below) := cell_of_blk hb 0
  clear hl hb
  go_enter Tryz.func137, Tryz.ntmps137
  go_wp2_with (first | (go_at_call 115; refine (isIn_c _ _ _ _).mono ?_; rintro e w' ⟨rfl, rfl⟩))
  go_ret
  exact ⟨rfl, rfl⟩

set_option maxRecDepth 100000 in
set_option maxHeartbeats 800000 in
set_option maxRecDepth 100000 in
theorem ascends_c (v : Value) (l : List Int) (below : Int) (w : World) (hs : IntsAt w v l) (hi : ∀ m, m ∈ l → I64 m) (hb : 0 ≤ below) (hb2 : below ≤ 9223372036854775807) :
    Calls Tryz.prog 116 #[v, .int .i64 below] w fun e w' => e = .returned (.bool (ascB l below)) ∧ Fr [] w w' := by
  obtain ⟨a, cap, rfl⟩ := hs.val
  have hlen := hs.len
  have HS := Lib.hid hs; have HI := Lib.hid hi; clear hs hi
  by_cases h4 : l.length ≤ 4
  · have e1 : ascB l below = !anyN (ascP l below) l.length := by
      rw [ascB, ascGo_any]; simp only [h4, decide_true, Bool.true_and]; rfl
    have e2 : Hid (∀ k, (-1 :: l).getD (k + 1) 0 = l.getD k 0) := Lib.hid fun k => rfl
    have cc : Hid (∀ (W : World) (BB BL : Nat), Fr [] w W → W.heap[BB]? = some (.cells #[.int .i64 below] 3 (0, 0)) → W.heap[BL]? = some (.cells #[.int .i64 (-1)] 3 (0, 0)) → w.heap.size ≤ BL → BB ≠ BL →
        Calls Tryz.prog 43 #[.slice a l.length cap, .func (.func 137) #[] #[.pointer (some ⟨BL, 0, none⟩), .pointer (some ⟨BB, 0, none⟩)]] W fun e w' => e = .returned (.bool (anyN (ascP l below) l.length)) ∧ Fr [] w w') := Lib.hid fun W BB BL hf hB hL hn hne => by
      refine (cfInt_c 137 #[.pointer (some ⟨BL, 0, none⟩), .pointer (some ⟨BB, 0, none⟩)] (fun _ _ => rfl) a cap l (ascP l below) (fun k W' => Fr [BL] W W' ∧ W'.heap[BL]? = some (.cells #[.int .i64 (((-1) :: l).getD k 0)] 3 (0, 0))) W ?_ ?_ ?_).mono ?_
      · intro k W' hJ
        exact HS.out.same (hf.step hJ.1 (fun i hi => by simp at hi; exact .inr (by omega)))
      · intro k W' hk hp hJ
        have hbb := hJ.1.keep hB (by simpa using hne)
        have hbd : -9223372036854775808 ≤ ((-1) :: l).getD k 0 ∧ ((-1) :: l).getD k 0 < 9223372036854775807 := by
          cases k with
          | zero => simp
          | succ k =>
            have h5 := hp k (by omega)
            have h6 := HI.out (l.getD k 0) (by
              have : k < l.length := by omega
              simp [this])
            simp only [ascP, Bool.not_eq_false', isInB_iff] at h5
            rw [e2.out k]
            exact ⟨h6.1, by omega⟩
        refine (asc1_c BL BB (l.getD k 0) _ below W' hJ.2 hbb hne hbd.1 hbd.2 (by omega) hb2).mono ?_
        rintro e w' ⟨rfl, rfl⟩
        refine ⟨rfl, hJ.1.trans (Fr.setCell _ _ (by simp)), ?_⟩
        rw [heap_setCell_same _ hJ.2, e2.out k]
        rfl
      · exact ⟨Fr.refl _ _, hL⟩
      · rintro e w' ⟨rfl, k, hJ⟩
        exact ⟨rfl, hf.step hJ.1 (fun i hi => by simp at hi; exact .inr (by omega))⟩
    rw [e1]
    generalize anyN (ascP l below) l.length = r at *
    clear e1
    go_enter Tryz.func116, Tryz.ntmps116
    go_wp2_with fail
    refine (cc.out _ w.heap.size (w.heap.size + 1) ((Fr.alloc _ _ _).trans (Fr.alloc _ _ _)) (alloc2' w _ _).1 (alloc2' w _ _).2 (by omega) (by omega)).mono ?_
    rintro e w1 ⟨rfl, f1⟩
    have F1 := Lib.hid f1; clear f1 cc
    go_wp2_with fail
    go_ret
    exact ⟨rfl, F1.out⟩
  · rw [show ascB l below = false by simp [ascB, h4]]
    go_enter Tryz.func116, Tryz.ntmps116
    go_wp2_with fail
    go_ret
    exact ⟨rfl, (Fr.alloc _ _ _).trans (Fr.alloc _ _ _)⟩

set_option maxRecDepth 100000 in
set_option maxHeartbeats 4000000 in
theorem valid1_c (y : ClV) (w : World) (hn : IntsAt w y.vn y.x.needs) (hb : IntsAt w y.vb y.x.bars) (hok : ClOk y.x) : Calls Tryz.prog 112 #[clV y] w fun e w' => e = .returned (.bool (!clB y.x)) ∧ Fr [] w w' := by
  obtain ⟨⟨pub, f, t, needs, bars, gives⟩, vn, vb⟩ := y
  simp only at hn hb
  have HN := Lib.hid hn; have HB := Lib.hid hb; have HK := Lib.hid hok; clear hn hb hok
  have knew : ∀ W : World, Fr [] (w.alloc (.cells #[.int .i64 pub, .int .i64 f, .int .i64 t, vn, vb, .int .i64 gives] 105)) W → W.heap[w.heap.size]? = some (.cells #[.int .i64 pub, .int .i64 f, .int .i64 t, vn, vb, .int .i64 gives] 105 (0, 0)) := fun W hf => hf.keep (heap_alloc_new _ _) (by simp)
  have Knew := Lib.hid knew; clear knew
  unfold clV clB
  simp only
  go_enter Tryz.func112, Tryz.ntmps112
  go_wp2_with fail
  refine (isSecond_c _ _).mono ?_
  rintro e w0 ⟨rfl, rfl⟩
  cases h1 : secB pub
  · go_wp2_with fail
    go_ret
    exact ⟨by simp [h1], Fr.alloc _ _ _⟩
  · go_wp2_with fail
    refine (isSpell_c _ _ _).mono ?_
    rintro e w1 ⟨rfl, f1⟩
    have K1 := Knew.out w1 f1
    have F1 := Lib.hid f1
    have g3 : w1.cell? ⟨w.heap.size, 3, none⟩ = some vn := cell_of_blk K1 3
    have g5 : w1.cell? ⟨w.heap.size, 5, none⟩ = some (.int .i64 gives) := cell_of_blk K1 5
    clear f1 K1
    cases h2 : spellB f t
    · go_wp2_with fail
      go_ret
      exact ⟨by simp [h1, h2], (Fr.alloc _ _ _).trans F1.out⟩
    · go_wp2_with fail
      refine (isIn_c _ _ _ _).mono ?_
      rintro e w1b ⟨rfl, rfl⟩
      cases h3 : isInB gives 0 19
      · go_wp2_with fail
        go_ret
        exact ⟨by simp [h1, h2, h3], (Fr.alloc _ _ _).trans F1.out⟩
      · have hg := isInB_iff.1 h3
        go_wp2_with fail
        refine (ascends_c vn needs gives _ (HN.out.same ((Fr.alloc _ _ _).trans F1.out)) HK.out.needs hg.1 (by omega)).mono ?_
        rintro e w2 ⟨rfl, f2⟩
        have K2 := Knew.out w2 (F1.out.trans f2)
        have F2 := Lib.hid (F1.out.trans f2)
        have k4 : w2.cell? ⟨w.heap.size, 4, none⟩ = some vb := cell_of_blk K2 4
        have k5 : w2.cell? ⟨w.heap.size, 5, none⟩ = some (.int .i64 gives) := cell_of_blk K2 5
        clear f2 K2
        cases h4 : ascB needs gives
        · go_wp2_with fail
          go_ret
          exact ⟨by simp [h1, h2, h3, h4], (Fr.alloc _ _ _).trans F2.out⟩
        · go_wp2_with fail
          refine (ascends_c vb bars gives _ (HB.out.same ((Fr.alloc _ _ _).trans F2.out)) HK.out.bars hg.1 (by omega)).mono ?_
          rintro e w3 ⟨rfl, f3⟩
          have F3 := Lib.hid (F2.out.trans f3); clear f3
          go_wp2_with fail
          go_ret
          exact ⟨by simp [h1, h2, h3, h4], (Fr.alloc _ _ _).trans F3.out⟩

set_option maxRecDepth 100000 in
set_option maxHeartbeats 4000000 in
theorem valid2_c (x : Rp) (B n : Nat) (a : Option Addr) (cap : Nat) (w : World) (hB : w.cell? ⟨B, 0, none⟩ = some (.slice a n cap)) (hbl : B < w.heap.size) (hn : n ≤ 9223372036854775807) : Calls Tryz.prog 118 #[rpV x, .pointer (some ⟨B, 0, none⟩)] w fun e w' => e = .returned (.bool (!rpB n x)) ∧ Fr [] w w' := by
  obtain ⟨cl, pub, frm⟩ := x
  unfold rpV rpB
  simp only
  have hB2 : (w.alloc (.cells #[.int .i64 cl, .int .i64 pub, .int .i64 frm] 108)).cell? ⟨B, 0, none⟩ = some (.slice a n cap) := (World.cell?_of_block (Below.heap_alloc _ _ _ hbl)).trans hB
  have e2 : (0 : Int) - 1 = -1 := rfl
  go_enter Tryz.func118, Tryz.ntmps118
  go_wp2_with fail
  refine (isIn_c _ _ _ _).mono ?_
  rintro e w0 ⟨rfl, rfl⟩
  cases h1 : isInB cl 0 ((n : Int) - 1)
  · go_wp2_with fail
    go_ret
    exact ⟨by simp [h1], Fr.alloc _ _ _⟩
  · go_wp2_with fail
    refine (isSecond_c _ _).mono ?_
    rintro e w0 ⟨rfl, rfl⟩
    cases h2 : secB pub
    · go_wp2_with fail
      go_ret
      exact ⟨by simp [h1, h2], Fr.alloc _ _ _⟩
    · go_wp2_with fail
      refine (isSecond_c _ _).mono ?_
      rintro e w0 ⟨rfl, rfl⟩
      go_wp2_with fail
      go_ret
      exact ⟨by simp [h1, h2], Fr.alloc _ _ _⟩

set_option maxRecDepth 100000 in
set_option maxHeartbeats 4000000 in
theorem valid3_c (x : Fa) (w : World) : Calls Tryz.prog 120 #[faV x] w fun e w' => e = .returned (.bool (!faB x)) ∧ Fr [] w w' := by
  obtain ⟨th, sa, f, t, kf, kt⟩ := x
  unfold faV faB
  simp only
  go_enter Tryz.func120, Tryz.ntmps120
  go_wp2_with fail
  refine (isIn_c _ _ _ _).mono ?_
  rintro e w0 ⟨rfl, rfl⟩
  cases h1 : isInB th 0 99999999
  · go_wp2_with fail
    go_ret
    exact ⟨by simp [h1], Fr.alloc _ _ _⟩
  · go_wp2_with fail
    refine (isIn_c _ _ _ _).mono ?_
    rintro e w0 ⟨rfl, rfl⟩
    cases h2 : isInB sa 0 19
    · go_wp2_with fail
      go_ret
      exact ⟨by simp [h1, h2], Fr.alloc _ _ _⟩
    · go_wp2_with fail
      refine (isSpell_c _ _ _).mono ?_
      rintro e w1 ⟨rfl, f1⟩
      have K1 := f1.keep (heap_alloc_new w (.cells #[.int .i64 th, .int .i64 sa, .int .i64 f, .int .i64 t, .int .i64 kf, .int .i64 kt] 93)) (by simp)
      have g4 : w1.cell? ⟨w.heap.size, 4, none⟩ = some (.int .i64 kf) := cell_of_blk K1 4
      have g5 : w1.cell? ⟨w.heap.size, 5, none⟩ = some (.int .i64 kt) := cell_of_blk K1 5
      have F1 := Lib.hid ((Fr.alloc [] _ _).trans f1)
      clear K1 f1
      cases h3 : spellB f t
      · go_wp2_with fail
        go_ret
        exact ⟨by simp [h1, h2, h3], F1.out⟩
      · go_wp2_with fail
        refine (isSpell_c _ _ _).mono ?_
        rintro e w2 ⟨rfl, f2⟩
        have F2 := Lib.hid (F1.out.trans f2); clear f2
        go_wp2_with fail
        go_ret
        exact ⟨by simp [h1, h2, h3], F2.out⟩

end Go.Proofs.YtahfpadaoobkfaaGreatDoor
