/-
  Filters, calls and decisions in memory.
-/
import Derived.Test.YtkopnooajikpmaaGreatQStW3
import Derived.Test.YtkopnooajikpmaaGreatQPl
import Derived.Test.YtkopnooajikpmaaGreatQStC
namespace Go.Proofs.YtkopnooajikpmaaGreat
open Go.RowKit Go.Lib

def cdC (x : Cd) : List Value := [.int .i64 x.kind, .int .i64 x.lo, .int .i64 x.hi, .bool x.neg]
/-- A rule with the slice of its conditions. -/
structure RuV where
  x : Ru
  v : Value
instance : Inhabited RuV := ⟨⟨default, .slice none 0 0⟩⟩
def ruC (y : RuV) : List Value := [y.v, .int .i64 y.x.act]
abbrev cdV (x : Cd) : Value := .agg #[.int .i64 x.kind, .int .i64 x.lo, .int .i64 x.hi, .bool x.neg]
abbrev ruV (y : RuV) : Value := .agg #[y.v, .int .i64 y.x.act]
abbrev flV (v : Value) (dfl : Int) : Value := .agg #[v, .int .i64 dfl]
abbrev caV (c : Ca) : Value := .agg #[.int .i64 c.caller, .int .i64 c.called, .int .i64 c.at_, .int .i64 c.level, .int .i64 c.fwd, .bool c.back]
structure CdOk (x : Cd) : Prop where
  kind : I64 x.kind
  lo : I64 x.lo
  hi : I64 x.hi
structure CaOk (c : Ca) : Prop where
  caller : I64 c.caller
  called : I64 c.called
  at_ : I64 c.at_
  level : I64 c.level
  fwd : I64 c.fwd
abbrev CdsAt (w : World) (v : Value) (l : List Cd) : Prop := Sl w v l.length (l.flatMap cdC)
/-- A filter in memory. -/
structure FlAt (w : World) (v : Value) (ys : List RuV) (f : Fl) : Prop where
  eq : f.rus = ys.map (·.x)
  sl : Sl w v ys.length (ys.flatMap ruC)
  cds : ∀ y, y ∈ ys → CdsAt w y.v y.x.cds
  ok : ∀ y, y ∈ ys → I64 y.x.act ∧ ∀ x, x ∈ y.x.cds → CdOk x
  dfl : I64 f.dfl
theorem FlAt.same {w w' : World} {v : Value} {ys : List RuV} {f : Fl} (h : FlAt w v ys f) (hf : Fr [] w w') : FlAt w' v ys f := ⟨h.eq, h.sl.same hf, fun y hy => (h.cds y hy).same hf, h.ok, h.dfl⟩
/-- A list of findings with its slice. -/
structure PrV where
  l : List Fd
  v : Value
instance : Inhabited PrV := ⟨⟨[], .slice none 0 0⟩⟩
abbrev FdsAt (w : World) (v : Value) (l : List Fd) : Prop := Sl w v l.length (l.flatMap fdC)
/-- Proofs in memory. -/
structure PrAt (w : World) (v : Value) (zs : List PrV) : Prop where
  sl : Sl w v zs.length (zs.map (·.v))
  fds : ∀ z, z ∈ zs → FdsAt w z.v z.l
theorem PrAt.same {w w' : World} {v : Value} {zs : List PrV} (h : PrAt w v zs) (hf : Fr [] w w') : PrAt w' v zs := ⟨h.sl.same hf, fun z hz => (h.fds z hz).same hf⟩

end Go.Proofs.YtkopnooajikpmaaGreat

/-
  slices.IndexFunc and slices.ContainsFunc at conditions and at rules of a filter.
-/
namespace Go.Proofs.YtkopnooajikpmaaGreat
open Go.RowKit Go.Lib

set_option maxRecDepth 100000 in
set_option maxHeartbeats 1000000 in
theorem ifCd_c (f : Nat) (lb : Array Value) (eg : ∀ args w, (callFunc f args).run Tryz.prog w = .ok (.enter f args) w) (a : Option Addr) (cap : Nat) (zs : List Cd) (p : Nat → Bool) (J : Nat → World → Prop) (w : World)
    (hsl : ∀ k W, J k W → Sl W (.slice a zs.length cap) zs.length (zs.flatMap cdC)) (hst : Steps f lb zs.length (fun k => cdV (zs.getD k default)) p J) (h0 : J 0 w) :
    Calls Tryz.prog 129 #[.slice a zs.length cap, .func (.func f) #[] lb] w fun e w' => e = .returned (.int .i64 (idxN p zs.length)) ∧ ∃ k, J k w' := by
  have hlen := (hsl 0 w h0).len
  have HSL := Lib.hid hsl; have HST := Lib.hid hst; have H0 := Lib.hid h0
  clear hsl hst h0
  go_enter Tryz.func129, Tryz.ntmps129
  go_wp2_with fail
  go_loopw [8] (fun i wr => ∃ k : Nat, k ≤ zs.length ∧ i = .int .i64 k ∧ Hid (J k wr) ∧ Hid (∀ j, j < k → p j = false)) (fun i _ => zs.length - (intOf i).toNat)
  case atStart => exact ⟨0, Nat.zero_le _, rfl, H0, Lib.hid fun j h => by omega⟩
  case round =>
    obtain ⟨k, hk, rfl, HJ, HP⟩ := hrel
    by_cases hlt : k < zs.length
    · obtain ⟨b, off, ha, hc⟩ := (HSL.out k wr HJ.out).at_ (by omega)
      subst ha
      have c0 := hc (k * 4 + 0) _ ((flat_get (enc := cdC) (k := 4) (fun _ => rfl) zs k hlt 0 (by omega)).trans rfl)
      have c1 := hc (k * 4 + 1) _ ((flat_get (enc := cdC) (k := 4) (fun _ => rfl) zs k hlt 1 (by omega)).trans rfl)
      have c2 := hc (k * 4 + 2) _ ((flat_get (enc := cdC) (k := 4) (fun _ => rfl) zs k hlt 2 (by omega)).trans rfl)
      have c3 := hc (k * 4 + 3) _ ((flat_get (enc := cdC) (k := 4) (fun _ => rfl) zs k hlt 3 (by omega)).trans rfl)
      have hs := HST.out k wr hlt HP.out HJ.out
      simp only at hs
      rw [show zs.getD k default = zs[k] by simp [hlt]] at hs
      generalize zs[k] = x at *
      obtain ⟨x0, x1, x2, x3⟩ := x
      simp only [Nat.add_zero] at hs c0 c1 c2 c3
      simp only [← Nat.add_assoc] at c0 c1 c2 c3
      clear hc
      cases hb : p k with
      | true =>
        rw [hb] at hs
        have HS := Lib.hid hs; have Hb := Lib.hid hb; clear hs hb
        go_wp2_with fail
        refine HS.out.mono ?_
        rintro e w1 ⟨rfl, j1⟩
        have J1 := Lib.hid j1; clear j1
        go_wp2_with fail
        go_ret
        exact ⟨by rw [idxN_some hlt Hb.out HP.out]; rfl, k + 1, J1.out⟩
      | false =>
        rw [hb] at hs
        have HS := Lib.hid hs; have Hb := Lib.hid hb; clear hs hb
        go_wp2_with fail
        refine HS.out.mono ?_
        rintro e w1 ⟨rfl, j1⟩
        have J1 := Lib.hid j1; clear j1
        go_wp2_with fail
        go_roundw
        case rel => exact ⟨k + 1, by omega, by go_num, J1, Lib.hid fun j h => by
          rcases Nat.lt_or_ge j k with h1 | h1
          · exact HP.out j h1
          · obtain rfl : j = k := by omega
            exact Hb.out⟩
        case measure => simp [intOf]; omega
    · obtain rfl : k = zs.length := by omega
      go_wp2_with fail
      go_ret
      exact ⟨by rw [idxN_none HP.out]; rfl, _, HJ.out⟩

theorem cfCd_c (f : Nat) (lb : Array Value) (eg : ∀ args w, (callFunc f args).run Tryz.prog w = .ok (.enter f args) w) (a : Option Addr) (cap : Nat) (zs : List Cd) (p : Nat → Bool) (J : Nat → World → Prop) (w : World)
    (hsl : ∀ k W, J k W → Sl W (.slice a zs.length cap) zs.length (zs.flatMap cdC)) (hst : Steps f lb zs.length (fun k => cdV (zs.getD k default)) p J) (h0 : J 0 w) :
    Calls Tryz.prog 104 #[.slice a zs.length cap, .func (.func f) #[] lb] w fun e w' => e = .returned (.bool (anyN p zs.length)) ∧ ∃ k, J k w' := by
  have c := Lib.hid (ifCd_c f lb eg a cap zs p J w hsl hst h0)
  clear hsl hst h0 eg
  rw [← idxN_ge]
  generalize idxN p zs.length = r at *
  go_enter Tryz.func104, Tryz.ntmps104
  go_wp2_with (go_at_call 129; refine c.out.mono ?_; rintro e w1 ⟨rfl, h1⟩; have H1 := Lib.hid h1; clear h1)
  go_ret
  exact ⟨rfl, H1.out⟩

set_option maxRecDepth 100000 in
set_option maxHeartbeats 1000000 in
theorem ifRu_c (f : Nat) (lb : Array Value) (eg : ∀ args w, (callFunc f args).run Tryz.prog w = .ok (.enter f args) w) (a : Option Addr) (cap : Nat) (zs : List RuV) (p : Nat → Bool) (J : Nat → World → Prop) (w : World)
    (hsl : ∀ k W, J k W → Sl W (.slice a zs.length cap) zs.length (zs.flatMap ruC)) (hst : Steps f lb zs.length (fun k => ruV (zs.getD k default)) p J) (h0 : J 0 w) :
    Calls Tryz.prog 128 #[.slice a zs.length cap, .func (.func f) #[] lb] w fun e w' => e = .returned (.int .i64 (idxN p zs.length)) ∧ ∃ k, J k w' := by
  have hlen := (hsl 0 w h0).len
  have HSL := Lib.hid hsl; have HST := Lib.hid hst; have H0 := Lib.hid h0
  clear hsl hst h0
  go_enter Tryz.func128, Tryz.ntmps128
  go_wp2_with fail
  go_loopw [8] (fun i wr => ∃ k : Nat, k ≤ zs.length ∧ i = .int .i64 k ∧ Hid (J k wr) ∧ Hid (∀ j, j < k → p j = false)) (fun i _ => zs.length - (intOf i).toNat)
  case atStart => exact ⟨0, Nat.zero_le _, rfl, H0, Lib.hid fun j h => by omega⟩
  case round =>
    obtain ⟨k, hk, rfl, HJ, HP⟩ := hrel
    by_cases hlt : k < zs.length
    · obtain ⟨b, off, ha, hc⟩ := (HSL.out k wr HJ.out).at_ (by omega)
      subst ha
      have c0 := hc (k * 2 + 0) _ ((flat_get (enc := ruC) (k := 2) (fun _ => rfl) zs k hlt 0 (by omega)).trans rfl)
      have c1 := hc (k * 2 + 1) _ ((flat_get (enc := ruC) (k := 2) (fun _ => rfl) zs k hlt 1 (by omega)).trans rfl)
      have hs := HST.out k wr hlt HP.out HJ.out
      simp only at hs
      rw [show zs.getD k default = zs[k] by simp [hlt]] at hs
      generalize zs[k] = x at *
      obtain ⟨⟨xc, x1⟩, x0⟩ := x
      simp only [Nat.add_zero] at hs c0 c1
      simp only [← Nat.add_assoc] at c0 c1
      clear hc
      cases hb : p k with
      | true =>
        rw [hb] at hs
        have HS := Lib.hid hs; have Hb := Lib.hid hb; clear hs hb
        go_wp2_with fail
        refine HS.out.mono ?_
        rintro e w1 ⟨rfl, j1⟩
        have J1 := Lib.hid j1; clear j1
        go_wp2_with fail
        go_ret
        exact ⟨by rw [idxN_some hlt Hb.out HP.out]; rfl, k + 1, J1.out⟩
      | false =>
        rw [hb] at hs
        have HS := Lib.hid hs; have Hb := Lib.hid hb; clear hs hb
        go_wp2_with fail
        refine HS.out.mono ?_
        rintro e w1 ⟨rfl, j1⟩
        have J1 := Lib.hid j1; clear j1
        go_wp2_with fail
        go_roundw
        case rel => exact ⟨k + 1, by omega, by go_num, J1, Lib.hid fun j h => by
          rcases Nat.lt_or_ge j k with h1 | h1
          · exact HP.out j h1
          · obtain rfl : j = k := by omega
            exact Hb.out⟩
        case measure => simp [intOf]; omega
    · obtain rfl : k = zs.length := by omega
      go_wp2_with fail
      go_ret
      exact ⟨by rw [idxN_none HP.out]; rfl, _, HJ.out⟩

theorem cfRu_c (f : Nat) (lb : Array Value) (eg : ∀ args w, (callFunc f args).run Tryz.prog w = .ok (.enter f args) w) (a : Option Addr) (cap : Nat) (zs : List RuV) (p : Nat → Bool) (J : Nat → World → Prop) (w : World)
    (hsl : ∀ k W, J k W → Sl W (.slice a zs.length cap) zs.length (zs.flatMap ruC)) (hst : Steps f lb zs.length (fun k => ruV (zs.getD k default)) p J) (h0 : J 0 w) :
    Calls Tryz.prog 102 #[.slice a zs.length cap, .func (.func f) #[] lb] w fun e w' => e = .returned (.bool (anyN p zs.length)) ∧ ∃ k, J k w' := by
  have c := Lib.hid (ifRu_c f lb eg a cap zs p J w hsl hst h0)
  clear hsl hst h0 eg
  rw [← idxN_ge]
  generalize idxN p zs.length = r at *
  go_enter Tryz.func102, Tryz.ntmps102
  go_wp2_with (go_at_call 128; refine c.out.mono ?_; rintro e w1 ⟨rfl, h1⟩; have H1 := Lib.hid h1; clear h1)
  go_ret
  exact ⟨rfl, H1.out⟩

end Go.Proofs.YtkopnooajikpmaaGreat
