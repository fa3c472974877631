/-
  The plain model of chapter 26: filters, calls, decisions.
-/
import Derived.Test.YtahfpadaoobkfaaGreatDoorQS02
import Derived.Test.YtahfpadaoobkfaaGreatDoorQS13
import Derived.Test.YtahfpadaoobkfaaGreatDoorQS14
import Derived.Test.YtahfpadaoobkfaaGreatDoorQS12
namespace Go.Proofs.YtahfpadaoobkfaaGreatDoor

structure Cd where
  kind : Int
  lo : Int
  hi : Int
  neg : Bool
structure Ru where
  cds : List Cd
  act : Int
structure Fl where
  rus : List Ru
  dfl : Int
structure Ca where
  caller : Int
  called : Int
  at_ : Int
  level : Int
  fwd : Int
  back : Bool
structure Dn where
  act : Int
  rule : Int
  fails : List Int
  prfs : List (List Fd)

instance : Inhabited Cd := ⟨⟨0, 0, 0, false⟩⟩
instance : Inhabited Ru := ⟨⟨[], 0⟩⟩

/-- Is a condition of a kind from 1 to 5 valid? -/
def cdK (x : Cd) : Bool :=
  if x.kind = 1 then isInB x.lo 0 x.hi && decide (x.hi ≤ 3)
  else if x.kind = 2 then decide (0 ≤ x.lo) && decide (x.lo < x.hi) && decide (x.hi ≤ 100000000)
  else if x.kind = 3 then decide (x.lo ≠ x.hi) && isInB x.lo 0 86399 && isInB x.hi 0 86399
  else if x.kind = 4 then isInB x.lo 0 x.hi && decide (x.hi ≤ 5)
  else isInB x.lo 0 19 && decide (x.hi = 0)
def cdB (x : Cd) : Bool := isInB x.kind 1 5 && cdK x
def actB (n : Int) : Bool := isInB n 1 4
def ruB (r : Ru) : Bool := decide (r.cds.length ≤ 4) && actB r.act && r.cds.all cdB
def flB (f : Fl) : Bool := decide (f.rus.length ≤ 20) && actB f.dfl && f.rus.all ruB
def caB (c : Ca) : Bool := isInB c.caller 0 99999999 && isInB c.called 0 99999999 && isInB c.at_ 0 10000000 && isInB c.level 0 3 && isInB c.fwd 0 5
def goodF (f : Fl) (b : Rb) (c : Ca) : Bool := flB f && validB b && caB c

def qnOf (c : Ca) (x : Cd) : Qn := ⟨c.caller, x.lo, c.at_, c.at_⟩
def plainK (c : Ca) (x : Cd) : Bool :=
  if x.kind = 1 then isInB c.level x.lo x.hi
  else if x.kind = 2 then isInB c.caller x.lo (x.hi - 1)
  else if x.kind = 4 then isInB c.fwd x.lo x.hi
  else if x.kind = 3 then (if x.hi < x.lo then !isInB (c.at_ % 86400) x.hi (x.lo - 1) else isInB (c.at_ % 86400) x.lo (x.hi - 1))
  else false
def plainB (c : Ca) (x : Cd) : Bool := plainK c x != x.neg
def holdsF (b : Rb) (c : Ca) (x : Cd) : Bool := if x.kind = 5 then decideA b (qnOf c x) != x.neg else plainB c x
def prfsF (b : Rb) (c : Ca) (x : Cd) : List (List Fd) := if x.kind = 5 then [decideL b (qnOf c x)] else []

/-- The first condition that does not hold, if any, from the k-th on. -/
def failK (b : Rb) (c : Ca) : Nat → List Cd → Option (Nat × Cd)
  | _, [] => none
  | k, x :: l => if holdsF b c x then failK b c (k + 1) l else some (k, x)
def matchI (b : Rb) (c : Ca) (l : List Cd) : Int := match failK b c 0 l with
  | none => -1
  | some p => p.1
def matchP (b : Rb) (c : Ca) (l : List Cd) : List (List Fd) := match failK b c 0 l with
  | none => l.flatMap (prfsF b c)
  | some p => prfsF b c p.2

/-- What Decide's loop finds, from the i-th rule on. -/
def decGo (b : Rb) (c : Ca) (dfl : Int) : Nat → List Int → List (List Fd) → List Ru → Dn
  | _, F, P, [] => ⟨dfl, -1, F, P⟩
  | i, F, P, r :: l => match failK b c 0 r.cds with
    | none => ⟨r.act, i, F, P ++ r.cds.flatMap (prfsF b c)⟩
    | some p => decGo b c dfl (i + 1) (F ++ [(p.1 : Int)]) (P ++ prfsF b c p.2) l
def decF (f : Fl) (b : Rb) (c : Ca) : Dn := if c.back then ⟨1, -2, [], []⟩ else decGo b c f.dfl 0 [] [] f.rus

/-- A claim, taken from the proofs that are left. -/
def takeF (b : Rb) (c : Ca) (x : Cd) (want : Bool) (P : List (List Fd)) : Option (List (List Fd)) :=
  if x.kind = 5 then match P with
    | [] => none
    | l :: r => if checkB b (qnOf c x) (want != x.neg) l then some r else none
  else if plainB c x == want then some P else none
def takeAll (b : Rb) (c : Ca) : List Cd → List (List Fd) → Option (List (List Fd))
  | [], P => some P
  | x :: l, P => match takeF b c x true P with
    | none => none
    | some R => takeAll b c l R
/-- The claims that rules do not hold. -/
def takeFails (b : Rb) (c : Ca) : List Ru → List Int → List (List Fd) → Option (List (List Fd))
  | r :: rs, k :: ks, P => if isInB k 0 (r.cds.length - 1) then match takeF b c (r.cds.getD k.toNat default) false P with
      | none => none
      | some R => takeFails b c rs ks R
    else none
  | _, _, P => some P
def checkF (f : Fl) (b : Rb) (c : Ca) (x : Dn) : Bool :=
  if c.back then decide (x.rule = -2) && decide (x.act = 1) && decide (x.fails.length + x.prfs.length = 0)
  else if x.rule = -1 then decide (x.fails.length = f.rus.length) && decide (x.act = f.dfl) && decide (takeFails b c f.rus x.fails x.prfs = some [])
  else isInB x.rule 0 (f.rus.length - 1) && decide ((x.fails.length : Int) = x.rule) && decide (x.act = (f.rus.getD x.rule.toNat default).act) &&
    (match takeFails b c f.rus x.fails x.prfs with
      | none => false
      | some R => decide (takeAll b c (f.rus.getD x.rule.toNat default).cds R = some []))

end Go.Proofs.YtahfpadaoobkfaaGreatDoor

/-
  The plain law of chapter 26: what Decide returns is right, and no right decision has another action or another rule.
-/
namespace Go.Proofs.YtahfpadaoobkfaaGreatDoor

/-- Does a rule match? -/
def mB (b : Rb) (c : Ca) (r : Ru) : Bool := r.cds.all (holdsF b c)

section
variable {b : Rb} {c : Ca}

theorem fail_none {k : Nat} {l : List Cd} : failK b c k l = none ↔ l.all (holdsF b c) = true := by
  induction l generalizing k with
  | nil => simp [failK]
  | cons x l ih =>
    rw [failK, List.all_cons]
    cases h : holdsF b c x with
    | true => simp only [if_true, Bool.true_and]; exact ih
    | false => simp

/-- The questions that conditions ask are valid. -/
def AskOk (b : Rb) (c : Ca) (l : List Cd) : Prop := ∀ x, x ∈ l → x.kind = 5 → okB b (qnOf c x) = true

/-- The rule that counts, and the action. -/
def ruleOf (b : Rb) (c : Ca) (f : Fl) : Int := match f.rus.findIdx? (mB b c) with
  | none => -1
  | some j => j
def actOf (b : Rb) (c : Ca) (f : Fl) : Int := match f.rus.findIdx? (mB b c) with
  | none => f.dfl
  | some j => (f.rus.getD j default).act

end

end Go.Proofs.YtahfpadaoobkfaaGreatDoor

/-
  Filters, calls and decisions in memory.
-/
namespace Go.Proofs.YtahfpadaoobkfaaGreatDoor
open Go.RowKit Go.Lib

def cdC (x : Cd) : List Value := [.int .i64 x.kind, .int .i64 x.lo, .int .i64 x.hi, .bool x.neg]
/-- A rule with the slice of its conditions. -/
structure RuV where
  x : Ru
  v : Value
instance : Inhabited RuV := ⟨⟨default, .slice none 0 0⟩⟩
def ruC (y : RuV) : List Value := [y.v, .int .i64 y.x.act]
abbrev cdV (x : Cd) : Value := .agg #[.int .i64 x.kind, .int .i64 x.lo, .int .i64 x.hi, .bool x.neg]
abbrev ruV (y : RuV) : Value := .agg #[y.v, .int .i64 y.x.act]
abbrev flV (v : Value) (dfl : Int) : Value := .agg #[v, .int .i64 dfl]
abbrev caV (c : Ca) : Value := .agg #[.int .i64 c.caller, .int .i64 c.called, .int .i64 c.at_, .int .i64 c.level, .int .i64 c.fwd, .bool c.back]
structure CdOk (x : Cd) : Prop where
  kind : I64 x.kind
  lo : I64 x.lo
  hi : I64 x.hi
structure CaOk (c : Ca) : Prop where
  caller : I64 c.caller
  called : I64 c.called
  at_ : I64 c.at_
  level : I64 c.level
  fwd : I64 c.fwd
abbrev CdsAt (w : World) (v : Value) (l : List Cd) : Prop := Sl w v l.length (l.flatMap cdC)
/-- A filter in memory. -/
structure FlAt (w : World) (v : Value) (ys : List RuV) (f : Fl) : Prop where
  eq : f.rus = ys.map (·.x)
  sl : Sl w v ys.length (ys.flatMap ruC)
  cds : ∀ y, y ∈ ys → CdsAt w y.v y.x.cds
  ok : ∀ y, y ∈ ys → I64 y.x.act ∧ ∀ x, x ∈ y.x.cds → CdOk x
  dfl : I64 f.dfl
theorem FlAt.same {w w' : World} {v : Value} {ys : List RuV} {f : Fl} (h : FlAt w v ys f) (hf : Fr [] w w') : FlAt w' v ys f := ⟨h.eq, h.sl.same hf, fun y hy => (h.cds y hy).same hf, h.ok, h.dfl⟩
/-- A list of findings with its slice. -/
structure PrV where
  l : List Fd
  v : Value
instance : Inhabited PrV := ⟨⟨[], .slice none 0 0⟩⟩
abbrev FdsAt (w : World) (v : Value) (l : List Fd) : Prop := Sl w v l.length (l.flatMap fdC)
/-- Proofs in memory. -/
structure PrAt (w : World) (v : Value) (zs : List PrV) : Prop where
  sl : Sl w v zs.length (zs.map (·.v))
  fds : ∀ z, z ∈ zs → FdsAt w z.v z.l
theorem PrAt.same {w w' : World} {v : Value} {zs : List PrV} (h : PrAt w v zs) (hf : Fr [] w w') : PrAt w' v zs := ⟨h.sl.same hf, fun z hz => (h.fds z hz).same hf⟩

end Go.Proofs.YtahfpadaoobkfaaGreatDoor

/-
  filter: isIn, isNumber, isAction, the kinds of conditions, isCall.
-/
namespace Go.Proofs.YtahfpadaoobkfaaGreatDoor
open Go.RowKit Go.Lib

theorem fIsIn_c (n lo hi : Int) (w : World) : Calls Tryz.prog 51 #[.int .i64 n, .int .i64 lo, .int .i64 hi] w fun e w' => e = .returned (.bool (isInB n lo hi)) ∧ w = w' := by
  unfold isInB
  by_cases h : lo ≤ n
  · go_enter Tryz.func51, Tryz.ntmps51
    go_wp2
    go_ret
    exact ⟨by simp [h], rfl⟩
  · go_enter Tryz.func51, Tryz.ntmps51
    go_wp2
    go_ret
    exact ⟨by have h2 : ¬ lo ≤ n := by omega
              simp [h2], rfl⟩

theorem fIsNumber_c (n : Int) (w : World) : Calls Tryz.prog 50 #[.int .i64 n] w fun e w' => e = .returned (.bool (isInB n 0 99999999)) ∧ w = w' := by
  go_enter Tryz.func50, Tryz.ntmps50
  go_wp2_with (first | (go_at_call 51; refine (fIsIn_c _ _ _ _).mono ?_; rintro e w' ⟨rfl, rfl⟩))
  go_ret
  exact ⟨rfl, rfl⟩

theorem fIsAction_c (n : Int) (w : World) : Calls Tryz.prog 66 #[.int .i64 n] w fun e w' => e = .returned (.bool (actB n)) ∧ w = w' := by
  go_enter Tryz.func66, Tryz.ntmps66
  go_wp2_with (first | (go_at_call 51; refine (fIsIn_c _ _ _ _).mono ?_; rintro e w' ⟨rfl, rfl⟩))
  go_ret
  exact ⟨rfl, rfl⟩

set_option maxRecDepth 100000 in
theorem fLevel_c (x : Cd) (w : World) : Calls Tryz.prog 97 #[cdV x] w fun e w' => e = .returned (.bool (isInB x.lo 0 x.hi && decide (x.hi ≤ 3))) ∧ Fr [] w w' := by
  obtain ⟨k, lo, hi, ng⟩ := x
  unfold cdV
  simp only
  cases h1 : isInB lo 0 hi
  all_goals
    go_enter Tryz.func97, Tryz.ntmps97
    go_wp2_with (first | (go_at_call 51; refine (fIsIn_c _ _ _ _).mono ?_; rintro e w' ⟨rfl, rfl⟩))
    go_ret
    exact ⟨rfl, Fr.alloc _ _ _⟩

set_option maxRecDepth 100000 in
theorem fForwards_c (x : Cd) (w : World) : Calls Tryz.prog 100 #[cdV x] w fun e w' => e = .returned (.bool (isInB x.lo 0 x.hi && decide (x.hi ≤ 5))) ∧ Fr [] w w' := by
  obtain ⟨k, lo, hi, ng⟩ := x
  unfold cdV
  simp only
  cases h1 : isInB lo 0 hi
  all_goals
    go_enter Tryz.func100, Tryz.ntmps100
    go_wp2_with (first | (go_at_call 51; refine (fIsIn_c _ _ _ _).mono ?_; rintro e w' ⟨rfl, rfl⟩))
    go_ret
    exact ⟨rfl, Fr.alloc _ _ _⟩

set_option maxRecDepth 100000 in
theorem fSays_c (x : Cd) (w : World) : Calls Tryz.prog 101 #[cdV x] w fun e w' => e = .returned (.bool (isInB x.lo 0 19 && decide (x.hi = 0))) ∧ Fr [] w w' := by
  obtain ⟨k, lo, hi, ng⟩ := x
  unfold cdV
  simp only
  cases h1 : isInB lo 0 19
  all_goals
    go_enter Tryz.func101, Tryz.ntmps101
    go_wp2_with (first | (go_at_call 51; refine (fIsIn_c _ _ _ _).mono ?_; rintro e w' ⟨rfl, rfl⟩))
    go_ret
    exact ⟨rfl, Fr.alloc _ _ _⟩

set_option maxRecDepth 100000 in
theorem fRange_c (x : Cd) (w : World) : Calls Tryz.prog 98 #[cdV x] w fun e w' => e = .returned (.bool (decide (0 ≤ x.lo) && decide (x.lo < x.hi) && decide (x.hi ≤ 100000000))) ∧ Fr [] w w' := by
  obtain ⟨k, lo, hi, ng⟩ := x
  unfold cdV
  simp only
  by_cases h1 : 0 ≤ lo
  · by_cases h2 : lo < hi
    · go_enter Tryz.func98, Tryz.ntmps98
      go_wp2_with fail
      go_ret
      exact ⟨by simp [h1, h2], Fr.alloc _ _ _⟩
    · have h2' : decide (lo < hi) = false := by simpa using h2
      clear h2
      go_enter Tryz.func98, Tryz.ntmps98
      go_wp2_with fail
      go_ret
      exact ⟨by simp [h2'], Fr.alloc _ _ _⟩
  · have h1' : decide (0 ≤ lo) = false := by simpa using h1
    clear h1
    go_enter Tryz.func98, Tryz.ntmps98
    go_wp2_with fail
    go_ret
    exact ⟨by simp [h1'], Fr.alloc _ _ _⟩

set_option maxRecDepth 100000 in
theorem fHours_c (x : Cd) (w : World) : Calls Tryz.prog 99 #[cdV x] w fun e w' => e = .returned (.bool (decide (x.lo ≠ x.hi) && isInB x.lo 0 86399 && isInB x.hi 0 86399)) ∧ Fr [] w w' := by
  obtain ⟨k, lo, hi, ng⟩ := x
  unfold cdV
  simp only
  by_cases h0 : lo = hi
  · subst h0
    go_enter Tryz.func99, Tryz.ntmps99
    go_wp2_with fail
    go_ret
    exact ⟨by simp, Fr.alloc _ _ _⟩
  · have h0' : (lo != hi) = true := by simpa using h0
    have e0 : decide (lo ≠ hi) = true := by simpa using h0
    rw [e0]
    clear h0 e0
    cases h1 : isInB lo 0 86399
    all_goals
      go_enter Tryz.func99, Tryz.ntmps99
      go_wp2_with (first | (go_at_call 51; refine (fIsIn_c _ _ _ _).mono ?_; rintro e w' ⟨rfl, rfl⟩))
      go_ret
      exact ⟨by simp, Fr.alloc _ _ _⟩

set_option maxRecDepth 100000 in
set_option maxHeartbeats 1000000 in
theorem fIsCall_c (c : Ca) (w : World) : Calls Tryz.prog 90 #[caV c] w fun e w' => e = .returned (.bool (caB c)) ∧ Fr [] w w' := by
  obtain ⟨ca, cd, at_, lv, fw, bk⟩ := c
  unfold caV caB
  simp only
  cases h1 : isInB ca 0 99999999 <;> cases h2 : isInB cd 0 99999999 <;> cases h3 : isInB at_ 0 10000000 <;> cases h4 : isInB lv 0 3
  all_goals
    go_enter Tryz.func90, Tryz.ntmps90
    go_wp2_with (first | (go_at_call 51; refine (fIsIn_c _ _ _ _).mono ?_; rintro e w' ⟨rfl, rfl⟩) | (go_at_call 50; refine (fIsNumber_c _ _).mono ?_; rintro e w' ⟨rfl, rfl⟩))
    go_ret
    exact ⟨rfl, Fr.alloc _ _ _⟩

end Go.Proofs.YtahfpadaoobkfaaGreatDoor

/-
  filter: the map of the kinds, and the conditions of a filter that are valid.
-/
namespace Go.Proofs.YtahfpadaoobkfaaGreatDoor
open Go.RowKit Go.Lib Go.Maps

/-- The function of a kind. -/
def kindFn (k : Int) : Value := if k = 1 then .func (.func 97) #[] #[] else if k = 2 then .func (.func 98) #[] #[] else if k = 3 then .func (.func 99) #[] #[] else if k = 4 then .func (.func 100) #[] #[] else if k = 5 then .func (.func 101) #[] #[] else .nilFunc
def fnD (n : Int) : DataW Unit := .lit (.int .i64 n)
def fnR (v : Value) : Option (DataW Unit × List MemPlace) := match v with
  | .func (.func n) ⟨[]⟩ ⟨[]⟩ => some (fnD n, [])
  | .nilFunc => some (fnD (-1), [])
  | _ => none
theorem fnR_inv {v : Value} {n : Nat} {ps : List MemPlace} (h : fnR v = some (fnD n, ps)) : v = .func (.func n) #[] #[] := by
  unfold fnR at h
  split at h
  · simp only [Option.some.injEq, Prod.mk.injEq] at h
    have h1 := h.1
    unfold fnD at h1
    injection h1 with h2
    injection h2 with _ h3
    rw [Int.natCast_inj.1 h3]
  · simp only [Option.some.injEq, Prod.mk.injEq] at h
    have h1 := h.1
    unfold fnD at h1
    injection h1 with h2
    injection h2 with _ h3
    omega
  · cases h
theorem fnR_nil {v : Value} {ps : List MemPlace} (h : fnR v = some (fnD (-1), ps)) : v = .nilFunc := by
  unfold fnR at h
  split at h
  · simp only [Option.some.injEq, Prod.mk.injEq] at h
    have h1 := h.1
    unfold fnD at h1
    injection h1 with h2
    injection h2 with _ h3
    omega
  · rfl
  · cases h
theorem zeroFn (w : World) : (zeroValue 155).run Tryz.prog w = .ok .nilFunc w := by kernel_rfl

theorem eqFn (n : Nat) (w : World) : (binOp .eql 155 (.func (.func n) #[] #[]) .nilFunc).run Tryz.prog w = .ok (.bool false) w := by kernel_rfl
theorem eqNilFn (w : World) : (binOp .eql 155 .nilFunc .nilFunc).run Tryz.prog w = .ok (.bool true) w := by kernel_rfl

def kindD : DataW Unit := (((((DataW.map []).put (kL 1) (fnD 97)).put (kL 2) (fnD 98)).put (kL 3) (fnD 99)).put (kL 4) (fnD 100)).put (kL 5) (fnD 101)
/-- The map of the kinds in memory. -/
def KindsAt (w : World) (bm : Nat) : Prop := w.ownsMap Tryz.prog 3 fnR bm 5 kindD
theorem KindsAt.fr {w w' : World} {bm : Nat} (h : KindsAt w bm) (hf : Fr [] w w') : KindsAt w' bm := by
  obtain ⟨es, ck, hb, F, hs, hD⟩ := h
  exact ⟨es, ck, hf.keep hb (by simp), F, hs, hD⟩
theorem KindsAt.look {w : World} {bm : Nat} (h : KindsAt w bm) (k : Int) (hk : I64 k) : (Instr.lookup 153 (.map (some bm)) (.int .i64 k) false).run Tryz.prog w = .ok (kindFn k) w := by
  obtain ⟨v, ps, hrun, hv⟩ := World.ownsMap.lookup h keyedI Tryz.underlying153 (zeroFn w) (zd := fnD (-1)) rfl (keyI (k := k) hk)
  have m0 : IsMap (DataW.map [] : DataW Unit) := ⟨_, rfl⟩
  have m1 := m0.put (kL 1) (fnD 97)
  have m2 := m1.put (kL 2) (fnD 98)
  have m3 := m2.put (kL 3) (fnD 99)
  have m4 := m3.put (kL 4) (fnD 100)
  have hkv : v = kindFn k := by
    unfold kindD at hv
    unfold kindFn
    by_cases h5 : k = 5
    · subst h5
      rw [atKey_put_same m4 (kL_key _)] at hv
      exact fnR_inv hv
    · rw [atKey_put_other (kL_ne h5)] at hv
      by_cases h4 : k = 4
      · subst h4
        rw [atKey_put_same m3 (kL_key _)] at hv
        exact fnR_inv hv
      · rw [atKey_put_other (kL_ne h4)] at hv
        by_cases h3 : k = 3
        · subst h3
          rw [atKey_put_same m2 (kL_key _)] at hv
          exact fnR_inv hv
        · rw [atKey_put_other (kL_ne h3)] at hv
          by_cases h2 : k = 2
          · subst h2
            rw [atKey_put_same m1 (kL_key _)] at hv
            exact fnR_inv hv
          · rw [atKey_put_other (kL_ne h2)] at hv
            by_cases h1 : k = 1
            · subst h1
              rw [atKey_put_same m0 (kL_key _)] at hv
              exact fnR_inv hv
            · rw [atKey_put_other (kL_ne h1)] at hv
              simp only [h1, h2, h3, h4, h5, if_false]
              exact fnR_nil hv
  rw [← hkv]
  exact hrun

set_option maxRecDepth 100000 in
theorem valids_c (w : World) : Calls Tryz.prog 64 #[] w fun e w' => ∃ bm, e = .returned (.map (some bm)) ∧ KindsAt w' bm ∧ Fr [] w w' ∧ w.heap.size ≤ bm := by
  have o0 := World.ownsMap_made w Tryz.prog 3 fnR
  obtain ⟨w1, r1, o1, g1⟩ := o0.update keyedI Tryz.underlying153 (by simp [maxLen]) (keyI (k := 1) (by constructor <;> omega)) (val := .func (.func 97) #[] #[]) rfl
  obtain ⟨w2, r2, o2, g2⟩ := o1.update keyedI Tryz.underlying153 (by simp [maxLen]) (keyI (k := 2) (by constructor <;> omega)) (val := .func (.func 98) #[] #[]) rfl
  obtain ⟨w3, r3, o3, g3⟩ := o2.update keyedI Tryz.underlying153 (by simp [maxLen]) (keyI (k := 3) (by constructor <;> omega)) (val := .func (.func 99) #[] #[]) rfl
  obtain ⟨w4, r4, o4, g4⟩ := o3.update keyedI Tryz.underlying153 (by simp [maxLen]) (keyI (k := 4) (by constructor <;> omega)) (val := .func (.func 100) #[] #[]) rfl
  obtain ⟨w5, r5, o5, g5⟩ := o4.update keyedI Tryz.underlying153 (by simp [maxLen]) (keyI (k := 5) (by constructor <;> omega)) (val := .func (.func 101) #[] #[]) rfl
  have hg : ∀ {a b : World}, a.grownBy b (some w.heap.size) → Fr [w.heap.size] a b := fun h => Fr.grown h fun q hq => by cases hq; simp
  have HF : Hid (Fr [] w w5) := Lib.hid ((Fr.alloc [] w (.map #[] 0)).step (((((hg g1).trans (hg g2)).trans (hg g3)).trans (hg g4)).trans (hg g5)) (fun i hi => by simp at hi; exact .inr (by omega)))
  have HO := Lib.hid o5
  clear o0 o1 o2 o3 o4 o5 g1 g2 g3 g4 g5 hg
  have hmm := @run_makeMap Tryz.prog
  go_enter Tryz.func64, Tryz.ntmps64
  go_wp2_with fail
  go_ret
  exact ⟨_, rfl, HO.out, HF.out, Nat.le_refl _⟩

set_option maxRecDepth 100000 in
set_option maxHeartbeats 1000000 in
theorem fValid1_c (x : Cd) (B bm : Nat) (w : World) (hB : w.heap[B]? = some (.cells #[.map (some bm)] 153 (0, 0))) (hK : KindsAt w bm) (hx : I64 x.kind) : Calls Tryz.prog 65 #[cdV x, .pointer (some ⟨B, 0, none⟩)] w fun e w' => e = .returned (.bool (!cdB x)) ∧ Fr [] w w' := by
  have hB2 := cell_of_blk (heap_alloc_old (.cells #[.int .i64 x.kind, .int .i64 x.lo, .int .i64 x.hi, .bool x.neg] 62) hB) 0
  have hrun := (hK.fr (Fr.alloc [] w (.cells #[.int .i64 x.kind, .int .i64 x.lo, .int .i64 x.hi, .bool x.neg] 62))).look x.kind hx
  have FA := Lib.hid (Fr.alloc [] w (.cells #[.int .i64 x.kind, .int .i64 x.lo, .int .i64 x.hi, .bool x.neg] 62))
  have eg1 := fun args w => (rfl : (callFunc 97 args).run Tryz.prog w = .ok (.enter 97 args) w)
  have eg2 := fun args w => (rfl : (callFunc 98 args).run Tryz.prog w = .ok (.enter 98 args) w)
  have eg3 := fun args w => (rfl : (callFunc 99 args).run Tryz.prog w = .ok (.enter 99 args) w)
  have eg4 := fun args w => (rfl : (callFunc 100 args).run Tryz.prog w = .ok (.enter 100 args) w)
  have eg5 := fun args w => (rfl : (callFunc 101 args).run Tryz.prog w = .ok (.enter 101 args) w)
  obtain ⟨k, lo, hi, ng⟩ := x
  simp only at hB2 hrun FA hx
  clear hB hK hx
  unfold cdV
  simp only
  by_cases h1 : k = 1
  · subst h1
    rw [show kindFn 1 = .func (.func 97) #[] #[] by rfl] at hrun
    have hq := eqFn 97 (w.alloc (.cells #[.int .i64 1, .int .i64 lo, .int .i64 hi, .bool ng] 62))
    go_enter Tryz.func65, Tryz.ntmps65
    go_wp2_with fail
    refine (fLevel_c ⟨1, lo, hi, ng⟩ _).mono ?_
    rintro e w1 ⟨rfl, f1⟩
    go_wp2_with fail
    go_ret
    exact ⟨by simp [cdB, cdK, isInB], FA.out.trans f1⟩
  · by_cases h2 : k = 2
    · subst h2
      rw [show kindFn 2 = .func (.func 98) #[] #[] by rfl] at hrun
      clear h1
      have hq := eqFn 98 (w.alloc (.cells #[.int .i64 2, .int .i64 lo, .int .i64 hi, .bool ng] 62))
      go_enter Tryz.func65, Tryz.ntmps65
      go_wp2_with fail
      refine (fRange_c ⟨2, lo, hi, ng⟩ _).mono ?_
      rintro e w1 ⟨rfl, f1⟩
      go_wp2_with fail
      go_ret
      exact ⟨by simp [cdB, cdK, isInB], FA.out.trans f1⟩
    · by_cases h3 : k = 3
      · subst h3
        rw [show kindFn 3 = .func (.func 99) #[] #[] by rfl] at hrun
        clear h1 h2
        have hq := eqFn 99 (w.alloc (.cells #[.int .i64 3, .int .i64 lo, .int .i64 hi, .bool ng] 62))
        go_enter Tryz.func65, Tryz.ntmps65
        go_wp2_with fail
        refine (fHours_c ⟨3, lo, hi, ng⟩ _).mono ?_
        rintro e w1 ⟨rfl, f1⟩
        go_wp2_with fail
        go_ret
        exact ⟨by simp [cdB, cdK, isInB], FA.out.trans f1⟩
      · by_cases h4 : k = 4
        · subst h4
          rw [show kindFn 4 = .func (.func 100) #[] #[] by rfl] at hrun
          clear h1 h2 h3
          have hq := eqFn 100 (w.alloc (.cells #[.int .i64 4, .int .i64 lo, .int .i64 hi, .bool ng] 62))
          go_enter Tryz.func65, Tryz.ntmps65
          go_wp2_with fail
          refine (fForwards_c ⟨4, lo, hi, ng⟩ _).mono ?_
          rintro e w1 ⟨rfl, f1⟩
          go_wp2_with fail
          go_ret
          exact ⟨by simp [cdB, cdK, isInB], FA.out.trans f1⟩
        · by_cases h5 : k = 5
          · subst h5
            rw [show kindFn 5 = .func (.func 101) #[] #[] by rfl] at hrun
            clear h1 h2 h3 h4
            have hq := eqFn 101 (w.alloc (.cells #[.int .i64 5, .int .i64 lo, .int .i64 hi, .bool ng] 62))
            go_enter Tryz.func65, Tryz.ntmps65
            go_wp2_with fail
            refine (fSays_c ⟨5, lo, hi, ng⟩ _).mono ?_
            rintro e w1 ⟨rfl, f1⟩
            go_wp2_with fail
            go_ret
            exact ⟨by simp [cdB, cdK, isInB], FA.out.trans f1⟩
          · rw [show kindFn k = .nilFunc by simp [kindFn, h1, h2, h3, h4, h5]] at hrun
            have HB : Hid (cdB ⟨k, lo, hi, ng⟩ = false) := Lib.hid (by
              have : isInB k 1 5 = false := by cases h : isInB k 1 5 with | false => rfl | true => rw [isInB_iff] at h; omega
              simp [cdB, this])
            clear h1 h2 h3 h4 h5
            have hq := eqNilFn (w.alloc (.cells #[.int .i64 k, .int .i64 lo, .int .i64 hi, .bool ng] 62))
            go_enter Tryz.func65, Tryz.ntmps65
            go_wp2_with fail
            go_ret
            exact ⟨by rw [HB.out]; rfl, FA.out⟩

end Go.Proofs.YtahfpadaoobkfaaGreatDoor

/-
  slices.IndexFunc and slices.ContainsFunc at conditions and at rules of a filter.
-/
namespace Go.Proofs.YtahfpadaoobkfaaGreatDoor
open Go.RowKit Go.Lib

set_option maxRecDepth 100000 in
set_option maxHeartbeats 1000000 in
theorem ifCd_c (f : Nat) (lb : Array Value) (eg : ∀ args w, (callFunc f args).run Tryz.prog w = .ok (.enter f args) w) (a : Option Addr) (cap : Nat) (zs : List Cd) (p : Nat → Bool) (J : Nat → World → Prop) (w : World)
    (hsl : ∀ k W, J k W → Sl W (.slice a zs.length cap) zs.length (zs.flatMap cdC)) (hst : Steps f lb zs.length (fun k => cdV (zs.getD k default)) p J) (h0 : J 0 w) :
    Calls Tryz.prog 103 #[.slice a zs.length cap, .func (.func f) #[] lb] w fun e w' => e = .returned (.int .i64 (idxN p zs.length)) ∧ ∃ k, J k w' := by
  have hlen := (hsl 0 w h0).len
  have HSL := Lib.hid hsl; have HST := Lib.hid hst; have H0 := Lib.hid h0
  clear hsl hst h0
  go_enter Tryz.func103, Tryz.ntmps103
  go_wp2_with fail
  go_loopw [8] (fun i wr => ∃ k : Nat, k ≤ zs.length ∧ i = .int .i64 k ∧ Hid (J k wr) ∧ Hid (∀ j, j < k → p j = false)) (fun i _ => zs.length - (intOf i).toNat)
  case atStart => exact ⟨0, Nat.zero_le _, rfl, H0, Lib.hid fun j h => by omega⟩
  case round =>
    obtain ⟨k, hk, rfl, HJ, HP⟩ := hrel
    by_cases hlt : k < zs.length
    · obtain ⟨b, off, ha, hc⟩ := (HSL.out k wr HJ.out).at_ (by omega)
      subst ha
      have c0 := hc (k * 4 + 0) _ ((flat_get (enc := cdC) (k := 4) (fun _ => rfl) zs k hlt 0 (by omega)).trans rfl)
      have c1 := hc (k * 4 + 1) _ ((flat_get (enc := cdC) (k := 4) (fun _ => rfl) zs k hlt 1 (by omega)).trans rfl)
      have c2 := hc (k * 4 + 2) _ ((flat_get (enc := cdC) (k := 4) (fun _ => rfl) zs k hlt 2 (by omega)).trans rfl)
      have c3 := hc (k * 4 + 3) _ ((flat_get (enc := cdC) (k := 4) (fun _ => rfl) zs k hlt 3 (by omega)).trans rfl)
      have hs := HST.out k wr hlt HP.out HJ.out
      simp only at hs
      rw [show zs.getD k default = zs[k] by simp [hlt]] at hs
      generalize zs[k] = x at *
      obtain ⟨x0, x1, x2, x3⟩ := x
      simp only [Nat.add_zero] at hs c0 c1 c2 c3
      simp only [← Nat.add_assoc] at c0 c1 c2 c3
      clear hc
      cases hb : p k with
      | true =>
        rw [hb] at hs
        have HS := Lib.hid hs; have Hb := Lib.hid hb; clear hs hb
        go_wp2_with fail
        refine HS.out.mono ?_
        rintro e w1 ⟨rfl, j1⟩
        have J1 := Lib.hid j1; clear j1
        go_wp2_with fail
        go_ret
        exact ⟨by rw [idxN_some hlt Hb.out HP.out]; rfl, k + 1, J1.out⟩
      | false =>
        rw [hb] at hs
        have HS := Lib.hid hs; have Hb := Lib.hid hb; clear hs hb
        go_wp2_with fail
        refine HS.out.mono ?_
        rintro e w1 ⟨rfl, j1⟩
        have J1 := Lib.hid j1; clear j1
        go_wp2_with fail
        go_roundw
        case rel => exact ⟨k + 1, by omega, by go_num, J1, Lib.hid fun j h => by
          rcases Nat.lt_or_ge j k with h1 | h1
          · exact HP.out j h1
          · obtain rfl : j = k := by omega
            exact Hb.out⟩
        case measure => simp [intOf]; omega
    · obtain rfl : k = zs.length := by omega
      go_wp2_with fail
      go_ret
      exact ⟨by rw [idxN_none HP.out]; rfl, _, HJ.out⟩

theorem cfCd_c (f : Nat) (lb : Array Value) (eg : ∀ args w, (callFunc f args).run Tryz.prog w = .ok (.enter f args) w) (a : Option Addr) (cap : Nat) (zs : List Cd) (p : Nat → Bool) (J : Nat → World → Prop) (w : World)
    (hsl : ∀ k W, J k W → Sl W (.slice a zs.length cap) zs.length (zs.flatMap cdC)) (hst : Steps f lb zs.length (fun k => cdV (zs.getD k default)) p J) (h0 : J 0 w) :
    Calls Tryz.prog 69 #[.slice a zs.length cap, .func (.func f) #[] lb] w fun e w' => e = .returned (.bool (anyN p zs.length)) ∧ ∃ k, J k w' := by
  have c := Lib.hid (ifCd_c f lb eg a cap zs p J w hsl hst h0)
  clear hsl hst h0 eg
  rw [← idxN_ge]
  generalize idxN p zs.length = r at *
  go_enter Tryz.func69, Tryz.ntmps69
  go_wp2_with (go_at_call 103; refine c.out.mono ?_; rintro e w1 ⟨rfl, h1⟩; have H1 := Lib.hid h1; clear h1)
  go_ret
  exact ⟨rfl, H1.out⟩

set_option maxRecDepth 100000 in
set_option maxHeartbeats 1000000 in
theorem ifRu_c (f : Nat) (lb : Array Value) (eg : ∀ args w, (callFunc f args).run Tryz.prog w = .ok (.enter f args) w) (a : Option Addr) (cap : Nat) (zs : List RuV) (p : Nat → Bool) (J : Nat → World → Prop) (w : World)
    (hsl : ∀ k W, J k W → Sl W (.slice a zs.length cap) zs.length (zs.flatMap ruC)) (hst : Steps f lb zs.length (fun k => ruV (zs.getD k default)) p J) (h0 : J 0 w) :
    Calls Tryz.prog 102 #[.slice a zs.length cap, .func (.func f) #[] lb] w fun e w' => e = .returned (.int .i64 (idxN p zs.length)) ∧ ∃ k, J k w' := by
  have hlen := (hsl 0 w h0).len
  have HSL := Lib.hid hsl; have HST := Lib.hid hst; have H0 := Lib.hid h0
  clear hsl hst h0
  go_enter Tryz.func102, Tryz.ntmps102
  go_wp2_with fail
  go_loopw [8] (fun i wr => ∃ k : Nat, k ≤ zs.length ∧ i = .int .i64 k ∧ Hid (J k wr) ∧ Hid (∀ j, j < k → p j = false)) (fun i _ => zs.length - (intOf i).toNat)
  case atStart => exact ⟨0, Nat.zero_le _, rfl, H0, Lib.hid fun j h => by omega⟩
  case round =>
    obtain ⟨k, hk, rfl, HJ, HP⟩ := hrel
    by_cases hlt : k < zs.length
    · obtain ⟨b, off, ha, hc⟩ := (HSL.out k wr HJ.out).at_ (by omega)
      subst ha
      have c0 := hc (k * 2 + 0) _ ((flat_get (enc := ruC) (k := 2) (fun _ => rfl) zs k hlt 0 (by omega)).trans rfl)
      have c1 := hc (k * 2 + 1) _ ((flat_get (enc := ruC) (k := 2) (fun _ => rfl) zs k hlt 1 (by omega)).trans rfl)
      have hs := HST.out k wr hlt HP.out HJ.out
      simp only at hs
      rw [show zs.getD k default = zs[k] by simp [hlt]] at hs
      generalize zs[k] = x at *
      obtain ⟨⟨xc, x1⟩, x0⟩ := x
      simp only [Nat.add_zero] at hs c0 c1
      simp only [← Nat.add_assoc] at c0 c1
      clear hc
      cases hb : p k with
      | true =>
        rw [hb] at hs
        have HS := Lib.hid hs; have Hb := Lib.hid hb; clear hs hb
        go_wp2_with fail
        refine HS.out.mono ?_
        rintro e w1 ⟨rfl, j1⟩
        have J1 := Lib.hid j1; clear j1
        go_wp2_with fail
        go_ret
        exact ⟨by rw [idxN_some hlt Hb.out HP.out]; rfl, k + 1, J1.out⟩
      | false =>
        rw [hb] at hs
        have HS := Lib.hid hs; have Hb := Lib.hid hb; clear hs hb
        go_wp2_with fail
        refine HS.out.mono ?_
        rintro e w1 ⟨rfl, j1⟩
        have J1 := Lib.hid j1; clear j1
        go_wp2_with fail
        go_roundw
        case rel => exact ⟨k + 1, by omega, by go_num, J1, Lib.hid fun j h => by
          rcases Nat.lt_or_ge j k with h1 | h1
          · exact HP.out j h1
          · obtain rfl : j = k := by omega
            exact Hb.out⟩
        case measure => simp [intOf]; omega
    · obtain rfl : k = zs.length := by omega
      go_wp2_with fail
      go_ret
      exact ⟨by rw [idxN_none HP.out]; rfl, _, HJ.out⟩

theorem cfRu_c (f : Nat) (lb : Array Value) (eg : ∀ args w, (callFunc f args).run Tryz.prog w = .ok (.enter f args) w) (a : Option Addr) (cap : Nat) (zs : List RuV) (p : Nat → Bool) (J : Nat → World → Prop) (w : World)
    (hsl : ∀ k W, J k W → Sl W (.slice a zs.length cap) zs.length (zs.flatMap ruC)) (hst : Steps f lb zs.length (fun k => ruV (zs.getD k default)) p J) (h0 : J 0 w) :
    Calls Tryz.prog 67 #[.slice a zs.length cap, .func (.func f) #[] lb] w fun e w' => e = .returned (.bool (anyN p zs.length)) ∧ ∃ k, J k w' := by
  have c := Lib.hid (ifRu_c f lb eg a cap zs p J w hsl hst h0)
  clear hsl hst h0 eg
  rw [← idxN_ge]
  generalize idxN p zs.length = r at *
  go_enter Tryz.func67, Tryz.ntmps67
  go_wp2_with (go_at_call 102; refine c.out.mono ?_; rintro e w1 ⟨rfl, h1⟩; have H1 := Lib.hid h1; clear h1)
  go_ret
  exact ⟨rfl, H1.out⟩

end Go.Proofs.YtahfpadaoobkfaaGreatDoor
