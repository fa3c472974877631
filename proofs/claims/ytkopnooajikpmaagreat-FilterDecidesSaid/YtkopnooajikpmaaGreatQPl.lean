/-
  The plain model of chapter 8: rules, questions, findings; what is so; which lists prove an answer.
-/
import Derived.WalkKit
namespace Go.Proofs.YtkopnooajikpmaaGreat

structure Cl where
  pub : Int
  f : Int
  t : Int
  needs : List Int
  bars : List Int
  gives : Int
structure Rp where
  cl : Int
  pub : Int
  frm : Int
structure Fa where
  thing : Int
  says : Int
  f : Int
  t : Int
  kf : Int
  kt : Int
structure Rb where
  cls : List Cl
  rps : List Rp
  fas : List Fa
structure Qn where
  thing : Int
  says : Int
  at_ : Int
  known : Int
structure Fd where
  says : Int
  holds : Bool
  fact : Int
  cl : Int
deriving DecidableEq

instance : Inhabited Cl := ⟨⟨0, 0, 0, [], [], 0⟩⟩
instance : Inhabited Rp := ⟨⟨0, 0, 0⟩⟩
instance : Inhabited Fa := ⟨⟨0, 0, 0, 0, 0, 0⟩⟩
instance : Inhabited Fd := ⟨⟨0, false, 0, 0⟩⟩

def isInB (n low high : Int) : Bool := decide (low ≤ n) && decide (n ≤ high)
def secB (n : Int) : Bool := isInB n 0 10000000
def spellB (f t : Int) : Bool := secB f && isInB t (f + 1) 10000001
def hasB (f t s : Int) : Bool := isInB s f (t - 1)

/-- Strictly ascending from behind 'last' on, below 'below'. -/
def ascGo (below : Int) : Int → List Int → Bool
  | _, [] => true
  | last, n :: l => isInB n (last + 1) (below - 1) && ascGo below n l
def ascB (l : List Int) (below : Int) : Bool := decide (l.length ≤ 4) && ascGo below (-1) l

def clB (x : Cl) : Bool := secB x.pub && spellB x.f x.t && isInB x.gives 0 19 && ascB x.needs x.gives && ascB x.bars x.gives
def rpB (n : Nat) (x : Rp) : Bool := isInB x.cl 0 (n - 1) && secB x.pub && secB x.frm
def faB (x : Fa) : Bool := isInB x.thing 0 99999999 && isInB x.says 0 19 && spellB x.f x.t && spellB x.kf x.kt
def validB (c : Rb) : Bool := decide (c.cls.length ≤ 20) && decide (c.rps.length ≤ 10) && decide (c.fas.length ≤ 20) && c.cls.all clB && c.rps.all (rpB c.cls.length) && c.fas.all faB
def asksB (q : Qn) : Bool := isInB q.thing 0 99999999 && isInB q.says 0 19 && secB q.at_ && secB q.known

def statesB (x : Fa) (q : Qn) : Bool := decide (x.thing = q.thing) && hasB x.f x.t q.at_ && hasB x.kf x.kt q.known
def repB (i : Int) (q : Qn) (r : Rp) : Bool := decide (r.cl = i) && decide (r.pub ≤ q.known) && decide (r.frm ≤ q.at_)
def rulesB (c : Rb) (q : Qn) (i : Nat) : Bool :=
  let x := c.cls.getD i default
  decide (x.pub ≤ q.known) && hasB x.f x.t q.at_ && !c.rps.any (repB i q)

/-- The numbers below n that meet p. -/
def pickN (p : Nat → Bool) (n : Nat) : List Int := ((List.range n).filter p).map fun (i : Nat) => (i : Int)
def factsOf (c : Rb) (q : Qn) : List Int := pickN (fun i => statesB (c.fas.getD i default) q) c.fas.length
def clausesOf (c : Rb) (q : Qn) : List Int := pickN (rulesB c q) c.cls.length

def Rb.fa (c : Rb) (i : Int) : Fa := c.fas.getD i.toNat default
def Rb.cl (c : Rb) (i : Int) : Cl := c.cls.getD i.toNat default

/-- Does a clause give n, all its needs so, and none of its bars? -/
def givesB (c : Rb) (so : Int → Bool) (n : Int) (i : Int) : Bool := decide ((c.cl i).gives = n) && (c.cl i).needs.all so && !(c.cl i).bars.any so
def findW (c : Rb) (fs cs : List Int) (so : Int → Bool) (n : Int) : Fd :=
  match fs.find? (fun i => decide ((c.fa i).says = n)) with
  | some i => ⟨n, true, i, -1⟩
  | none => match cs.find? (givesB c so n) with
    | some i => ⟨n, true, -1, i⟩
    | none => ⟨n, false, -1, -1⟩

/-- The findings about 0, .. , k - 1. -/
def fdTo (c : Rb) (fs cs : List Int) : Nat → List Fd
  | 0 => []
  | k + 1 => fdTo c fs cs k ++ [findW c fs cs (fun i => ((fdTo c fs cs k).getD i.toNat default).holds) k]
def fdOf (c : Rb) (fs cs : List Int) (n : Int) : Fd := (fdTo c fs cs (n.toNat + 1)).getD n.toNat default
def soB (c : Rb) (fs cs : List Int) (n : Int) : Bool := (fdOf c fs cs n).holds

def findsB (l : List Fd) (n : Int) (h : Bool) : Bool := l.any fun y => decide (y.says = n) && y.holds == h
def barredB (c : Rb) (l : List Fd) (i : Int) : Bool := (c.cl i).needs.any (fun n => findsB l n false) || (c.cl i).bars.any (fun n => findsB l n true)
def rightB (c : Rb) (fs cs : List Int) (x : Fd) (l : List Fd) : Bool :=
  if x.holds && decide (x.cl = -1) then fs.contains x.fact && decide ((c.fa x.fact).says = x.says)
  else if x.holds then
    decide (x.fact = -1) && cs.contains x.cl && decide ((c.cl x.cl).gives = x.says) && (c.cl x.cl).needs.all (fun n => findsB l n true) && (c.cl x.cl).bars.all (fun n => findsB l n false)
  else decide (x.fact = -1) && decide (x.cl = -1) && !fs.any (fun i => decide ((c.fa i).says = x.says)) && !cs.any (fun i => decide ((c.cl i).gives = x.says) && !barredB c l i)

/-- Are the findings of the list ascending from behind 'last' on, and right in l? -/
def provesGo (c : Rb) (fs cs : List Int) (l : List Fd) : Int → List Fd → Bool
  | _, [] => true
  | last, x :: r => isInB x.says (last + 1) 19 && rightB c fs cs x l && provesGo c fs cs l x.says r
def lastOf (l : List Fd) : Int := (l.getLast?.map (·.says)).getD (-1)
def provesB (c : Rb) (fs cs : List Int) (n : Int) (h : Bool) (l : List Fd) : Bool :=
  provesGo c fs cs l (-1) l && decide (l ≠ []) && decide (lastOf l = n) && ((l.getLast?.map (·.holds)).getD false == h)

/-- Decide's last loop: what can be left out is left out, from the k-th finding down. -/
def prune (c : Rb) (fs cs : List Int) (n : Int) (h : Bool) : Nat → List Fd → List Fd
  | 0, l => l
  | k + 1, l => prune c fs cs n h k (if provesB c fs cs n h (l.eraseIdx k) then l.eraseIdx k else l)

def decideL (c : Rb) (q : Qn) : List Fd :=
  let fs := factsOf c q
  let cs := clausesOf c q
  prune c fs cs q.says (soB c fs cs q.says) q.says.toNat (fdTo c fs cs (q.says.toNat + 1))
def decideA (c : Rb) (q : Qn) : Bool := soB c (factsOf c q) (clausesOf c q) q.says
def okB (c : Rb) (q : Qn) : Bool := validB c && asksB q
def checkB (c : Rb) (q : Qn) (h : Bool) (l : List Fd) : Bool := okB c q && provesB c (factsOf c q) (clausesOf c q) q.says h l

/-- A number into an ascending list. -/
def insI : List Int → Int → List Int
  | [], x => [x]
  | y :: l, x => if x < y then x :: y :: l else if x = y then y :: l else y :: insI l x
def useF (l : List Fd) : List Int := l.foldl (fun a x => if 0 ≤ x.fact then insI a x.fact else a) []
def useC (c : Rb) (cs : List Int) (l : List Fd) : List Int := l.foldl (fun a x => if 0 ≤ x.fact then a else if 0 ≤ x.cl then insI a x.cl else cs.foldl (fun a i => if (c.cl i).gives = x.says then insI a i else a) a) []
def usesB (c : Rb) (q : Qn) (l : List Fd) : Bool := checkB c q true l || checkB c q false l

end Go.Proofs.YtkopnooajikpmaaGreat

/-
  The plain law of chapter 8: a list that proves an answer proves the right one; the full list of findings is a proof; nothing of what is left can be left out.
-/
namespace Go.Proofs.YtkopnooajikpmaaGreat

theorem isInB_iff {n lo hi : Int} : isInB n lo hi = true ↔ lo ≤ n ∧ n ≤ hi := by simp [isInB]

section
variable {c : Rb} {fs cs : List Int}

/-- What is asked of the clauses and facts that apply. -/
structure Good (c : Rb) (fs cs : List Int) : Prop where
  terms : ∀ i, i ∈ cs → ∀ m, m ∈ (c.cl i).needs ∨ m ∈ (c.cl i).bars → 0 ≤ m ∧ m < (c.cl i).gives
  fnn : ∀ i, i ∈ fs → 0 ≤ i
  cnn : ∀ i, i ∈ cs → 0 ≤ i

theorem fdTo_length (k : Nat) : (fdTo c fs cs k).length = k := by
  induction k with
  | zero => rfl
  | succ k ih => simp [fdTo, ih]
theorem fdTo_get : ∀ (k j : Nat), j < k → (fdTo c fs cs k).getD j default = findW c fs cs (fun i => ((fdTo c fs cs j).getD i.toNat default).holds) j := by
  intro k
  induction k with
  | zero => intro j h; omega
  | succ k ih =>
    intro j h
    rcases Nat.lt_or_ge j k with h1 | h1
    · rw [← ih j h1]
      simp only [fdTo, List.getD_eq_getElem?_getD]
      rw [List.getElem?_append_left (by rw [fdTo_length]; exact h1)]
    · have : j = k := by omega
      subst this
      simp only [fdTo, List.getD_eq_getElem?_getD]
      rw [List.getElem?_append_right (by rw [fdTo_length]; exact Nat.le_refl _), fdTo_length]
      simp
theorem fdTo_of (k j : Nat) (h : j < k) : (fdTo c fs cs k).getD j default = fdOf c fs cs j := by
  rw [fdTo_get k j h, fdOf, Int.toNat_natCast, fdTo_get (j + 1) j (by omega)]

theorem findW_says (so : Int → Bool) (n : Int) : (findW c fs cs so n).says = n := by
  unfold findW; split
  · rfl
  · split <;> rfl
theorem findW_holds (so : Int → Bool) (n : Int) : (findW c fs cs so n).holds = (fs.any (fun i => decide ((c.fa i).says = n)) || cs.any (givesB c so n)) := by
  unfold findW
  split
  · rename_i i h
    have := List.find?_some h
    have hm := List.mem_of_find?_eq_some h
    rw [show fs.any (fun i => decide ((c.fa i).says = n)) = true from List.any_eq_true.2 ⟨i, hm, this⟩]
    rfl
  · rename_i h
    rw [show fs.any (fun i => decide ((c.fa i).says = n)) = false by rw [List.any_eq_false]; exact List.find?_eq_none.1 h]
    split
    · rename_i i h2
      have := List.find?_some h2
      have hm := List.mem_of_find?_eq_some h2
      rw [show cs.any (givesB c so n) = true from List.any_eq_true.2 ⟨i, hm, this⟩]
      rfl
    · rename_i h2
      rw [show cs.any (givesB c so n) = false by rw [List.any_eq_false]; exact List.find?_eq_none.1 h2]
      rfl

theorem all_congr' {l : List Int} {p q : Int → Bool} (h : ∀ x, x ∈ l → p x = q x) : l.all p = l.all q := by
  induction l with
  | nil => rfl
  | cons a l ih => simp only [List.all_cons, h a (by simp), ih (fun x hx => h x (by simp [hx]))]
theorem any_congr' {l : List Int} {p q : Int → Bool} (h : ∀ x, x ∈ l → p x = q x) : l.any p = l.any q := by
  induction l with
  | nil => rfl
  | cons a l ih => simp only [List.any_cons, h a (by simp), ih (fun x hx => h x (by simp [hx]))]
theorem find_congr' {l : List Int} {p q : Int → Bool} (h : ∀ x, x ∈ l → p x = q x) : l.find? p = l.find? q := by
  induction l with
  | nil => rfl
  | cons a l ih => simp only [List.find?_cons, h a (by simp), ih (fun x hx => h x (by simp [hx]))]

theorem givesB_congr (hG : Good c fs cs) {so so' : Int → Bool} {n i : Int} (hi : i ∈ cs) (h : ∀ m, 0 ≤ m → m < n → so m = so' m) : givesB c so n i = givesB c so' n i := by
  unfold givesB
  by_cases hg : (c.cl i).gives = n
  · rw [all_congr' (fun m hm => h m (hG.terms i hi m (.inl hm)).1 (by have := (hG.terms i hi m (.inl hm)).2; omega)), any_congr' (fun m hm => h m (hG.terms i hi m (.inr hm)).1 (by have := (hG.terms i hi m (.inr hm)).2; omega))]
  · simp [hg]
theorem findW_congr (hG : Good c fs cs) {so so' : Int → Bool} {n : Int} (h : ∀ m, 0 ≤ m → m < n → so m = so' m) : findW c fs cs so n = findW c fs cs so' n := by
  unfold findW
  rw [find_congr' (l := cs) (fun i hi => givesB_congr hG hi h)]

/-- What is so is what the rules say of what is so. -/
theorem fdOf_eq (hG : Good c fs cs) (n : Int) (hn : 0 ≤ n) : fdOf c fs cs n = findW c fs cs (soB c fs cs) n := by
  obtain ⟨k, rfl⟩ := Int.eq_ofNat_of_zero_le hn
  rw [fdOf, Int.toNat_natCast, fdTo_get (k + 1) k (by omega)]
  refine findW_congr hG fun m h1 h2 => ?_
  obtain ⟨j, rfl⟩ := Int.eq_ofNat_of_zero_le h1
  rw [Int.toNat_natCast, fdTo_of k j (by omega)]
  rfl
theorem soB_eq (hG : Good c fs cs) (n : Int) (hn : 0 ≤ n) : soB c fs cs n = (fs.any (fun i => decide ((c.fa i).says = n)) || cs.any (givesB c (soB c fs cs) n)) := by
  rw [← findW_holds, ← fdOf_eq hG n hn]
  rfl
theorem fdOf_says (n : Int) (hn : 0 ≤ n) : (fdOf c fs cs n).says = n := by
  obtain ⟨k, rfl⟩ := Int.eq_ofNat_of_zero_le hn
  rw [fdOf, Int.toNat_natCast, fdTo_get (k + 1) k (by omega), findW_says]

theorem provesGo_all {l : List Fd} : ∀ {r : List Fd} {last : Int}, provesGo c fs cs l last r = true → ∀ x, x ∈ r → last < x.says ∧ x.says ≤ 19 ∧ rightB c fs cs x l = true
  | [], _, _, x, hx => by simp at hx
  | y :: r, last, h, x, hx => by
    simp only [provesGo, Bool.and_eq_true, isInB_iff] at h
    rcases List.mem_cons.1 hx with rfl | hx
    · exact ⟨by omega, h.1.1.2, h.1.2⟩
    · have := provesGo_all h.2 x hx
      exact ⟨by omega, this.2⟩
theorem provesGo_sorted {l : List Fd} : ∀ {r : List Fd} {last : Int}, provesGo c fs cs l last r = true → r.Pairwise (fun a b => a.says < b.says)
  | [], _, _ => List.Pairwise.nil
  | y :: r, last, h => by
    simp only [provesGo, Bool.and_eq_true] at h
    exact List.pairwise_cons.2 ⟨fun x hx => (provesGo_all h.2 x hx).1, provesGo_sorted h.2⟩
theorem provesGo_mk {l : List Fd} : ∀ {r : List Fd} {last : Int}, r.Pairwise (fun a b => a.says < b.says) → (∀ x, x ∈ r → last < x.says ∧ x.says ≤ 19 ∧ rightB c fs cs x l = true) → provesGo c fs cs l last r = true
  | [], _, _, _ => rfl
  | y :: r, last, hp, h => by
    have hy := h y (by simp)
    have hp := List.pairwise_cons.1 hp
    simp only [provesGo, Bool.and_eq_true, isInB_iff]
    exact ⟨⟨⟨by omega, hy.2.1⟩, hy.2.2⟩, provesGo_mk hp.2 fun x hx => ⟨hp.1 x hx, (h x (by simp [hx])).2⟩⟩

theorem findsB_iff {l : List Fd} {n : Int} {h : Bool} : findsB l n h = true ↔ ∃ y, y ∈ l ∧ y.says = n ∧ y.holds = h := by
  simp [findsB]

/-- SOUND: what a list of right findings says is so. -/
theorem right_so (hG : Good c fs cs) {l : List Fd} (h : provesGo c fs cs l (-1) l = true) : ∀ (k : Nat) (x : Fd), x ∈ l → x.says = k → x.holds = soB c fs cs x.says := by
  intro k
  induction k using Nat.strongRecOn with
  | ind k ih =>
    intro x hx hk
    have hall := provesGo_all h
    obtain ⟨_, _, hr⟩ := hall x hx
    have key : ∀ m b, 0 ≤ m → m < x.says → findsB l m b = true → soB c fs cs m = b := by
      intro m b h0 h1 hf
      obtain ⟨y, hy, h2, h3⟩ := findsB_iff.1 hf
      have := ih m.toNat (by omega) y hy (by omega)
      rw [← h3, this, h2]
    have hn0 : 0 ≤ x.says := by omega
    rw [soB_eq hG x.says hn0]
    unfold rightB at hr
    split at hr
    · rename_i h1
      simp only [Bool.and_eq_true, decide_eq_true_eq] at h1 hr
      rw [h1.1, show fs.any (fun i => decide ((c.fa i).says = x.says)) = true from List.any_eq_true.2 ⟨x.fact, by simpa using hr.1, by simpa using hr.2⟩]
      rfl
    · split at hr
      · rename_i h1 h2
        simp only [Bool.and_eq_true, decide_eq_true_eq, List.contains_iff_mem] at hr
        obtain ⟨⟨⟨⟨h3, h4⟩, h5⟩, h6⟩, h7⟩ := hr
        have ht := hG.terms x.cl h4
        rw [h2, show cs.any (givesB c (soB c fs cs) x.says) = true from List.any_eq_true.2 ⟨x.cl, h4, ?_⟩]
        · simp
        · simp only [givesB, h5, decide_true, Bool.true_and, Bool.and_eq_true, Bool.not_eq_true']
          refine ⟨List.all_eq_true.2 fun m hm => ?_, List.any_eq_false.2 fun m hm => ?_⟩
          · have := ht m (.inl hm)
            exact key m true this.1 (by omega) (List.all_eq_true.1 h6 m hm)
          · have := ht m (.inr hm)
            rw [key m false this.1 (by omega) (List.all_eq_true.1 h7 m hm)]
            simp
      · rename_i h1 h2
        simp only [Bool.and_eq_true, decide_eq_true_eq, Bool.not_eq_true'] at hr
        obtain ⟨⟨⟨h3, h4⟩, h5⟩, h6⟩ := hr
        have hh : x.holds = false := by simpa using h2
        rw [hh, h5]
        symm
        rw [Bool.false_or, List.any_eq_false]
        intro i hi hg
        simp only [givesB, Bool.and_eq_true, decide_eq_true_eq, Bool.not_eq_true'] at hg
        obtain ⟨⟨hg1, hg2⟩, hg3⟩ := hg
        have h7 := List.any_eq_false.1 h6 i hi
        simp only [hg1, decide_true, Bool.true_and, Bool.not_eq_true', Bool.not_eq_false] at h7
        have ht := hG.terms i hi
        simp only [barredB, Bool.or_eq_true, List.any_eq_true] at h7
        rcases h7 with ⟨m, hm, hf⟩ | ⟨m, hm, hf⟩
        · have hb := ht m (.inl hm)
          have h8 := key m false hb.1 (by omega) hf
          have h9 := List.all_eq_true.1 hg2 m hm
          rw [h8] at h9
          cases h9
        · have hb := ht m (.inr hm)
          have h8 := key m true hb.1 (by omega) hf
          have h9 := List.any_eq_false.1 hg3 m hm
          rw [h8] at h9
          exact h9 rfl

theorem getLast_mem' {l : List Fd} {x : Fd} (h : l.getLast? = some x) : x ∈ l := List.mem_of_getLast? h

theorem proves_so (hG : Good c fs cs) {n : Int} {h : Bool} {l : List Fd} (hp : provesB c fs cs n h l = true) : h = soB c fs cs n := by
  unfold provesB at hp
  simp only [Bool.and_eq_true, decide_eq_true_eq] at hp
  obtain ⟨⟨⟨h1, h2⟩, h3⟩, h4⟩ := hp
  cases hl : l.getLast? with
  | none => rw [List.getLast?_eq_none_iff] at hl; exact absurd hl h2
  | some x =>
    have hx := getLast_mem' hl
    have h0 := (provesGo_all h1 x hx).1
    have := right_so hG h1 x.says.toNat x hx (by omega)
    simp only [lastOf, hl, Option.map_some, Option.getD_some] at h3 h4
    have h5 : x.holds = h := by simpa using h4
    rw [← h5, this, h3]

/-- More findings make none wrong. -/
theorem findsB_mono {l l' : List Fd} (hs : ∀ x, x ∈ l → x ∈ l') {n : Int} {h : Bool} (hf : findsB l n h = true) : findsB l' n h = true := by
  obtain ⟨y, hy, h2⟩ := findsB_iff.1 hf
  exact findsB_iff.2 ⟨y, hs y hy, h2⟩
theorem rightB_mono {l l' : List Fd} (hs : ∀ x, x ∈ l → x ∈ l') {x : Fd} (hr : rightB c fs cs x l = true) : rightB c fs cs x l' = true := by
  unfold rightB at hr ⊢
  split
  · rename_i h1
    simpa [h1] using hr
  · rename_i h1
    rw [if_neg h1] at hr
    split
    · rename_i h2
      rw [if_pos h2] at hr
      simp only [Bool.and_eq_true] at hr ⊢
      exact ⟨⟨hr.1.1, List.all_eq_true.2 fun m hm => findsB_mono hs (List.all_eq_true.1 hr.1.2 m hm)⟩, List.all_eq_true.2 fun m hm => findsB_mono hs (List.all_eq_true.1 hr.2 m hm)⟩
    · rename_i h2
      rw [if_neg h2] at hr
      simp only [Bool.and_eq_true, Bool.not_eq_true'] at hr ⊢
      refine ⟨hr.1, List.any_eq_false.2 fun i hi hb => ?_⟩
      refine absurd ?_ (List.any_eq_false.1 hr.2 i hi)
      simp only [Bool.and_eq_true, decide_eq_true_eq, Bool.not_eq_true'] at hb ⊢
      refine ⟨hb.1, ?_⟩
      cases hh : barredB c l i with
      | false => rfl
      | true =>
        have : barredB c l' i = true := by
          simp only [barredB, Bool.or_eq_true, List.any_eq_true] at hh ⊢
          rcases hh with ⟨m, hm, hf⟩ | ⟨m, hm, hf⟩
          · exact .inl ⟨m, hm, findsB_mono hs hf⟩
          · exact .inr ⟨m, hm, findsB_mono hs hf⟩
        rw [this] at hb
        cases hb.2

/-- COMPLETE: each finding is right among those of the lesser numbers. -/
theorem fd_right (hG : Good c fs cs) (k : Nat) {l : List Fd} (hs : ∀ j : Nat, j < k → fdOf c fs cs j ∈ l) : rightB c fs cs (fdOf c fs cs k) l = true := by
  have hfin : ∀ m : Int, 0 ≤ m → m < k → findsB l m (soB c fs cs m) = true := by
    intro m h0 h1
    obtain ⟨j, rfl⟩ := Int.eq_ofNat_of_zero_le h0
    exact findsB_iff.2 ⟨_, hs j (by omega), fdOf_says j h0, rfl⟩
  rw [fdOf_eq hG k (by omega)]
  unfold findW
  split
  · rename_i i h
    have h1 := List.find?_some h
    have h2 := List.mem_of_find?_eq_some h
    simp only [rightB]
    simpa [h2] using h1
  · rename_i h
    split
    · rename_i i h3
      have h1 := List.find?_some h3
      have h2 := List.mem_of_find?_eq_some h3
      have hi := hG.cnn i h2
      have hne : ¬ (i = -1) := by omega
      have ht := hG.terms i h2
      simp only [givesB, Bool.and_eq_true, decide_eq_true_eq, Bool.not_eq_true'] at h1
      obtain ⟨⟨g1, g2⟩, g3⟩ := h1
      simp only [rightB, hne, decide_false, Bool.and_false, Bool.false_eq_true, if_false, if_true, decide_true, Bool.true_and, Bool.and_eq_true, decide_eq_true_eq]
      refine ⟨⟨⟨by simpa using h2, g1⟩, List.all_eq_true.2 fun m hm => ?_⟩, List.all_eq_true.2 fun m hm => ?_⟩
      · have hb := ht m (.inl hm)
        have := hfin m hb.1 (by omega)
        rwa [List.all_eq_true.1 g2 m hm] at this
      · have hb := ht m (.inr hm)
        have := hfin m hb.1 (by omega)
        have h4 := List.any_eq_false.1 g3 m hm
        rwa [show soB c fs cs m = false by simpa using h4] at this
    · rename_i h3
      simp only [rightB, Bool.false_and, Bool.false_eq_true, if_false, decide_true, Bool.true_and, Bool.and_eq_true, Bool.not_eq_true']
      refine ⟨List.any_eq_false.2 (List.find?_eq_none.1 h), List.any_eq_false.2 fun i hi hb => ?_⟩
      simp only [Bool.and_eq_true, decide_eq_true_eq, Bool.not_eq_true'] at hb
      obtain ⟨g1, g2⟩ := hb
      have h4 := List.find?_eq_none.1 h3 i hi
      have ht := hG.terms i hi
      apply h4
      simp only [givesB, g1, decide_true, Bool.true_and, Bool.and_eq_true, Bool.not_eq_true']
      simp only [barredB, Bool.or_eq_false_iff, List.any_eq_false] at g2
      refine ⟨List.all_eq_true.2 fun m hm => ?_, List.any_eq_false.2 fun m hm hso => ?_⟩
      · have hb := ht m (.inl hm)
        have h5 := hfin m hb.1 (by omega)
        have h6 := g2.1 m hm
        cases hso : soB c fs cs m with
        | true => rfl
        | false => rw [hso] at h5; exact absurd h5 h6
      · have hb := ht m (.inr hm)
        have h5 := hfin m hb.1 (by omega)
        have h6 := g2.2 m hm
        rw [hso] at h5
        exact h6 h5
end

end Go.Proofs.YtkopnooajikpmaaGreat

/-
  The plain law of chapter 8, second part: what Decide returns is a proof, and no finding of it can be left out.
-/
namespace Go.Proofs.YtkopnooajikpmaaGreat

section
variable {c : Rb} {fs cs : List Int}

theorem fdTo_map (k : Nat) : fdTo c fs cs k = (List.range k).map fun j : Nat => fdOf c fs cs (j : Int) := by
  apply List.ext_getElem?
  intro j
  by_cases hj : j < k
  · have h1 := fdTo_of (c := c) (fs := fs) (cs := cs) k j hj
    rw [List.getD_eq_getElem?_getD] at h1
    have hl : j < (fdTo c fs cs k).length := by rw [fdTo_length]; exact hj
    rw [List.getElem?_eq_getElem hl] at h1 ⊢
    simp only [Option.getD_some] at h1
    simp [h1, hj]
  · rw [List.getElem?_eq_none (by rw [fdTo_length]; omega), List.getElem?_eq_none (by simp; omega)]

theorem fdTo_mem {k : Nat} {x : Fd} : x ∈ fdTo c fs cs k ↔ ∃ j : Nat, j < k ∧ x = fdOf c fs cs j := by
  rw [fdTo_map]
  simp only [List.mem_map, List.mem_range]
  constructor
  · rintro ⟨j, hj, rfl⟩; exact ⟨j, hj, rfl⟩
  · rintro ⟨j, hj, rfl⟩; exact ⟨j, hj, rfl⟩
theorem fdTo_sorted (k : Nat) : (fdTo c fs cs k).Pairwise (fun a b => a.says < b.says) := by
  rw [fdTo_map, List.pairwise_map]
  refine List.pairwise_lt_range.imp fun {a b} h => ?_
  rw [fdOf_says _ (by omega), fdOf_says _ (by omega)]
  omega
theorem fdTo_last (k : Nat) : (fdTo c fs cs (k + 1)).getLast? = some (fdOf c fs cs k) := by
  rw [fdTo_map, List.range_succ]
  simp

/-- The findings below k in front of a tail: a proof if the tail is right. -/
theorem front_proves (hG : Good c fs cs) {n : Int} {h : Bool} {A T : List Fd} {k : Nat} (hA : ∀ x, x ∈ A → x ∈ fdTo c fs cs k) (hT : T ≠ []) (hk : ∀ x, x ∈ T → (k : Int) ≤ x.says)
    (hp : provesB c fs cs n h (A ++ T) = true) : provesB c fs cs n h (fdTo c fs cs k ++ T) = true := by
  unfold provesB at hp ⊢
  simp only [Bool.and_eq_true, decide_eq_true_eq] at hp ⊢
  obtain ⟨⟨⟨h1, h2⟩, h3⟩, h4⟩ := hp
  have hall := provesGo_all h1
  have hso := provesGo_sorted h1
  have e : (A ++ T).getLast? = (fdTo c fs cs k ++ T).getLast? := by
    rw [List.getLast?_append, List.getLast?_append]
    cases hl : T.getLast? with
    | none => rw [List.getLast?_eq_none_iff] at hl; exact absurd hl hT
    | some x => rfl
  have hTs : T.Pairwise (fun a b => a.says < b.says) := (List.pairwise_append.1 hso).2.1
  have hk19 : ∀ j : Nat, j < k → (j : Int) ≤ 19 := by
    intro j hj
    cases hT' : T with
    | nil => exact absurd hT' hT
    | cons y T' =>
      have := hall y (by rw [hT']; simp)
      have := hk y (by rw [hT']; simp)
      omega
  refine ⟨⟨⟨provesGo_mk ?_ ?_, by simp [hT]⟩, ?_⟩, ?_⟩
  · refine List.pairwise_append.2 ⟨fdTo_sorted k, hTs, fun a ha b hb => ?_⟩
    obtain ⟨j, hj, rfl⟩ := fdTo_mem.1 ha
    rw [fdOf_says _ (by omega)]
    have := hk b hb
    omega
  · intro x hx
    rcases List.mem_append.1 hx with hx | hx
    · obtain ⟨j, hj, rfl⟩ := fdTo_mem.1 hx
      rw [fdOf_says _ (by omega)]
      exact ⟨by omega, hk19 j hj, fd_right hG j fun i hi => List.mem_append_left _ (fdTo_mem.2 ⟨i, by omega, rfl⟩)⟩
    · have h5 := hall x (List.mem_append_right _ hx)
      refine ⟨h5.1, h5.2.1, rightB_mono (fun y hy => ?_) h5.2.2⟩
      rcases List.mem_append.1 hy with hy | hy
      · exact List.mem_append_left _ (hA y hy)
      · exact List.mem_append_right _ hy
  · rw [← h3]; unfold lastOf; rw [e]
  · rw [← e]; exact h4

theorem full_proves (hG : Good c fs cs) (n : Nat) (hn : n ≤ 19) : provesB c fs cs n (soB c fs cs n) (fdTo c fs cs (n + 1)) = true := by
  unfold provesB
  simp only [Bool.and_eq_true, decide_eq_true_eq]
  have hl := fdTo_last (c := c) (fs := fs) (cs := cs) n
  refine ⟨⟨⟨provesGo_mk (fdTo_sorted _) fun x hx => ?_, ?_⟩, ?_⟩, ?_⟩
  · obtain ⟨j, hj, rfl⟩ := fdTo_mem.1 hx
    rw [fdOf_says _ (by omega)]
    exact ⟨by omega, by omega, fd_right hG j fun i hi => fdTo_mem.2 ⟨i, by omega, rfl⟩⟩
  · intro h
    rw [h] at hl
    cases hl
  · simp only [lastOf, hl, Option.map_some, Option.getD_some]
    exact fdOf_says _ (by omega)
  · simp only [hl, Option.map_some, Option.getD_some]
    simp [soB]

theorem prune_proves {n : Int} {h : Bool} : ∀ (k : Nat) (l : List Fd), provesB c fs cs n h l = true → provesB c fs cs n h (prune c fs cs n h k l) = true
  | 0, _, hp => hp
  | k + 1, l, hp => by
    unfold prune
    split
    · rename_i h1; exact prune_proves k _ h1
    · exact prune_proves k _ hp

/-- What pruning leaves of the findings below k in front of a tail that is kept. -/
theorem prune_spare (hG : Good c fs cs) {n : Int} {h : Bool} : ∀ (k : Nat) (T : List Fd), T ≠ [] → (∀ x, x ∈ T → (k : Int) ≤ x.says) →
    ∃ A, (∀ x, x ∈ A → x ∈ fdTo c fs cs k) ∧ prune c fs cs n h k (fdTo c fs cs k ++ T) = A ++ T ∧ ∀ i, i < A.length → provesB c fs cs n h ((A ++ T).eraseIdx i) = false
  | 0, T, _, _ => ⟨[], by simp, rfl, by simp⟩
  | k + 1, T, hT, hk => by
    have el : fdTo c fs cs (k + 1) = fdTo c fs cs k ++ [fdOf c fs cs k] := by
      rw [fdTo_map, fdTo_map, List.range_succ]; simp
    have ee : (fdTo c fs cs (k + 1) ++ T).eraseIdx k = fdTo c fs cs k ++ T := by
      rw [el, List.append_assoc, List.eraseIdx_append_of_length_le (by rw [fdTo_length]; exact Nat.le_refl _), fdTo_length]
      simp
    have hsub : ∀ x, x ∈ fdTo c fs cs k → x ∈ fdTo c fs cs (k + 1) := fun x hx => by rw [el]; exact List.mem_append_left _ hx
    unfold prune
    rw [ee]
    cases hp : provesB c fs cs n h (fdTo c fs cs k ++ T) with
    | true =>
      simp only [if_true]
      obtain ⟨A, h1, h2, h3⟩ := prune_spare hG k T hT (fun x hx => by have := hk x hx; omega)
      exact ⟨A, fun x hx => hsub x (h1 x hx), h2, h3⟩
    | false =>
      simp only [Bool.false_eq_true, if_false]
      obtain ⟨A, h1, h2, h3⟩ := prune_spare (n := n) (h := h) hG k (fdOf c fs cs k :: T) (by simp) (fun x hx => by
        rcases List.mem_cons.1 hx with rfl | hx
        · rw [fdOf_says _ (by omega)]; omega
        · have := hk x hx; omega)
      refine ⟨A ++ [fdOf c fs cs k], fun x hx => ?_, ?_, fun i hi => ?_⟩
      · rcases List.mem_append.1 hx with hx | hx
        · exact hsub x (h1 x hx)
        · rw [el]; exact List.mem_append_right _ hx
      · rw [el, List.append_assoc, List.append_assoc]
        exact h2
      · rw [List.append_assoc]
        simp only [List.length_append, List.length_singleton] at hi
        rcases Nat.lt_or_ge i A.length with h4 | h4
        · exact h3 i h4
        · have : i = A.length := by omega
          subst this
          rw [List.singleton_append, List.eraseIdx_append_of_length_le (Nat.le_refl _), Nat.sub_self, List.eraseIdx_cons_zero]
          cases hq : provesB c fs cs n h (A ++ T) with
          | false => rfl
          | true => rw [front_proves hG h1 hT (fun x hx => by have := hk x hx; omega) hq] at hp; cases hp

/-- Nothing of what is left can be left out. -/
theorem decide_spare (hG : Good c fs cs) (n : Nat) : ∀ i, i < (prune c fs cs n (soB c fs cs n) n (fdTo c fs cs (n + 1))).length →
    provesB c fs cs n (soB c fs cs n) ((prune c fs cs n (soB c fs cs n) n (fdTo c fs cs (n + 1))).eraseIdx i) = false := by
  have el : fdTo c fs cs (n + 1) = fdTo c fs cs n ++ [fdOf c fs cs n] := by
    rw [fdTo_map, fdTo_map, List.range_succ]; simp
  obtain ⟨A, h1, h2, h3⟩ := prune_spare (n := n) (h := soB c fs cs n) hG n [fdOf c fs cs n] (by simp) (fun x hx => by
    simp only [List.mem_singleton] at hx; subst hx; rw [fdOf_says _ (by omega)]; omega)
  rw [el, h2]
  intro i hi
  rcases Nat.lt_or_ge i A.length with h4 | h4
  · exact h3 i h4
  · have : i = A.length := by simp at hi; omega
    subst this
    rw [List.eraseIdx_append_of_length_le (Nat.le_refl _), Nat.sub_self, List.eraseIdx_cons_zero, List.append_nil]
    cases hp : provesB c fs cs n (soB c fs cs n) A with
    | false => rfl
    | true =>
      exfalso
      unfold provesB at hp
      simp only [Bool.and_eq_true, decide_eq_true_eq] at hp
      obtain ⟨⟨⟨g1, g2⟩, g3⟩, _⟩ := hp
      cases hl : A.getLast? with
      | none => rw [List.getLast?_eq_none_iff] at hl; exact g2 hl
      | some x =>
        have hx := getLast_mem' hl
        obtain ⟨j, hj, rfl⟩ := fdTo_mem.1 (h1 x hx)
        simp only [lastOf, hl, Option.map_some, Option.getD_some] at g3
        rw [fdOf_says _ (by omega)] at g3
        omega
end

/-! ### Valid rules -/
theorem pickN_mem {p : Nat → Bool} {n : Nat} {x : Int} : x ∈ pickN p n ↔ ∃ i : Nat, i < n ∧ p i = true ∧ x = i := by
  simp only [pickN, List.mem_map, List.mem_filter, List.mem_range]
  constructor
  · rintro ⟨i, ⟨h1, h2⟩, rfl⟩; exact ⟨i, h1, h2, rfl⟩
  · rintro ⟨i, h1, h2, rfl⟩; exact ⟨i, ⟨h1, h2⟩, rfl⟩

theorem ascGo_mem {below : Int} : ∀ {l : List Int} {last : Int}, ascGo below last l = true → ∀ m, m ∈ l → last < m ∧ m < below
  | [], _, _, m, hm => by simp at hm
  | n :: l, last, h, m, hm => by
    simp only [ascGo, Bool.and_eq_true, isInB_iff] at h
    rcases List.mem_cons.1 hm with rfl | hm
    · omega
    · have := ascGo_mem h.2 m hm; omega

theorem good_of_valid {c : Rb} {q : Qn} (hv : validB c = true) : Good c (factsOf c q) (clausesOf c q) := by
  simp only [validB, Bool.and_eq_true, List.all_eq_true] at hv
  obtain ⟨⟨⟨_, hc⟩, _⟩, _⟩ := hv
  refine ⟨fun i hi m hm => ?_, fun i hi => ?_, fun i hi => ?_⟩
  · obtain ⟨j, hj, _, rfl⟩ := pickN_mem.1 hi
    have hx : c.cl j ∈ c.cls := by simp [Rb.cl, hj]
    have h1 := hc _ hx
    simp only [clB, Bool.and_eq_true, ascB] at h1
    rcases hm with hm | hm
    · have := ascGo_mem h1.1.2.2 m hm; omega
    · have := ascGo_mem h1.2.2 m hm; omega
  · obtain ⟨j, _, _, rfl⟩ := pickN_mem.1 hi; omega
  · obtain ⟨j, _, _, rfl⟩ := pickN_mem.1 hi; omega

/-- What the law StatuteOne asks. -/
theorem decide_checks {c : Rb} {q : Qn} (h : okB c q = true) : checkB c q (decideA c q) (decideL c q) = true := by
  have hv : validB c = true := by simp only [okB, Bool.and_eq_true] at h; exact h.1
  have ha : 0 ≤ q.says ∧ q.says ≤ 19 := by
    simp only [okB, asksB, Bool.and_eq_true, isInB_iff] at h; exact h.2.1.1.2
  obtain ⟨n, hn⟩ := Int.eq_ofNat_of_zero_le ha.1
  unfold checkB decideA decideL
  rw [h, Bool.true_and]
  refine prune_proves _ _ ?_
  rw [hn, Int.toNat_natCast]
  exact full_proves (good_of_valid hv) n (by omega)
theorem check_one {c : Rb} {q : Qn} {h : Bool} {l : List Fd} (hc : checkB c q h l = true) : h = decideA c q := by
  simp only [checkB, Bool.and_eq_true, okB] at hc
  exact proves_so (good_of_valid hc.1.1) hc.2
theorem check_other {c : Rb} {q : Qn} (l : List Fd) : checkB c q (!decideA c q) l = false := by
  cases h : checkB c q (!decideA c q) l with
  | false => rfl
  | true => have := check_one h; cases hd : decideA c q <;> rw [hd] at this <;> cases this
theorem spare_checks {c : Rb} {q : Qn} (h : okB c q = true) (i : Nat) (hi : i < (decideL c q).length) : checkB c q (decideA c q) ((decideL c q).eraseIdx i) = false := by
  have hv : validB c = true := by simp only [okB, Bool.and_eq_true] at h; exact h.1
  have ha : 0 ≤ q.says ∧ q.says ≤ 19 := by
    simp only [okB, asksB, Bool.and_eq_true, isInB_iff] at h; exact h.2.1.1.2
  obtain ⟨n, hn⟩ := Int.eq_ofNat_of_zero_le ha.1
  unfold decideL at hi
  unfold checkB decideA decideL
  rw [h, Bool.true_and]
  rw [hn, Int.toNat_natCast] at hi ⊢
  exact decide_spare (good_of_valid hv) n i hi

end Go.Proofs.YtkopnooajikpmaaGreat

/-
  The plain model of chapter 26: filters, calls, decisions.
-/
namespace Go.Proofs.YtkopnooajikpmaaGreat

structure Cd where
  kind : Int
  lo : Int
  hi : Int
  neg : Bool
structure Ru where
  cds : List Cd
  act : Int
structure Fl where
  rus : List Ru
  dfl : Int
structure Ca where
  caller : Int
  called : Int
  at_ : Int
  level : Int
  fwd : Int
  back : Bool
structure Dn where
  act : Int
  rule : Int
  fails : List Int
  prfs : List (List Fd)

instance : Inhabited Cd := ⟨⟨0, 0, 0, false⟩⟩
instance : Inhabited Ru := ⟨⟨[], 0⟩⟩

/-- Is a condition of a kind from 1 to 5 valid? -/
def cdK (x : Cd) : Bool :=
  if x.kind = 1 then isInB x.lo 0 x.hi && decide (x.hi ≤ 3)
  else if x.kind = 2 then decide (0 ≤ x.lo) && decide (x.lo < x.hi) && decide (x.hi ≤ 100000000)
  else if x.kind = 3 then decide (x.lo ≠ x.hi) && isInB x.lo 0 86399 && isInB x.hi 0 86399
  else if x.kind = 4 then isInB x.lo 0 x.hi && decide (x.hi ≤ 5)
  else isInB x.lo 0 19 && decide (x.hi = 0)
def cdB (x : Cd) : Bool := isInB x.kind 1 5 && cdK x
def actB (n : Int) : Bool := isInB n 1 4
def ruB (r : Ru) : Bool := decide (r.cds.length ≤ 4) && actB r.act && r.cds.all cdB
def flB (f : Fl) : Bool := decide (f.rus.length ≤ 20) && actB f.dfl && f.rus.all ruB
def caB (c : Ca) : Bool := isInB c.caller 0 99999999 && isInB c.called 0 99999999 && isInB c.at_ 0 10000000 && isInB c.level 0 3 && isInB c.fwd 0 5
def goodF (f : Fl) (b : Rb) (c : Ca) : Bool := flB f && validB b && caB c

def qnOf (c : Ca) (x : Cd) : Qn := ⟨c.caller, x.lo, c.at_, c.at_⟩
def plainK (c : Ca) (x : Cd) : Bool :=
  if x.kind = 1 then isInB c.level x.lo x.hi
  else if x.kind = 2 then isInB c.caller x.lo (x.hi - 1)
  else if x.kind = 4 then isInB c.fwd x.lo x.hi
  else if x.kind = 3 then (if x.hi < x.lo then !isInB (c.at_ % 86400) x.hi (x.lo - 1) else isInB (c.at_ % 86400) x.lo (x.hi - 1))
  else false
def plainB (c : Ca) (x : Cd) : Bool := plainK c x != x.neg
def holdsF (b : Rb) (c : Ca) (x : Cd) : Bool := if x.kind = 5 then decideA b (qnOf c x) != x.neg else plainB c x
def prfsF (b : Rb) (c : Ca) (x : Cd) : List (List Fd) := if x.kind = 5 then [decideL b (qnOf c x)] else []

/-- The first condition that does not hold, if any, from the k-th on. -/
def failK (b : Rb) (c : Ca) : Nat → List Cd → Option (Nat × Cd)
  | _, [] => none
  | k, x :: l => if holdsF b c x then failK b c (k + 1) l else some (k, x)
def matchI (b : Rb) (c : Ca) (l : List Cd) : Int := match failK b c 0 l with
  | none => -1
  | some p => p.1
def matchP (b : Rb) (c : Ca) (l : List Cd) : List (List Fd) := match failK b c 0 l with
  | none => l.flatMap (prfsF b c)
  | some p => prfsF b c p.2

/-- What Decide's loop finds, from the i-th rule on. -/
def decGo (b : Rb) (c : Ca) (dfl : Int) : Nat → List Int → List (List Fd) → List Ru → Dn
  | _, F, P, [] => ⟨dfl, -1, F, P⟩
  | i, F, P, r :: l => match failK b c 0 r.cds with
    | none => ⟨r.act, i, F, P ++ r.cds.flatMap (prfsF b c)⟩
    | some p => decGo b c dfl (i + 1) (F ++ [(p.1 : Int)]) (P ++ prfsF b c p.2) l
def decF (f : Fl) (b : Rb) (c : Ca) : Dn := if c.back then ⟨1, -2, [], []⟩ else decGo b c f.dfl 0 [] [] f.rus

/-- A claim, taken from the proofs that are left. -/
def takeF (b : Rb) (c : Ca) (x : Cd) (want : Bool) (P : List (List Fd)) : Option (List (List Fd)) :=
  if x.kind = 5 then match P with
    | [] => none
    | l :: r => if checkB b (qnOf c x) (want != x.neg) l then some r else none
  else if plainB c x == want then some P else none
def takeAll (b : Rb) (c : Ca) : List Cd → List (List Fd) → Option (List (List Fd))
  | [], P => some P
  | x :: l, P => match takeF b c x true P with
    | none => none
    | some R => takeAll b c l R
/-- The claims that rules do not hold. -/
def takeFails (b : Rb) (c : Ca) : List Ru → List Int → List (List Fd) → Option (List (List Fd))
  | r :: rs, k :: ks, P => if isInB k 0 (r.cds.length - 1) then match takeF b c (r.cds.getD k.toNat default) false P with
      | none => none
      | some R => takeFails b c rs ks R
    else none
  | _, _, P => some P
def checkF (f : Fl) (b : Rb) (c : Ca) (x : Dn) : Bool :=
  if c.back then decide (x.rule = -2) && decide (x.act = 1) && decide (x.fails.length + x.prfs.length = 0)
  else if x.rule = -1 then decide (x.fails.length = f.rus.length) && decide (x.act = f.dfl) && decide (takeFails b c f.rus x.fails x.prfs = some [])
  else isInB x.rule 0 (f.rus.length - 1) && decide ((x.fails.length : Int) = x.rule) && decide (x.act = (f.rus.getD x.rule.toNat default).act) &&
    (match takeFails b c f.rus x.fails x.prfs with
      | none => false
      | some R => decide (takeAll b c (f.rus.getD x.rule.toNat default).cds R = some []))

end Go.Proofs.YtkopnooajikpmaaGreat

/-
  The plain law of chapter 26: what Decide returns is right, and no right decision has another action or another rule.
-/
namespace Go.Proofs.YtkopnooajikpmaaGreat

/-- Does a rule match? -/
def mB (b : Rb) (c : Ca) (r : Ru) : Bool := r.cds.all (holdsF b c)

section
variable {b : Rb} {c : Ca}

theorem fail_none {k : Nat} {l : List Cd} : failK b c k l = none ↔ l.all (holdsF b c) = true := by
  induction l generalizing k with
  | nil => simp [failK]
  | cons x l ih =>
    rw [failK, List.all_cons]
    cases h : holdsF b c x with
    | true => simp only [if_true, Bool.true_and]; exact ih
    | false => simp

theorem fail_some {k : Nat} {l : List Cd} {p : Nat × Cd} (h : failK b c k l = some p) : ∃ j, ∃ hj : j < l.length, p.1 = k + j ∧ l[j] = p.2 ∧ holdsF b c p.2 = false ∧ ∀ i, (hi : i < j) → holdsF b c (l[i]'(Nat.lt_trans hi hj)) = true := by
  induction l generalizing k with
  | nil => simp [failK] at h
  | cons x l ih =>
    rw [failK] at h
    cases hx : holdsF b c x with
    | true =>
      rw [hx] at h
      simp only [if_true] at h
      obtain ⟨j, hj, h1, h2, h3, h4⟩ := ih h
      refine ⟨j + 1, by simp; omega, by omega, by simpa using h2, h3, fun i hi => ?_⟩
      cases i with
      | zero => simpa using hx
      | succ i => simpa using h4 i (by omega)
    | false =>
      rw [hx] at h
      simp only [Bool.false_eq_true, if_false, Option.some.injEq] at h
      subst h
      exact ⟨0, by simp, by simp, rfl, hx, fun i hi => by omega⟩

/-- The questions that conditions ask are valid. -/
def AskOk (b : Rb) (c : Ca) (l : List Cd) : Prop := ∀ x, x ∈ l → x.kind = 5 → okB b (qnOf c x) = true

theorem take_ok {x : Cd} (h : x.kind = 5 → okB b (qnOf c x) = true) (P : List (List Fd)) : takeF b c x (holdsF b c x) (prfsF b c x ++ P) = some P := by
  unfold takeF holdsF prfsF
  by_cases hk : x.kind = 5
  · have hc := decide_checks (h hk)
    have e : ((decideA b (qnOf c x) != x.neg) != x.neg) = decideA b (qnOf c x) := by cases decideA b (qnOf c x) <;> cases x.neg <;> rfl
    simp only [hk, if_true, List.cons_append, List.nil_append, e, hc]
  · simp only [hk, if_false, List.nil_append, beq_self_eq_true, if_true]

theorem take_sound {x : Cd} {want : Bool} {P R : List (List Fd)} (h : takeF b c x want P = some R) : want = holdsF b c x := by
  unfold takeF at h
  unfold holdsF
  by_cases hk : x.kind = 5
  · simp only [hk, if_true] at h ⊢
    cases P with
    | nil => cases h
    | cons l r =>
      simp only at h
      cases hc : checkB b (qnOf c x) (want != x.neg) l with
      | false => rw [hc] at h; cases h
      | true =>
        have := check_one hc
        rw [← this]
        cases want <;> cases x.neg <;> rfl
  · simp only [hk, if_false] at h ⊢
    cases he : plainB c x == want with
    | false => rw [he] at h; cases h
    | true => exact (beq_iff_eq.1 he).symm

theorem takeAll_ok : ∀ {l : List Cd} (_ : AskOk b c l) (_ : l.all (holdsF b c) = true) (P : List (List Fd)), takeAll b c l (l.flatMap (prfsF b c) ++ P) = some P
  | [], _, _, P => rfl
  | x :: l, ha, hh, P => by
    simp only [List.all_cons, Bool.and_eq_true] at hh
    have h1 := take_ok (ha x (by simp)) (l.flatMap (prfsF b c) ++ P)
    rw [hh.1] at h1
    rw [takeAll, List.flatMap_cons, List.append_assoc, h1]
    exact takeAll_ok (fun y hy => ha y (by simp [hy])) hh.2 P

theorem takeAll_sound : ∀ {l : List Cd} {P R : List (List Fd)}, takeAll b c l P = some R → l.all (holdsF b c) = true
  | [], _, _, _ => rfl
  | x :: l, P, R, h => by
    rw [takeAll] at h
    cases ht : takeF b c x true P with
    | none => rw [ht] at h; cases h
    | some Q =>
      rw [ht] at h
      simp only at h
      rw [List.all_cons, ← take_sound ht, takeAll_sound h]; rfl

theorem takeFails_sound : ∀ {rs : List Ru} {ks : List Int} {P R : List (List Fd)}, takeFails b c rs ks P = some R → ∀ j, (hj : j < rs.length) → j < ks.length → mB b c rs[j] = false
  | [], _, _, _, _, j, hj, _ => by simp at hj
  | _ :: _, [], _, _, _, j, _, hk => by simp at hk
  | r :: rs, k :: ks, P, R, h, j, hj, hk => by
    rw [takeFails] at h
    cases hi : isInB k 0 (r.cds.length - 1) with
    | false => rw [hi] at h; cases h
    | true =>
      rw [hi] at h
      simp only [if_true] at h
      cases ht : takeF b c (r.cds.getD k.toNat default) false P with
      | none => rw [ht] at h; cases h
      | some Q =>
        rw [ht] at h
        simp only at h
        cases j with
        | zero =>
          rw [isInB_iff] at hi
          have hl : k.toNat < r.cds.length := by omega
          have hs := take_sound ht
          rw [List.getD_eq_getElem?_getD, List.getElem?_eq_getElem hl, Option.getD_some] at hs
          simp only [List.getElem_cons_zero]
          cases hm : mB b c r with
          | false => rfl
          | true =>
            have := List.all_eq_true.1 hm _ (List.getElem_mem hl)
            rw [this] at hs; cases hs
        | succ j =>
          have := takeFails_sound h j (by simpa using hj) (by simpa using hk)
          simpa using this

/-- What Decide's loop finds. -/
theorem decGo_run {dfl : Int} : ∀ (l : List Ru) (_ : ∀ r, r ∈ l → AskOk b c r.cds) (i : Nat) (F : List Int) (P : List (List Fd)), ∃ ks ps, ks.length ≤ l.length ∧ (∀ R, takeFails b c l ks (ps ++ R) = some R) ∧ (∀ j, (hj : j < l.length) → (hk : j < ks.length) → mB b c l[j] = false ∧ ∃ x, failK b c 0 l[j].cds = some ((ks[j]).toNat, x) ∧ 0 ≤ ks[j]) ∧
      ((ks.length = l.length ∧ decGo b c dfl i F P l = ⟨dfl, -1, F ++ ks, P ++ ps⟩) ∨ (∃ h : ks.length < l.length, mB b c l[ks.length] = true ∧ decGo b c dfl i F P l = ⟨l[ks.length].act, ((i + ks.length : Nat) : Int), F ++ ks, P ++ ps ++ l[ks.length].cds.flatMap (prfsF b c)⟩))
  | [], _, i, F, P => ⟨[], [], by simp, fun R => rfl, fun j hj => by simp at hj, .inl ⟨rfl, by simp [decGo]⟩⟩
  | r :: l, hA, i, F, P => by
    cases hf : failK b c 0 r.cds with
    | none =>
      refine ⟨[], [], by simp, fun R => rfl, fun j _ hk => by simp at hk, .inr ⟨by simp, fail_none.1 hf, ?_⟩⟩
      rw [decGo, hf]; simp
    | some p =>
      obtain ⟨ks, ps, h0, h1, h2, h3⟩ := decGo_run (dfl := dfl) l (fun r hr => hA r (by simp [hr])) (i + 1) (F ++ [(p.1 : Int)]) (P ++ prfsF b c p.2)
      obtain ⟨j, hj, e1, e2, e3, _⟩ := fail_some hf
      refine ⟨(p.1 : Int) :: ks, prfsF b c p.2 ++ ps, by simp; exact h0, fun R => ?_, fun m hm hk => ?_, ?_⟩
      · have hi : isInB (p.1 : Int) 0 (r.cds.length - 1) = true := isInB_iff.2 ⟨by omega, by omega⟩
        have hg : r.cds.getD ((p.1 : Int)).toNat default = p.2 := by
          have : ((p.1 : Int)).toNat = j := by omega
          rw [this, List.getD_eq_getElem?_getD, List.getElem?_eq_getElem hj, Option.getD_some, e2]
        have ht := take_ok (hA r (by simp) p.2 (by rw [← e2]; exact List.getElem_mem hj)) (ps ++ R)
        rw [e3] at ht
        rw [takeFails, hi]
        simp only [if_true]
        rw [hg, List.append_assoc, ht]
        exact h1 R
      · cases m with
        | zero =>
          refine ⟨?_, p.2, by simpa using hf, by simp⟩
          simp only [List.getElem_cons_zero]
          cases hmm : mB b c r with
          | false => rfl
          | true => rw [fail_none.2 hmm] at hf; cases hf
        | succ m => simpa using h2 m (by simpa using hm) (by simpa using hk)
      · rw [decGo, hf]
        simp only
        rcases h3 with ⟨g1, g2⟩ | ⟨g1, g2, g3⟩
        · exact .inl ⟨by simp [g1], by rw [g2]; simp⟩
        · refine .inr ⟨by simpa using g1, by simpa using g2, ?_⟩
          rw [g3]
          simp only [List.length_cons, List.getElem_cons_succ, Dn.mk.injEq, List.append_assoc, List.cons_append, List.nil_append, true_and, and_true]
          omega

/-- The rule that counts, and the action. -/
def ruleOf (b : Rb) (c : Ca) (f : Fl) : Int := match f.rus.findIdx? (mB b c) with
  | none => -1
  | some j => j
def actOf (b : Rb) (c : Ca) (f : Fl) : Int := match f.rus.findIdx? (mB b c) with
  | none => f.dfl
  | some j => (f.rus.getD j default).act

theorem rule_none {l : List Ru} {n : Nat} (h : ∀ j, (hj : j < l.length) → j < n → mB b c l[j] = false) (hn : n = l.length) : l.findIdx? (mB b c) = none := by
  rw [List.findIdx?_eq_none_iff]
  intro x hx
  obtain ⟨j, hj, rfl⟩ := List.getElem_of_mem hx
  exact h j hj (by omega)
theorem rule_at {l : List Ru} {n : Nat} (hn : n < l.length) (h : ∀ j, (hj : j < l.length) → j < n → mB b c l[j] = false) (hm : mB b c l[n] = true) : l.findIdx? (mB b c) = some n := by
  rw [List.findIdx?_eq_some_iff_getElem]
  exact ⟨hn, hm, fun j hj => by rw [h j (by omega) hj]; simp⟩
end

theorem goodF_ask {f : Fl} {b : Rb} {c : Ca} (h : goodF f b c = true) : ∀ r, r ∈ f.rus → AskOk b c r.cds := by
  intro r hr x hx hk
  simp only [goodF, flB, Bool.and_eq_true, caB] at h
  have h1 := List.all_eq_true.1 h.1.1.2 r hr
  simp only [ruB, Bool.and_eq_true] at h1
  have h2 := List.all_eq_true.1 h1.2 x hx
  simp only [cdB, cdK, hk, Bool.and_eq_true] at h2
  simp only [okB, asksB, qnOf, secB, Bool.and_eq_true]
  refine ⟨h.1.2, ⟨⟨h.2.1.1.1.1, ?_⟩, h.2.1.1.2⟩, h.2.1.1.2⟩
  have := h2.2
  simp [isInB_iff] at this
  exact isInB_iff.2 (by omega)

theorem decF_eq {f : Fl} {b : Rb} {c : Ca} (h : goodF f b c = true) (hb : c.back = false) : (decF f b c).act = actOf b c f ∧ (decF f b c).rule = ruleOf b c f ∧ checkF f b c (decF f b c) = true ∧
    (∀ j, (hj : j < f.rus.length) → (hk : j < (decF f b c).fails.length) → mB b c f.rus[j] = false ∧ ∃ x, failK b c 0 f.rus[j].cds = some (((decF f b c).fails[j]).toNat, x) ∧ 0 ≤ (decF f b c).fails[j]) ∧
    ((decF f b c).rule = -1 → (decF f b c).fails.length = f.rus.length) ∧ ((decF f b c).rule ≠ -1 → ((decF f b c).fails.length : Int) = (decF f b c).rule ∧ (decF f b c).fails.length < f.rus.length) := by
  have hA := goodF_ask h
  obtain ⟨ks, ps, h0, h1, h2, h3⟩ := decGo_run (b := b) (c := c) (dfl := f.dfl) f.rus hA 0 [] []
  have hd : decF f b c = decGo b c f.dfl 0 [] [] f.rus := by unfold decF; rw [hb]; simp
  rcases h3 with ⟨g1, g2⟩ | ⟨g1, g2, g3⟩
  · have hn := rule_none (fun j hj hjn => (h2 j hj hjn).1) g1
    rw [hd, g2]
    refine ⟨by simp [actOf, hn], by simp [ruleOf, hn], ?_, ?_, fun _ => by simpa using g1, fun hh => absurd rfl hh⟩
    · unfold checkF
      have := h1 []
      rw [List.append_nil] at this
      simp [hb, g1, this]
    · simpa using h2
  · have hn := rule_at g1 (fun j hj hjn => (h2 j hj hjn).1) g2
    have hg : f.rus.getD ks.length default = f.rus[ks.length] := by rw [List.getD_eq_getElem?_getD, List.getElem?_eq_getElem g1, Option.getD_some]
    rw [hd, g3]
    refine ⟨by simp only [actOf, hn, hg], by simp [ruleOf, hn], ?_, ?_, fun hh => by simp at hh, fun _ => ⟨by simp, by simpa using g1⟩⟩
    · unfold checkF
      have e1 := h1 (f.rus[ks.length].cds.flatMap (prfsF b c))
      have e2 := takeAll_ok (hA _ (List.getElem_mem g1)) g2 []
      rw [List.append_nil] at e2
      have e3 : isInB ((ks.length : Nat) : Int) 0 ((f.rus.length : Int) - 1) = true := isInB_iff.2 (by omega)
      have e4 : ((ks.length : Nat) : Int) ≠ -1 := by omega
      simp only [hb, Bool.false_eq_true, if_false, Nat.zero_add, e4, List.nil_append, e3, Int.toNat_natCast, hg, e1, e2, decide_true, Bool.and_self]
    · simpa using h2

theorem check_same {f : Fl} {b : Rb} {c : Ca} (hb : c.back = false) {x : Dn} (hc : checkF f b c x = true) : x.act = actOf b c f ∧ x.rule = ruleOf b c f := by
  unfold checkF at hc
  rw [hb] at hc
  simp only [Bool.false_eq_true, if_false] at hc
  by_cases hr : x.rule = -1
  · simp only [hr, if_true, Bool.and_eq_true, decide_eq_true_eq] at hc
    obtain ⟨⟨h1, h2⟩, h3⟩ := hc
    have hn := rule_none (takeFails_sound h3) h1
    exact ⟨by simp [actOf, hn, h2], by simp [ruleOf, hn, hr]⟩
  · simp only [hr, if_false, Bool.and_eq_true, decide_eq_true_eq] at hc
    obtain ⟨⟨⟨h1, h2⟩, h3⟩, h4⟩ := hc
    rw [isInB_iff] at h1
    cases ht : takeFails b c f.rus x.fails x.prfs with
    | none => rw [ht] at h4; cases h4
    | some R =>
      rw [ht] at h4
      simp only [decide_eq_true_eq] at h4
      have hl : x.fails.length < f.rus.length := by omega
      have ht2 : x.rule.toNat = x.fails.length := by omega
      rw [ht2, List.getD_eq_getElem?_getD, List.getElem?_eq_getElem hl, Option.getD_some] at h3 h4
      have hn := rule_at hl (takeFails_sound ht) (takeAll_sound h4)
      have hg : f.rus.getD x.fails.length default = f.rus[x.fails.length] := by rw [List.getD_eq_getElem?_getD, List.getElem?_eq_getElem hl, Option.getD_some]
      exact ⟨by simp only [actOf, hn, h3, hg], by simp only [ruleOf, hn]; omega⟩

end Go.Proofs.YtkopnooajikpmaaGreat

/-
  What a decision claims, one claim after the other.
-/
namespace Go.Proofs.YtkopnooajikpmaaGreat

/-- A claim of a condition; or the sign that there is none. -/
structure Clm where
  x : Cd
  want : Bool
  ok : Bool
def noClm : Clm := ⟨⟨0, 0, 0, false⟩, false, false⟩
def claimsF : List Ru → List Int → List Clm → List Clm
  | r :: rs, k :: ks, E => if isInB k 0 (r.cds.length - 1) then ⟨r.cds.getD k.toNat default, false, true⟩ :: claimsF rs ks E else [noClm]
  | _, _, E => E
def claimsR (f : Fl) (rule : Int) : List Clm := if rule = -1 then [] else (f.rus.getD rule.toNat default).cds.map fun x => ⟨x, true, true⟩
def claimsL (f : Fl) (x : Dn) : List Clm := claimsF f.rus x.fails (claimsR f x.rule)
/-- The proofs that are left behind claims. -/
def runC (b : Rb) (c : Ca) : List Clm → List (List Fd) → Option (List (List Fd))
  | [], P => some P
  | m :: l, P => if m.ok then (match takeF b c m.x m.want P with
    | none => none
    | some R => runC b c l R) else none

theorem runC_all (b : Rb) (c : Ca) : ∀ (l : List Cd) (P : List (List Fd)), runC b c (l.map fun x => ⟨x, true, true⟩) P = takeAll b c l P
  | [], P => rfl
  | x :: l, P => by
    rw [List.map_cons, runC, takeAll]
    simp only [if_true]
    cases takeF b c x true P with
    | none => rfl
    | some R => exact runC_all b c l R
theorem runC_fails (b : Rb) (c : Ca) (E : List Clm) : ∀ (rs : List Ru) (ks : List Int) (P : List (List Fd)), runC b c (claimsF rs ks E) P = (match takeFails b c rs ks P with
    | none => none
    | some R => runC b c E R)
  | [], ks, P => by rw [claimsF, takeFails] <;> simp
  | r :: rs, [], P => by rw [claimsF, takeFails] <;> simp
  | r :: rs, k :: ks, P => by
    rw [claimsF, takeFails]
    cases isInB k 0 (r.cds.length - 1) with
    | false => rfl
    | true =>
      simp only [if_true]
      rw [runC]
      simp only [if_true]
      cases takeF b c (r.cds.getD k.toNat default) false P with
      | none => rfl
      | some R => exact runC_fails b c E rs ks R

/-- Check, in the words of its loop. -/
theorem checkF_run (f : Fl) (b : Rb) (c : Ca) (x : Dn) (hb : c.back = false) (hr : x.rule = -1 ∨ isInB x.rule 0 (f.rus.length - 1) = true) (hl : (x.fails.length : Int) = if x.rule = -1 then (f.rus.length : Int) else x.rule)
    (ha : x.act = if x.rule = -1 then f.dfl else (f.rus.getD x.rule.toNat default).act) : checkF f b c x = decide (runC b c (claimsL f x) x.prfs = some []) := by
  unfold checkF claimsL
  rw [hb, runC_fails]
  by_cases h1 : x.rule = -1
  · simp only [h1, if_true] at hl ha
    have hl2 : x.fails.length = f.rus.length := by omega
    simp only [Bool.false_eq_true, if_false, h1, if_true, hl2, ha, decide_true, Bool.true_and, claimsR]
    cases takeFails b c f.rus x.fails x.prfs with
    | none => rfl
    | some R => rfl
  · simp only [h1, if_false] at hl ha
    have h2 : isInB x.rule 0 (f.rus.length - 1) = true := hr.resolve_left h1
    simp only [Bool.false_eq_true, if_false, h1, h2, hl, ha, decide_true, Bool.true_and, claimsR, runC_all]
    cases takeFails b c f.rus x.fails x.prfs with
    | none => rfl
    | some R => rfl

end Go.Proofs.YtkopnooajikpmaaGreat

/-
  The plain law of chapter 8, further: what is out of question changes nothing; exceptions that are not so change nothing.
-/
namespace Go.Proofs.YtkopnooajikpmaaGreat

theorem pickN_ext {p p' : Nat → Bool} (n m : Nat) (h1 : ∀ i, i < n → p' i = p i) (h2 : ∀ i, n ≤ i → i < n + m → p' i = false) : pickN p' (n + m) = pickN p n := by
  unfold pickN
  congr 1
  rw [List.range_add, List.filter_append]
  have e1 : (List.range n).filter p' = (List.range n).filter p := List.filter_congr fun i hi => h1 i (by simpa using hi)
  have e2 : ((List.range m).map (n + ·)).filter p' = [] := by
    rw [List.filter_eq_nil_iff]
    intro i hi
    simp only [List.mem_map, List.mem_range] at hi
    obtain ⟨j, hj, rfl⟩ := hi
    rw [h2 (n + j) (by omega) (by omega)]
    simp
  rw [e1, e2, List.append_nil]
theorem pickN_congr {p p' : Nat → Bool} (n : Nat) (h1 : ∀ i, i < n → p' i = p i) : pickN p' n = pickN p n := by
  have := pickN_ext (p := p) (p' := p') n 0 h1 (by omega)
  simpa using this

theorem getD_left {α : Type} [Inhabited α] {l E : List α} {i : Nat} (h : i < l.length) : (l ++ E).getD i default = l.getD i default := by
  simp [List.getD_eq_getElem?_getD, List.getElem?_append_left h]
theorem getD_right {α : Type} [Inhabited α] {l E : List α} {i : Nat} (h : l.length ≤ i) (h2 : i < l.length + E.length) : (l ++ E).getD i default ∈ E := by
  rw [List.getD_eq_getElem?_getD, List.getElem?_append_right h, List.getElem?_eq_getElem (by omega)]
  simp

/-- Rules with more behind them, which is out of question. -/
structure PastExt (c c' : Rb) (q : Qn) : Prop where
  cls : ∃ E, c'.cls = c.cls ++ E ∧ ∀ x, x ∈ E → q.known < x.pub ∨ hasB x.f x.t q.at_ = false
  rps : ∃ E, c'.rps = c.rps ++ E ∧ ∀ r, r ∈ E → (q.known < r.pub ∨ q.at_ < r.frm)
  fas : ∃ E, c'.fas = c.fas ++ E ∧ ∀ x, x ∈ E → statesB x q = false

theorem PastExt.facts {c c' : Rb} {q : Qn} (h : PastExt c c' q) : factsOf c' q = factsOf c q := by
  obtain ⟨E, h1, h2⟩ := h.fas
  unfold factsOf
  rw [h1, List.length_append]
  refine pickN_ext _ _ (fun i hi => ?_) (fun i hi hi2 => ?_)
  · rw [getD_left hi]
  · exact h2 _ (getD_right hi hi2)
theorem PastExt.reps {c c' : Rb} {q : Qn} (h : PastExt c c' q) (i : Int) : c'.rps.any (repB i q) = c.rps.any (repB i q) := by
  obtain ⟨E, h1, h2⟩ := h.rps
  rw [h1, List.any_append]
  have : E.any (repB i q) = false := by
    rw [List.any_eq_false]
    intro r hr
    have := h2 r hr
    simp only [repB, Bool.and_eq_true, decide_eq_true_eq]
    omega
  rw [this, Bool.or_false]
theorem PastExt.clauses {c c' : Rb} {q : Qn} (h : PastExt c c' q) : clausesOf c' q = clausesOf c q := by
  obtain ⟨E, h1, h2⟩ := h.cls
  unfold clausesOf
  have key : ∀ i, rulesB c' q i = (let x := c'.cls.getD i default; decide (x.pub ≤ q.known) && hasB x.f x.t q.at_ && !c.rps.any (repB i q)) := fun i => by
    unfold rulesB
    rw [h.reps]
  rw [h1, List.length_append]
  refine pickN_ext _ _ (fun i hi => ?_) (fun i hi hi2 => ?_)
  · rw [key, h1, getD_left hi]
    rfl
  · rw [key, h1]
    have hx := h2 _ (getD_right hi hi2)
    generalize (c.cls ++ E).getD i default = x at hx
    rcases hx with hh | hh
    · have : ¬ x.pub ≤ q.known := by omega
      simp [this]
    · simp [hh]

section
variable {c c' : Rb} {fs cs : List Int}
theorem barredB_congr {l : List Fd} {i : Int} (h : c'.cl i = c.cl i) : barredB c' l i = barredB c l i := by
  unfold barredB; rw [h]
theorem rightB_congr (hf : ∀ i, i ∈ fs → (c'.fa i).says = (c.fa i).says) (hc : ∀ i, i ∈ cs → c'.cl i = c.cl i) (x : Fd) (l : List Fd) : rightB c' fs cs x l = rightB c fs cs x l := by
  unfold rightB
  split
  · by_cases hm : x.fact ∈ fs
    · rw [hf _ hm]
    · simp [hm]
  · split
    · by_cases hm : x.cl ∈ cs
      · rw [hc _ hm]
      · simp [hm]
    · rw [any_congr' (l := fs) (fun i hi => by rw [hf i hi]), any_congr' (l := cs) (fun i hi => by rw [hc i hi, barredB_congr (hc i hi)])]
theorem provesGo_congr (hf : ∀ i, i ∈ fs → (c'.fa i).says = (c.fa i).says) (hc : ∀ i, i ∈ cs → c'.cl i = c.cl i) (l : List Fd) : ∀ (r : List Fd) (last : Int), provesGo c' fs cs l last r = provesGo c fs cs l last r
  | [], _ => rfl
  | x :: r, last => by
    simp only [provesGo]
    rw [rightB_congr hf hc, provesGo_congr hf hc l r]
theorem provesB_congr (hf : ∀ i, i ∈ fs → (c'.fa i).says = (c.fa i).says) (hc : ∀ i, i ∈ cs → c'.cl i = c.cl i) (n : Int) (h : Bool) (l : List Fd) : provesB c' fs cs n h l = provesB c fs cs n h l := by
  unfold provesB
  rw [provesGo_congr hf hc]

/-- What is so is the one thing that the rules say of itself. -/
theorem soB_unique (hG : Good c fs cs) {so : Int → Bool} (h : ∀ n, 0 ≤ n → so n = (fs.any (fun i => decide ((c.fa i).says = n)) || cs.any (givesB c so n))) : ∀ n, 0 ≤ n → soB c fs cs n = so n := by
  have key : ∀ (k : Nat) (j : Nat), j < k → soB c fs cs j = so j := by
    intro k
    induction k with
    | zero => intro j hj; omega
    | succ k ih =>
      intro j hj
      rw [soB_eq hG j (by omega), h j (by omega)]
      rw [any_congr' (l := cs) (fun i hi => givesB_congr hG hi (so' := so) fun m h1 h2 => ?_)]
      obtain ⟨i', rfl⟩ := Int.eq_ofNat_of_zero_le h1
      exact ih i' (by omega)
  intro n hn
  obtain ⟨k, rfl⟩ := Int.eq_ofNat_of_zero_le hn
  exact key (k + 1) k (by omega)
end

theorem PastExt.fa {c c' : Rb} {q : Qn} (h : PastExt c c' q) : ∀ i, i ∈ factsOf c q → (c'.fa i).says = (c.fa i).says := fun i hi => by
  obtain ⟨j, hj, _, rfl⟩ := pickN_mem.1 hi
  obtain ⟨E, h1, _⟩ := h.fas
  simp only [Rb.fa, Int.toNat_natCast, h1, getD_left hj]
theorem PastExt.cl {c c' : Rb} {q : Qn} (h : PastExt c c' q) : ∀ i, i ∈ clausesOf c q → c'.cl i = c.cl i := fun i hi => by
  obtain ⟨j, hj, _, rfl⟩ := pickN_mem.1 hi
  obtain ⟨E, h1, _⟩ := h.cls
  simp only [Rb.cl, Int.toNat_natCast, h1, getD_left hj]
theorem PastExt.check {c c' : Rb} {q : Qn} (h : PastExt c c' q) (h1 : okB c q = true) (h2 : okB c' q = true) (a : Bool) (l : List Fd) : checkB c' q a l = checkB c q a l := by
  unfold checkB
  rw [h1, h2, h.facts, h.clauses, provesB_congr h.fa h.cl]
theorem PastExt.decided {c c' : Rb} {q : Qn} (h : PastExt c c' q) (h1 : okB c q = true) (h2 : okB c' q = true) : decideA c' q = decideA c q := by
  have h3 := decide_checks h1
  rw [← h.check h1 h2] at h3
  exact (check_one h3).symm

/-- Further needs that are so, further bars that are not so: of one clause. -/
structure ExcExt (so : Int → Bool) (c c' : Rb) : Prop where
  len : c'.cls.length = c.cls.length
  rps : c'.rps = c.rps
  fas : c'.fas = c.fas
  pub : ∀ i, (c'.cls.getD i default).pub = (c.cls.getD i default).pub
  f : ∀ i, (c'.cls.getD i default).f = (c.cls.getD i default).f
  t : ∀ i, (c'.cls.getD i default).t = (c.cls.getD i default).t
  gives : ∀ i, (c'.cls.getD i default).gives = (c.cls.getD i default).gives
  needs : ∀ i, (c'.cls.getD i default).needs.all so = (c.cls.getD i default).needs.all so
  bars : ∀ i, (c'.cls.getD i default).bars.any so = (c.cls.getD i default).bars.any so

theorem ExcExt.facts {so : Int → Bool} {c c' : Rb} (h : ExcExt so c c') (q : Qn) : factsOf c' q = factsOf c q := by
  unfold factsOf; rw [h.fas]
theorem ExcExt.clauses {so : Int → Bool} {c c' : Rb} (h : ExcExt so c c') (q : Qn) : clausesOf c' q = clausesOf c q := by
  unfold clausesOf
  rw [h.len]
  refine pickN_congr _ fun i _ => ?_
  unfold rulesB
  simp only [h.pub, h.f, h.t, h.rps]
theorem ExcExt.decided {c c' : Rb} {q : Qn} (h : ExcExt (soB c (factsOf c q) (clausesOf c q)) c c') (h1 : okB c q = true) (h2 : okB c' q = true) : decideA c' q = decideA c q := by
  have v1 : validB c = true := by simp only [okB, Bool.and_eq_true] at h1; exact h1.1
  have v2 : validB c' = true := by simp only [okB, Bool.and_eq_true] at h2; exact h2.1
  have ha : 0 ≤ q.says := by
    simp only [okB, asksB, Bool.and_eq_true, isInB_iff] at h1; exact h1.2.1.1.2.1
  unfold decideA
  rw [h.facts, h.clauses]
  have g2 := good_of_valid (q := q) v2
  rw [h.facts, h.clauses] at g2
  refine soB_unique g2 (fun n hn => ?_) _ ha
  rw [soB_eq (good_of_valid v1) n hn]
  congr 1
  · refine any_congr' fun i _ => ?_
    simp only [Rb.fa, h.fas]
    rfl
  · refine any_congr' fun i _ => ?_
    unfold givesB
    simp only [Rb.cl, h.gives, h.needs, h.bars]
    rfl

end Go.Proofs.YtkopnooajikpmaaGreat

/-
  The plain law of chapter 26: what changes nothing.
-/
namespace Go.Proofs.YtkopnooajikpmaaGreat

theorem failK_congr {b b' : Rb} {c c' : Ca} : ∀ {l : List Cd} {k : Nat}, (∀ x, x ∈ l → holdsF b c x = holdsF b' c' x) → failK b c k l = failK b' c' k l
  | [], _, _ => rfl
  | x :: l, k, h => by
    rw [failK, failK, h x (by simp), failK_congr fun y hy => h y (by simp [hy])]
theorem prfsF_none {b : Rb} {c : Ca} {x : Cd} (h : x.kind ≠ 5) : prfsF b c x = [] := by unfold prfsF; rw [if_neg h]
theorem prfsF_nones {b : Rb} {c : Ca} : ∀ {l : List Cd}, (∀ x, x ∈ l → x.kind ≠ 5) → l.flatMap (prfsF b c) = []
  | [], _ => rfl
  | x :: l, h => by rw [List.flatMap_cons, prfsF_none (h x (by simp)), prfsF_nones fun y hy => h y (by simp [hy])]; rfl

/-- No condition of the filter asks the rulebook. -/
def Mute (f : Fl) : Prop := ∀ r, r ∈ f.rus → ∀ x, x ∈ r.cds → x.kind ≠ 5
theorem holds_days {b : Rb} {c c' : Ca} {x : Cd} (h1 : c.caller = c'.caller) (h2 : c.level = c'.level) (h3 : c.fwd = c'.fwd) (h4 : c.at_ % 86400 = c'.at_ % 86400) (hx : x.kind ≠ 5) : holdsF b c x = holdsF b c' x := by
  unfold holdsF
  rw [if_neg hx, if_neg hx]
  unfold plainB plainK
  rw [h1, h2, h3, h4]
theorem decGo_days {b : Rb} {c c' : Ca} (h1 : c.caller = c'.caller) (h2 : c.level = c'.level) (h3 : c.fwd = c'.fwd) (h4 : c.at_ % 86400 = c'.at_ % 86400) {dfl : Int} :
    ∀ (l : List Ru) (i : Nat) (F : List Int) (P : List (List Fd)), (∀ r, r ∈ l → ∀ x, x ∈ r.cds → x.kind ≠ 5) → decGo b c dfl i F P l = decGo b c' dfl i F P l ∧ (decGo b c dfl i F P l).prfs = P
  | [], _, _, _, _ => ⟨rfl, rfl⟩
  | r :: l, i, F, P, h => by
    have hf := failK_congr (l := r.cds) (k := 0) fun x hx => holds_days (b := b) h1 h2 h3 h4 (h r (by simp) x hx)
    rw [decGo, decGo, hf]
    cases hk : failK b c' 0 r.cds with
    | none =>
      simp only
      rw [prfsF_nones (h r (by simp)), prfsF_nones (h r (by simp)), List.append_nil]
      exact ⟨rfl, rfl⟩
    | some p =>
      obtain ⟨j, hj, _, e2, _⟩ := fail_some hk
      have hp : p.2.kind ≠ 5 := h r (by simp) p.2 (by rw [← e2]; exact List.getElem_mem hj)
      simp only
      rw [prfsF_none hp, prfsF_none hp, List.append_nil]
      exact decGo_days h1 h2 h3 h4 l _ _ _ fun r hr => h r (by simp [hr])
theorem decF_days {f : Fl} {b : Rb} {c c' : Ca} (h1 : c.caller = c'.caller) (h2 : c.level = c'.level) (h3 : c.fwd = c'.fwd) (h4 : c.at_ % 86400 = c'.at_ % 86400) (h5 : c.back = false) (h6 : c'.back = false) (h : Mute f) : decF f b c = decF f b c' ∧ (decF f b c).prfs = [] := by
  unfold decF
  rw [h5, h6]
  exact decGo_days h1 h2 h3 h4 f.rus 0 [] [] h

section
variable {b : Rb} {c : Ca}
theorem act_at {f : Fl} {A B : List Ru} {r : Ru} (h : f.rus = A ++ r :: B) (hA : ∀ x, x ∈ A → mB b c x = false) (hm : mB b c r = true) : actOf b c f = r.act := by
  have hn : f.rus.findIdx? (mB b c) = some A.length := by
    refine rule_at (by rw [h]; simp) (fun j hj hjn => ?_) (by simp [h, hm])
    have : f.rus[j] = A[j] := by simp [h, List.getElem_append_left hjn]
    rw [this]
    exact hA _ (List.getElem_mem hjn)
  unfold actOf
  rw [hn, h]
  simp [List.getD_eq_getElem?_getD]
theorem act_none {f : Fl} (h : ∀ x, x ∈ f.rus → mB b c x = false) : actOf b c f = f.dfl := by
  have hn : f.rus.findIdx? (mB b c) = none := by
    rw [List.findIdx?_eq_none_iff]
    exact h
  unfold actOf
  rw [hn]
/-- The rule that a decision names. -/
theorem rule_some {f : Fl} (h : ruleOf b c f ≠ -1) : ∃ j, ∃ hj : j < f.rus.length, ruleOf b c f = j ∧ mB b c f.rus[j] = true ∧ actOf b c f = f.rus[j].act ∧ ∀ i, (hi : i < j) → mB b c (f.rus[i]'(Nat.lt_trans hi hj)) = false := by
  unfold ruleOf at h
  cases hf : f.rus.findIdx? (mB b c) with
  | none => rw [hf] at h; exact absurd rfl h
  | some j =>
    rw [List.findIdx?_eq_some_iff_getElem] at hf
    obtain ⟨hj, h1, h2⟩ := hf
    have hf2 := rule_at hj (fun i hi hij => by have := h2 i hij; simpa using this) h1
    refine ⟨j, hj, by unfold ruleOf; rw [hf2], h1, ?_, fun i hi => by have := h2 i hi; simpa using this⟩
    unfold actOf
    rw [hf2]
    simp [List.getD_eq_getElem?_getD, hj]
theorem rule_none' {f : Fl} (h : ruleOf b c f = -1) : (∀ x, x ∈ f.rus → mB b c x = false) ∧ actOf b c f = f.dfl := by
  unfold ruleOf at h
  cases hf : f.rus.findIdx? (mB b c) with
  | none =>
    refine ⟨?_, by unfold actOf; rw [hf]⟩
    rwa [List.findIdx?_eq_none_iff] at hf
  | some j => rw [hf] at h; simp only at h; omega
end
/-- Rules that match alike decide alike. -/
theorem actRule_congr {f : Fl} {b b' : Rb} {c : Ca} (h : ∀ r, r ∈ f.rus → mB b c r = mB b' c r) : actOf b c f = actOf b' c f ∧ ruleOf b c f = ruleOf b' c f := by
  have hf : f.rus.findIdx? (mB b c) = f.rus.findIdx? (mB b' c) := by
    generalize f.rus = l at h
    induction l with
    | nil => rfl
    | cons x l ih => rw [List.findIdx?_cons, List.findIdx?_cons, h x (by simp), ih fun r hr => h r (by simp [hr])]
  unfold actOf ruleOf
  rw [hf]
  exact ⟨rfl, rfl⟩
theorem known_same {f : Fl} {b b' : Rb} {c : Ca} (g : goodF f b c = true) (g' : goodF f b' c = true) (h : ∀ x, PastExt b b' (qnOf c x)) : actOf b c f = actOf b' c f ∧ ruleOf b c f = ruleOf b' c f := by
  refine actRule_congr fun r hr => ?_
  unfold mB
  have a1 := goodF_ask g r hr
  have a2 := goodF_ask g' r hr
  have key : ∀ x, x ∈ r.cds → holdsF b c x = holdsF b' c x := fun x hx => by
    unfold holdsF
    split
    · next hk => rw [(h x).decided (a1 x hx hk) (a2 x hx hk)]
    · rfl
  clear a1 a2 hr
  generalize r.cds = l at key
  induction l with
  | nil => rfl
  | cons x l ih => rw [List.all_cons, List.all_cons, key x (by simp), ih fun y hy => key y (by simp [hy])]

end Go.Proofs.YtkopnooajikpmaaGreat
