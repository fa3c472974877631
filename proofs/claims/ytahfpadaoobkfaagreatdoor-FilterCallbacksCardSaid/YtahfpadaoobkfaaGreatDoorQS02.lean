/-
  The plain model of chapter 8: rules, questions, findings; what is so; which lists prove an answer.
-/
import Derived.WalkKit
import Derived.Test.YtahfpadaoobkfaaGreatDoorQS01
import Derived.Test.YtahfpadaoobkfaaGreatDoorRows
import Derived.ProofKit
import Derived.Deep.WholeRow
namespace Go.Proofs.YtahfpadaoobkfaaGreatDoor

structure Cl where
  pub : Int
  f : Int
  t : Int
  needs : List Int
  bars : List Int
  gives : Int
structure Rp where
  cl : Int
  pub : Int
  frm : Int
structure Fa where
  thing : Int
  says : Int
  f : Int
  t : Int
  kf : Int
  kt : Int
structure Rb where
  cls : List Cl
  rps : List Rp
  fas : List Fa
structure Qn where
  thing : Int
  says : Int
  at_ : Int
  known : Int
structure Fd where
  says : Int
  holds : Bool
  fact : Int
  cl : Int
deriving DecidableEq

instance : Inhabited Cl := ⟨⟨0, 0, 0, [], [], 0⟩⟩
instance : Inhabited Rp := ⟨⟨0, 0, 0⟩⟩
instance : Inhabited Fa := ⟨⟨0, 0, 0, 0, 0, 0⟩⟩
instance : Inhabited Fd := ⟨⟨0, false, 0, 0⟩⟩

def isInB (n low high : Int) : Bool := decide (low ≤ n) && decide (n ≤ high)
def secB (n : Int) : Bool := isInB n 0 10000000
def spellB (f t : Int) : Bool := secB f && isInB t (f + 1) 10000001
def hasB (f t s : Int) : Bool := isInB s f (t - 1)

/-- Strictly ascending from behind 'last' on, below 'below'. -/
def ascGo (below : Int) : Int → List Int → Bool
  | _, [] => true
  | last, n :: l => isInB n (last + 1) (below - 1) && ascGo below n l
def ascB (l : List Int) (below : Int) : Bool := decide (l.length ≤ 4) && ascGo below (-1) l

def clB (x : Cl) : Bool := secB x.pub && spellB x.f x.t && isInB x.gives 0 19 && ascB x.needs x.gives && ascB x.bars x.gives
def rpB (n : Nat) (x : Rp) : Bool := isInB x.cl 0 (n - 1) && secB x.pub && secB x.frm
def faB (x : Fa) : Bool := isInB x.thing 0 99999999 && isInB x.says 0 19 && spellB x.f x.t && spellB x.kf x.kt
def validB (c : Rb) : Bool := decide (c.cls.length ≤ 20) && decide (c.rps.length ≤ 10) && decide (c.fas.length ≤ 20) && c.cls.all clB && c.rps.all (rpB c.cls.length) && c.fas.all faB
def asksB (q : Qn) : Bool := isInB q.thing 0 99999999 && isInB q.says 0 19 && secB q.at_ && secB q.known

def statesB (x : Fa) (q : Qn) : Bool := decide (x.thing = q.thing) && hasB x.f x.t q.at_ && hasB x.kf x.kt q.known
def repB (i : Int) (q : Qn) (r : Rp) : Bool := decide (r.cl = i) && decide (r.pub ≤ q.known) && decide (r.frm ≤ q.at_)
def rulesB (c : Rb) (q : Qn) (i : Nat) : Bool :=
  let x := c.cls.getD i default
  decide (x.pub ≤ q.known) && hasB x.f x.t q.at_ && !c.rps.any (repB i q)

/-- The numbers below n that meet p. -/
def pickN (p : Nat → Bool) (n : Nat) : List Int := ((List.range n).filter p).map fun (i : Nat) => (i : Int)
def factsOf (c : Rb) (q : Qn) : List Int := pickN (fun i => statesB (c.fas.getD i default) q) c.fas.length
def clausesOf (c : Rb) (q : Qn) : List Int := pickN (rulesB c q) c.cls.length

def Rb.fa (c : Rb) (i : Int) : Fa := c.fas.getD i.toNat default
def Rb.cl (c : Rb) (i : Int) : Cl := c.cls.getD i.toNat default

/-- Does a clause give n, all its needs so, and none of its bars? -/
def givesB (c : Rb) (so : Int → Bool) (n : Int) (i : Int) : Bool := decide ((c.cl i).gives = n) && (c.cl i).needs.all so && !(c.cl i).bars.any so
def findW (c : Rb) (fs cs : List Int) (so : Int → Bool) (n : Int) : Fd :=
  match fs.find? (fun i => decide ((c.fa i).says = n)) with
  | some i => ⟨n, true, i, -1⟩
  | none => match cs.find? (givesB c so n) with
    | some i => ⟨n, true, -1, i⟩
    | none => ⟨n, false, -1, -1⟩

/-- The findings about 0, .. , k - 1. -/
def fdTo (c : Rb) (fs cs : List Int) : Nat → List Fd
  | 0 => []
  | k + 1 => fdTo c fs cs k ++ [findW c fs cs (fun i => ((fdTo c fs cs k).getD i.toNat default).holds) k]
def fdOf (c : Rb) (fs cs : List Int) (n : Int) : Fd := (fdTo c fs cs (n.toNat + 1)).getD n.toNat default
def soB (c : Rb) (fs cs : List Int) (n : Int) : Bool := (fdOf c fs cs n).holds

def findsB (l : List Fd) (n : Int) (h : Bool) : Bool := l.any fun y => decide (y.says = n) && y.holds == h
def barredB (c : Rb) (l : List Fd) (i : Int) : Bool := (c.cl i).needs.any (fun n => findsB l n false) || (c.cl i).bars.any (fun n => findsB l n true)
def rightB (c : Rb) (fs cs : List Int) (x : Fd) (l : List Fd) : Bool :=
  if x.holds && decide (x.cl = -1) then fs.contains x.fact && decide ((c.fa x.fact).says = x.says)
  else if x.holds then
    decide (x.fact = -1) && cs.contains x.cl && decide ((c.cl x.cl).gives = x.says) && (c.cl x.cl).needs.all (fun n => findsB l n true) && (c.cl x.cl).bars.all (fun n => findsB l n false)
  else decide (x.fact = -1) && decide (x.cl = -1) && !fs.any (fun i => decide ((c.fa i).says = x.says)) && !cs.any (fun i => decide ((c.cl i).gives = x.says) && !barredB c l i)

/-- Are the findings of the list ascending from behind 'last' on, and right in l? -/
def provesGo (c : Rb) (fs cs : List Int) (l : List Fd) : Int → List Fd → Bool
  | _, [] => true
  | last, x :: r => isInB x.says (last + 1) 19 && rightB c fs cs x l && provesGo c fs cs l x.says r
def lastOf (l : List Fd) : Int := (l.getLast?.map (·.says)).getD (-1)
def provesB (c : Rb) (fs cs : List Int) (n : Int) (h : Bool) (l : List Fd) : Bool :=
  provesGo c fs cs l (-1) l && decide (l ≠ []) && decide (lastOf l = n) && ((l.getLast?.map (·.holds)).getD false == h)

/-- Decide's last loop: what can be left out is left out, from the k-th finding down. -/
def prune (c : Rb) (fs cs : List Int) (n : Int) (h : Bool) : Nat → List Fd → List Fd
  | 0, l => l
  | k + 1, l => prune c fs cs n h k (if provesB c fs cs n h (l.eraseIdx k) then l.eraseIdx k else l)

def decideL (c : Rb) (q : Qn) : List Fd :=
  let fs := factsOf c q
  let cs := clausesOf c q
  prune c fs cs q.says (soB c fs cs q.says) q.says.toNat (fdTo c fs cs (q.says.toNat + 1))
def decideA (c : Rb) (q : Qn) : Bool := soB c (factsOf c q) (clausesOf c q) q.says
def okB (c : Rb) (q : Qn) : Bool := validB c && asksB q
def checkB (c : Rb) (q : Qn) (h : Bool) (l : List Fd) : Bool := okB c q && provesB c (factsOf c q) (clausesOf c q) q.says h l

/-- A number into an ascending list. -/
def insI : List Int → Int → List Int
  | [], x => [x]
  | y :: l, x => if x < y then x :: y :: l else if x = y then y :: l else y :: insI l x
def useF (l : List Fd) : List Int := l.foldl (fun a x => if 0 ≤ x.fact then insI a x.fact else a) []
def useC (c : Rb) (cs : List Int) (l : List Fd) : List Int := l.foldl (fun a x => if 0 ≤ x.fact then a else if 0 ≤ x.cl then insI a x.cl else cs.foldl (fun a i => if (c.cl i).gives = x.says then insI a i else a) a) []
def usesB (c : Rb) (q : Qn) (l : List Fd) : Bool := checkB c q true l || checkB c q false l

end Go.Proofs.YtahfpadaoobkfaaGreatDoor

/-
  The plain law of chapter 8: a list that proves an answer proves the right one; the full list of findings is a proof; nothing of what is left can be left out.
-/
namespace Go.Proofs.YtahfpadaoobkfaaGreatDoor

theorem isInB_iff {n lo hi : Int} : isInB n lo hi = true ↔ lo ≤ n ∧ n ≤ hi := by simp [isInB]

section
variable {c : Rb} {fs cs : List Int}

/-- What is asked of the clauses and facts that apply. -/
structure Good (c : Rb) (fs cs : List Int) : Prop where
  terms : ∀ i, i ∈ cs → ∀ m, m ∈ (c.cl i).needs ∨ m ∈ (c.cl i).bars → 0 ≤ m ∧ m < (c.cl i).gives
  fnn : ∀ i, i ∈ fs → 0 ≤ i
  cnn : ∀ i, i ∈ cs → 0 ≤ i

theorem fdTo_length (k : Nat) : (fdTo c fs cs k).length = k := by
  induction k with
  | zero => rfl
  | succ k ih => simp [fdTo, ih]
theorem fdTo_get : ∀ (k j : Nat), j < k → (fdTo c fs cs k).getD j default = findW c fs cs (fun i => ((fdTo c fs cs j).getD i.toNat default).holds) j := by
  intro k
  induction k with
  | zero => intro j h; omega
  | succ k ih =>
    intro j h
    rcases Nat.lt_or_ge j k with h1 | h1
    · rw [← ih j h1]
      simp only [fdTo, List.getD_eq_getElem?_getD]
      rw [List.getElem?_append_left (by rw [fdTo_length]; exact h1)]
    · have : j = k := by omega
      subst this
      simp only [fdTo, List.getD_eq_getElem?_getD]
      rw [List.getElem?_append_right (by rw [fdTo_length]; exact Nat.le_refl _), fdTo_length]
      simp
theorem fdTo_of (k j : Nat) (h : j < k) : (fdTo c fs cs k).getD j default = fdOf c fs cs j := by
  rw [fdTo_get k j h, fdOf, Int.toNat_natCast, fdTo_get (j + 1) j (by omega)]

theorem findW_says (so : Int → Bool) (n : Int) : (findW c fs cs so n).says = n := by
  unfold findW; split
  · rfl
  · split <;> rfl
theorem findW_holds (so : Int → Bool) (n : Int) : (findW c fs cs so n).holds = (fs.any (fun i => decide ((c.fa i).says = n)) || cs.any (givesB c so n)) := by
  unfold findW
  split
  · rename_i i h
    have := List.find?_some h
    have hm := List.mem_of_find?_eq_some h
    rw [show fs.any (fun i => decide ((c.fa i).says = n)) = true from List.any_eq_true.2 ⟨i, hm, this⟩]
    rfl
  · rename_i h
    rw [show fs.any (fun i => decide ((c.fa i).says = n)) = false by rw [List.any_eq_false]; exact List.find?_eq_none.1 h]
    split
    · rename_i i h2
      have := List.find?_some h2
      have hm := List.mem_of_find?_eq_some h2
      rw [show cs.any (givesB c so n) = true from List.any_eq_true.2 ⟨i, hm, this⟩]
      rfl
    · rename_i h2
      rw [show cs.any (givesB c so n) = false by rw [List.any_eq_false]; exact List.find?_eq_none.1 h2]
      rfl

theorem all_congr' {l : List Int} {p q : Int → Bool} (h : ∀ x, x ∈ l → p x = q x) : l.all p = l.all q := by
  induction l with
  | nil => rfl
  | cons a l ih => simp only [List.all_cons, h a (by simp), ih (fun x hx => h x (by simp [hx]))]
theorem any_congr' {l : List Int} {p q : Int → Bool} (h : ∀ x, x ∈ l → p x = q x) : l.any p = l.any q := by
  induction l with
  | nil => rfl
  | cons a l ih => simp only [List.any_cons, h a (by simp), ih (fun x hx => h x (by simp [hx]))]
theorem find_congr' {l : List Int} {p q : Int → Bool} (h : ∀ x, x ∈ l → p x = q x) : l.find? p = l.find? q := by
  induction l with
  | nil => rfl
  | cons a l ih => simp only [List.find?_cons, h a (by simp), ih (fun x hx => h x (by simp [hx]))]

theorem givesB_congr (hG : Good c fs cs) {so so' : Int → Bool} {n i : Int} (hi : i ∈ cs) (h : ∀ m, 0 ≤ m → m < n → so m = so' m) : givesB c so n i = givesB c so' n i := by
  unfold givesB
  by_cases hg : (c.cl i).gives = n
  · rw [all_congr' (fun m hm => h m (hG.terms i hi m (.inl hm)).1 (by have := (hG.terms i hi m (.inl hm)).2; omega)), any_congr' (fun m hm => h m (hG.terms i hi m (.inr hm)).1 (by have := (hG.terms i hi m (.inr hm)).2; omega))]
  · simp [hg]
theorem findW_congr (hG : Good c fs cs) {so so' : Int → Bool} {n : Int} (h : ∀ m, 0 ≤ m → m < n → so m = so' m) : findW c fs cs so n = findW c fs cs so' n := by
  unfold findW
  rw [find_congr' (l := cs) (fun i hi => givesB_congr hG hi h)]

/-- What is so is what the rules say of what is so. -/
theorem fdOf_eq (hG : Good c fs cs) (n : Int) (hn : 0 ≤ n) : fdOf c fs cs n = findW c fs cs (soB c fs cs) n := by
  obtain ⟨k, rfl⟩ := Int.eq_ofNat_of_zero_le hn
  rw [fdOf, Int.toNat_natCast, fdTo_get (k + 1) k (by omega)]
  refine findW_congr hG fun m h1 h2 => ?_
  obtain ⟨j, rfl⟩ := Int.eq_ofNat_of_zero_le h1
  rw [Int.toNat_natCast, fdTo_of k j (by omega)]
  rfl
theorem soB_eq (hG : Good c fs cs) (n : Int) (hn : 0 ≤ n) : soB c fs cs n = (fs.any (fun i => decide ((c.fa i).says = n)) || cs.any (givesB c (soB c fs cs) n)) := by
  rw [← findW_holds, ← fdOf_eq hG n hn]
  rfl
theorem fdOf_says (n : Int) (hn : 0 ≤ n) : (fdOf c fs cs n).says = n := by
  obtain ⟨k, rfl⟩ := Int.eq_ofNat_of_zero_le hn
  rw [fdOf, Int.toNat_natCast, fdTo_get (k + 1) k (by omega), findW_says]

theorem provesGo_all {l : List Fd} : ∀ {r : List Fd} {last : Int}, provesGo c fs cs l last r = true → ∀ x, x ∈ r → last < x.says ∧ x.says ≤ 19 ∧ rightB c fs cs x l = true
  | [], _, _, x, hx => by simp at hx
  | y :: r, last, h, x, hx => by
    simp only [provesGo, Bool.and_eq_true, isInB_iff] at h
    rcases List.mem_cons.1 hx with rfl | hx
    · exact ⟨by omega, h.1.1.2, h.1.2⟩
    · have := provesGo_all h.2 x hx
      exact ⟨by omega, this.2⟩
theorem provesGo_mk {l : List Fd} : ∀ {r : List Fd} {last : Int}, r.Pairwise (fun a b => a.says < b.says) → (∀ x, x ∈ r → last < x.says ∧ x.says ≤ 19 ∧ rightB c fs cs x l = true) → provesGo c fs cs l last r = true
  | [], _, _, _ => rfl
  | y :: r, last, hp, h => by
    have hy := h y (by simp)
    have hp := List.pairwise_cons.1 hp
    simp only [provesGo, Bool.and_eq_true, isInB_iff]
    exact ⟨⟨⟨by omega, hy.2.1⟩, hy.2.2⟩, provesGo_mk hp.2 fun x hx => ⟨hp.1 x hx, (h x (by simp [hx])).2⟩⟩

theorem findsB_iff {l : List Fd} {n : Int} {h : Bool} : findsB l n h = true ↔ ∃ y, y ∈ l ∧ y.says = n ∧ y.holds = h := by
  simp [findsB]

/-- SOUND: what a list of right findings says is so. -/
theorem right_so (hG : Good c fs cs) {l : List Fd} (h : provesGo c fs cs l (-1) l = true) : ∀ (k : Nat) (x : Fd), x ∈ l → x.says = k → x.holds = soB c fs cs x.says := by
  intro k
  induction k using Nat.strongRecOn with
  | ind k ih =>
    intro x hx hk
    have hall := provesGo_all h
    obtain ⟨_, _, hr⟩ := hall x hx
    have key : ∀ m b, 0 ≤ m → m < x.says → findsB l m b = true → soB c fs cs m = b := by
      intro m b h0 h1 hf
      obtain ⟨y, hy, h2, h3⟩ := findsB_iff.1 hf
      have := ih m.toNat (by omega) y hy (by omega)
      rw [← h3, this, h2]
    have hn0 : 0 ≤ x.says := by omega
    rw [soB_eq hG x.says hn0]
    unfold rightB at hr
    split at hr
    · rename_i h1
      simp only [Bool.and_eq_true, decide_eq_true_eq] at h1 hr
      rw [h1.1, show fs.any (fun i => decide ((c.fa i).says = x.says)) = true from List.any_eq_true.2 ⟨x.fact, by simpa using hr.1, by simpa using hr.2⟩]
      rfl
    · split at hr
      · rename_i h1 h2
        simp only [Bool.and_eq_true, decide_eq_true_eq, List.contains_iff_mem] at hr
        obtain ⟨⟨⟨⟨h3, h4⟩, h5⟩, h6⟩, h7⟩ := hr
        have ht := hG.terms x.cl h4
        rw [h2, show cs.any (givesB c (soB c fs cs) x.says) = true from List.any_eq_true.2 ⟨x.cl, h4, ?_⟩]
        · simp
        · simp only [givesB, h5, decide_true, Bool.true_and, Bool.and_eq_true, Bool.not_eq_true']
          refine ⟨List.all_eq_true.2 fun m hm => ?_, List.any_eq_false.2 fun m hm => ?_⟩
          · have := ht m (.inl hm)
            exact key m true this.1 (by omega) (List.all_eq_true.1 h6 m hm)
          · have := ht m (.inr hm)
            rw [key m false this.1 (by omega) (List.all_eq_true.1 h7 m hm)]
            simp
      · rename_i h1 h2
        simp only [Bool.and_eq_true, decide_eq_true_eq, Bool.not_eq_true'] at hr
        obtain ⟨⟨⟨h3, h4⟩, h5⟩, h6⟩ := hr
        have hh : x.holds = false := by simpa using h2
        rw [hh, h5]
        symm
        rw [Bool.false_or, List.any_eq_false]
        intro i hi hg
        simp only [givesB, Bool.and_eq_true, decide_eq_true_eq, Bool.not_eq_true'] at hg
        obtain ⟨⟨hg1, hg2⟩, hg3⟩ := hg
        have h7 := List.any_eq_false.1 h6 i hi
        simp only [hg1, decide_true, Bool.true_and, Bool.not_eq_true', Bool.not_eq_false] at h7
        have ht := hG.terms i hi
        simp only [barredB, Bool.or_eq_true, List.any_eq_true] at h7
        rcases h7 with ⟨m, hm, hf⟩ | ⟨m, hm, hf⟩
        · have hb := ht m (.inl hm)
          have h8 := key m false hb.1 (by omega) hf
          have h9 := List.all_eq_true.1 hg2 m hm
          rw [h8] at h9
          cases h9
        · have hb := ht m (.inr hm)
          have h8 := key m true hb.1 (by omega) hf
          have h9 := List.any_eq_false.1 hg3 m hm
          rw [h8] at h9
          exact h9 rfl

theorem getLast_mem' {l : List Fd} {x : Fd} (h : l.getLast? = some x) : x ∈ l := List.mem_of_getLast? h

theorem proves_so (hG : Good c fs cs) {n : Int} {h : Bool} {l : List Fd} (hp : provesB c fs cs n h l = true) : h = soB c fs cs n := by
  unfold provesB at hp
  simp only [Bool.and_eq_true, decide_eq_true_eq] at hp
  obtain ⟨⟨⟨h1, h2⟩, h3⟩, h4⟩ := hp
  cases hl : l.getLast? with
  | none => rw [List.getLast?_eq_none_iff] at hl; exact absurd hl h2
  | some x =>
    have hx := getLast_mem' hl
    have h0 := (provesGo_all h1 x hx).1
    have := right_so hG h1 x.says.toNat x hx (by omega)
    simp only [lastOf, hl, Option.map_some, Option.getD_some] at h3 h4
    have h5 : x.holds = h := by simpa using h4
    rw [← h5, this, h3]

/-- COMPLETE: each finding is right among those of the lesser numbers. -/
theorem fd_right (hG : Good c fs cs) (k : Nat) {l : List Fd} (hs : ∀ j : Nat, j < k → fdOf c fs cs j ∈ l) : rightB c fs cs (fdOf c fs cs k) l = true := by
  have hfin : ∀ m : Int, 0 ≤ m → m < k → findsB l m (soB c fs cs m) = true := by
    intro m h0 h1
    obtain ⟨j, rfl⟩ := Int.eq_ofNat_of_zero_le h0
    exact findsB_iff.2 ⟨_, hs j (by omega), fdOf_says j h0, rfl⟩
  rw [fdOf_eq hG k (by omega)]
  unfold findW
  split
  · rename_i i h
    have h1 := List.find?_some h
    have h2 := List.mem_of_find?_eq_some h
    simp only [rightB]
    simpa [h2] using h1
  · rename_i h
    split
    · rename_i i h3
      have h1 := List.find?_some h3
      have h2 := List.mem_of_find?_eq_some h3
      have hi := hG.cnn i h2
      have hne : ¬ (i = -1) := by omega
      have ht := hG.terms i h2
      simp only [givesB, Bool.and_eq_true, decide_eq_true_eq, Bool.not_eq_true'] at h1
      obtain ⟨⟨g1, g2⟩, g3⟩ := h1
      simp only [rightB, hne, decide_false, Bool.and_false, Bool.false_eq_true, if_false, if_true, decide_true, Bool.true_and, Bool.and_eq_true, decide_eq_true_eq]
      refine ⟨⟨⟨by simpa using h2, g1⟩, List.all_eq_true.2 fun m hm => ?_⟩, List.all_eq_true.2 fun m hm => ?_⟩
      · have hb := ht m (.inl hm)
        have := hfin m hb.1 (by omega)
        rwa [List.all_eq_true.1 g2 m hm] at this
      · have hb := ht m (.inr hm)
        have := hfin m hb.1 (by omega)
        have h4 := List.any_eq_false.1 g3 m hm
        rwa [show soB c fs cs m = false by simpa using h4] at this
    · rename_i h3
      simp only [rightB, Bool.false_and, Bool.false_eq_true, if_false, decide_true, Bool.true_and, Bool.and_eq_true, Bool.not_eq_true']
      refine ⟨List.any_eq_false.2 (List.find?_eq_none.1 h), List.any_eq_false.2 fun i hi hb => ?_⟩
      simp only [Bool.and_eq_true, decide_eq_true_eq, Bool.not_eq_true'] at hb
      obtain ⟨g1, g2⟩ := hb
      have h4 := List.find?_eq_none.1 h3 i hi
      have ht := hG.terms i hi
      apply h4
      simp only [givesB, g1, decide_true, Bool.true_and, Bool.and_eq_true, Bool.not_eq_true']
      simp only [barredB, Bool.or_eq_false_iff, List.any_eq_false] at g2
      refine ⟨List.all_eq_true.2 fun m hm => ?_, List.any_eq_false.2 fun m hm hso => ?_⟩
      · have hb := ht m (.inl hm)
        have h5 := hfin m hb.1 (by omega)
        have h6 := g2.1 m hm
        cases hso : soB c fs cs m with
        | true => rfl
        | false => rw [hso] at h5; exact absurd h5 h6
      · have hb := ht m (.inr hm)
        have h5 := hfin m hb.1 (by omega)
        have h6 := g2.2 m hm
        rw [hso] at h5
        exact h6 h5
end

end Go.Proofs.YtahfpadaoobkfaaGreatDoor

/-
  The plain law of chapter 8, second part: what Decide returns is a proof, and no finding of it can be left out.
-/
namespace Go.Proofs.YtahfpadaoobkfaaGreatDoor

section
variable {c : Rb} {fs cs : List Int}

theorem fdTo_map (k : Nat) : fdTo c fs cs k = (List.range k).map fun j : Nat => fdOf c fs cs (j : Int) := by
  apply List.ext_getElem?
  intro j
  by_cases hj : j < k
  · have h1 := fdTo_of (c := c) (fs := fs) (cs := cs) k j hj
    rw [List.getD_eq_getElem?_getD] at h1
    have hl : j < (fdTo c fs cs k).length := by rw [fdTo_length]; exact hj
    rw [List.getElem?_eq_getElem hl] at h1 ⊢
    simp only [Option.getD_some] at h1
    simp [h1, hj]
  · rw [List.getElem?_eq_none (by rw [fdTo_length]; omega), List.getElem?_eq_none (by simp; omega)]

theorem fdTo_mem {k : Nat} {x : Fd} : x ∈ fdTo c fs cs k ↔ ∃ j : Nat, j < k ∧ x = fdOf c fs cs j := by
  rw [fdTo_map]
  simp only [List.mem_map, List.mem_range]
  constructor
  · rintro ⟨j, hj, rfl⟩; exact ⟨j, hj, rfl⟩
  · rintro ⟨j, hj, rfl⟩; exact ⟨j, hj, rfl⟩
theorem fdTo_sorted (k : Nat) : (fdTo c fs cs k).Pairwise (fun a b => a.says < b.says) := by
  rw [fdTo_map, List.pairwise_map]
  refine List.pairwise_lt_range.imp fun {a b} h => ?_
  rw [fdOf_says _ (by omega), fdOf_says _ (by omega)]
  omega
theorem fdTo_last (k : Nat) : (fdTo c fs cs (k + 1)).getLast? = some (fdOf c fs cs k) := by
  rw [fdTo_map, List.range_succ]
  simp

theorem full_proves (hG : Good c fs cs) (n : Nat) (hn : n ≤ 19) : provesB c fs cs n (soB c fs cs n) (fdTo c fs cs (n + 1)) = true := by
  unfold provesB
  simp only [Bool.and_eq_true, decide_eq_true_eq]
  have hl := fdTo_last (c := c) (fs := fs) (cs := cs) n
  refine ⟨⟨⟨provesGo_mk (fdTo_sorted _) fun x hx => ?_, ?_⟩, ?_⟩, ?_⟩
  · obtain ⟨j, hj, rfl⟩ := fdTo_mem.1 hx
    rw [fdOf_says _ (by omega)]
    exact ⟨by omega, by omega, fd_right hG j fun i hi => fdTo_mem.2 ⟨i, by omega, rfl⟩⟩
  · intro h
    rw [h] at hl
    cases hl
  · simp only [lastOf, hl, Option.map_some, Option.getD_some]
    exact fdOf_says _ (by omega)
  · simp only [hl, Option.map_some, Option.getD_some]
    simp [soB]

theorem prune_proves {n : Int} {h : Bool} : ∀ (k : Nat) (l : List Fd), provesB c fs cs n h l = true → provesB c fs cs n h (prune c fs cs n h k l) = true
  | 0, _, hp => hp
  | k + 1, l, hp => by
    unfold prune
    split
    · rename_i h1; exact prune_proves k _ h1
    · exact prune_proves k _ hp

end

/-! ### Valid rules -/
theorem pickN_mem {p : Nat → Bool} {n : Nat} {x : Int} : x ∈ pickN p n ↔ ∃ i : Nat, i < n ∧ p i = true ∧ x = i := by
  simp only [pickN, List.mem_map, List.mem_filter, List.mem_range]
  constructor
  · rintro ⟨i, ⟨h1, h2⟩, rfl⟩; exact ⟨i, h1, h2, rfl⟩
  · rintro ⟨i, h1, h2, rfl⟩; exact ⟨i, ⟨h1, h2⟩, rfl⟩

theorem ascGo_mem {below : Int} : ∀ {l : List Int} {last : Int}, ascGo below last l = true → ∀ m, m ∈ l → last < m ∧ m < below
  | [], _, _, m, hm => by simp at hm
  | n :: l, last, h, m, hm => by
    simp only [ascGo, Bool.and_eq_true, isInB_iff] at h
    rcases List.mem_cons.1 hm with rfl | hm
    · omega
    · have := ascGo_mem h.2 m hm; omega

theorem good_of_valid {c : Rb} {q : Qn} (hv : validB c = true) : Good c (factsOf c q) (clausesOf c q) := by
  simp only [validB, Bool.and_eq_true, List.all_eq_true] at hv
  obtain ⟨⟨⟨_, hc⟩, _⟩, _⟩ := hv
  refine ⟨fun i hi m hm => ?_, fun i hi => ?_, fun i hi => ?_⟩
  · obtain ⟨j, hj, _, rfl⟩ := pickN_mem.1 hi
    have hx : c.cl j ∈ c.cls := by simp [Rb.cl, hj]
    have h1 := hc _ hx
    simp only [clB, Bool.and_eq_true, ascB] at h1
    rcases hm with hm | hm
    · have := ascGo_mem h1.1.2.2 m hm; omega
    · have := ascGo_mem h1.2.2 m hm; omega
  · obtain ⟨j, _, _, rfl⟩ := pickN_mem.1 hi; omega
  · obtain ⟨j, _, _, rfl⟩ := pickN_mem.1 hi; omega

/-- What the law StatuteOne asks. -/
theorem decide_checks {c : Rb} {q : Qn} (h : okB c q = true) : checkB c q (decideA c q) (decideL c q) = true := by
  have hv : validB c = true := by simp only [okB, Bool.and_eq_true] at h; exact h.1
  have ha : 0 ≤ q.says ∧ q.says ≤ 19 := by
    simp only [okB, asksB, Bool.and_eq_true, isInB_iff] at h; exact h.2.1.1.2
  obtain ⟨n, hn⟩ := Int.eq_ofNat_of_zero_le ha.1
  unfold checkB decideA decideL
  rw [h, Bool.true_and]
  refine prune_proves _ _ ?_
  rw [hn, Int.toNat_natCast]
  exact full_proves (good_of_valid hv) n (by omega)
theorem check_one {c : Rb} {q : Qn} {h : Bool} {l : List Fd} (hc : checkB c q h l = true) : h = decideA c q := by
  simp only [checkB, Bool.and_eq_true, okB] at hc
  exact proves_so (good_of_valid hc.1.1) hc.2
end Go.Proofs.YtahfpadaoobkfaaGreatDoor

/-
  Slices that can be read; rules, findings and questions in memory.
-/
namespace Go.Proofs.YtahfpadaoobkfaaGreatDoor
open Go.RowKit Go.Lib

/-- A slice of n elements whose cells are cs. -/
def Sl (w : World) (v : Value) (n : Nat) (cs : List Value) : Prop :=
  ∃ a cap, v = .slice a n cap ∧ n ≤ cap ∧ cap ≤ 9223372036854775807 ∧ (0 < n → ∃ b off, a = some ⟨b, off, none⟩ ∧ ∀ j u, cs[j]? = some u → w.cell? ⟨b, off + j, none⟩ = some u)

theorem Sl.fr {w w' : World} {v : Value} {n : Nat} {cs : List Value} {S : List Nat} (h : Sl w v n cs) (hf : Fr S w w') (hn : ∀ g, v.ownBlock = some g → g ∉ S) : Sl w' v n cs := by
  obtain ⟨a, cap, rfl, h1, h2, h3⟩ := h
  refine ⟨a, cap, rfl, h1, h2, fun h0 => ?_⟩
  obtain ⟨b, off, rfl, hc⟩ := h3 h0
  refine ⟨b, off, rfl, fun j u hu => ?_⟩
  have := hc j u hu
  exact (World.cell?_of_block (hf.block b (World.block_lt_of_cell? w _ this) (hn b rfl))).trans this
theorem Sl.same {w w' : World} {v : Value} {n : Nat} {cs : List Value} (h : Sl w v n cs) (hf : Fr [] w w') : Sl w' v n cs := h.fr hf (by simp)
theorem Sl.nil (w : World) : Sl w (.slice none 0 0) 0 [] := ⟨none, 0, rfl, by omega, by omega, by omega⟩
theorem Sl.len {w : World} {v : Value} {n : Nat} {cs : List Value} (h : Sl w v n cs) : n ≤ 9223372036854775807 := by
  obtain ⟨a, cap, rfl, h1, h2, _⟩ := h
  omega
theorem Sl.val {w : World} {v : Value} {n : Nat} {cs : List Value} (h : Sl w v n cs) : ∃ a cap, v = .slice a n cap := by
  obtain ⟨a, cap, rfl, _⟩ := h
  exact ⟨a, cap, rfl⟩
theorem Sl.at_ {w : World} {a : Option Addr} {cap n : Nat} {cs : List Value} (h : Sl w (.slice a n cap) n cs) (h0 : 0 < n) : ∃ b off, a = some ⟨b, off, none⟩ ∧ ∀ j u, cs[j]? = some u → w.cell? ⟨b, off + j, none⟩ = some u := by
  obtain ⟨a', cap', hv, h1, h2, h3⟩ := h
  cases hv
  exact h3 h0
theorem sl_of_row {w : World} {e : TypeId} {size : Nat} {v : Value} {n : Nat} {xs : List Value} (h : w.ownsRow 0 e size v n xs) : Sl w v n xs := by
  rcases h.2 with ⟨rfl, rfl⟩ | ⟨g, cap, cur, rfl, _, hg, r1, r2, r3, r4⟩
  · exact ⟨none, 0, rfl, by omega, by omega, by omega⟩
  · refine ⟨_, cap, rfl, r1, r2, fun _ => ⟨g, 0, rfl, fun j u hu => ?_⟩⟩
    have hj : j < xs.length := (List.getElem?_eq_some_iff.1 hu).1
    have hl := h.1
    rw [Nat.zero_add, cell_of_blk hg]
    rw [← r4, List.getElem?_take_of_lt (by omega), Array.getElem?_toList] at hu
    exact hu
/-- Elements of k cells each: the j-th cell of the i-th. -/
theorem flat_get {α : Type} {enc : α → List Value} {k : Nat} (hk : ∀ x, (enc x).length = k) : ∀ (l : List α) (i : Nat) (h : i < l.length) (j : Nat), j < k → (l.flatMap enc)[i * k + j]? = (enc l[i])[j]?
  | [], i, h, _, _ => by simp at h
  | x :: l, 0, _, j, hj => by
    simp only [List.flatMap_cons, Nat.zero_mul, Nat.zero_add, List.getElem_cons_zero]
    rw [List.getElem?_append_left (by rw [hk]; exact hj)]
  | x :: l, i + 1, h, j, hj => by
    have hi : i < l.length := by simpa using h
    rw [List.flatMap_cons, List.getElem?_append_right (by rw [hk, Nat.succ_mul]; omega), hk, show (i + 1) * k + j - k = i * k + j by rw [Nat.succ_mul]; omega, flat_get hk l i hi j hj]
    simp
theorem flat_len {α : Type} {enc : α → List Value} {k : Nat} (hk : ∀ x, (enc x).length = k) (l : List α) : (l.flatMap enc).length = l.length * k := by
  induction l with
  | nil => simp
  | cons x l ih => rw [List.flatMap_cons, List.length_append, hk, ih, List.length_cons, Nat.succ_mul]; omega

abbrev intC (l : List Int) : List Value := l.map (Value.int .i64)
def rpC (x : Rp) : List Value := [.int .i64 x.cl, .int .i64 x.pub, .int .i64 x.frm]
def faC (x : Fa) : List Value := [.int .i64 x.thing, .int .i64 x.says, .int .i64 x.f, .int .i64 x.t, .int .i64 x.kf, .int .i64 x.kt]
def fdC (x : Fd) : List Value := [.int .i64 x.says, .bool x.holds, .int .i64 x.fact, .int .i64 x.cl]
/-- A clause with the two slices of its needs and bars. -/
structure ClV where
  x : Cl
  vn : Value
  vb : Value
instance : Inhabited ClV := ⟨⟨default, .slice none 0 0, .slice none 0 0⟩⟩
def clC (y : ClV) : List Value := [.int .i64 y.x.pub, .int .i64 y.x.f, .int .i64 y.x.t, y.vn, y.vb, .int .i64 y.x.gives]

abbrev I64 (x : Int) : Prop := -9223372036854775808 ≤ x ∧ x ≤ 9223372036854775807
abbrev IntsAt (w : World) (v : Value) (l : List Int) : Prop := Sl w v l.length (intC l)
structure ClOk (x : Cl) : Prop where
  pub : I64 x.pub
  f : I64 x.f
  t : I64 x.t
  gives : I64 x.gives
  needs : ∀ m, m ∈ x.needs → I64 m
  bars : ∀ m, m ∈ x.bars → I64 m
structure RpOk (x : Rp) : Prop where
  cl : I64 x.cl
  pub : I64 x.pub
  frm : I64 x.frm
structure FaOk (x : Fa) : Prop where
  thing : I64 x.thing
  says : I64 x.says
  f : I64 x.f
  t : I64 x.t
  kf : I64 x.kf
  kt : I64 x.kt
structure FdOk (x : Fd) : Prop where
  says : I64 x.says
  fact : I64 x.fact
  cl : I64 x.cl
structure QnOk (q : Qn) : Prop where
  thing : I64 q.thing
  says : I64 q.says
  at_ : I64 q.at_
  known : I64 q.known
structure RbOk (c : Rb) : Prop where
  cls : ∀ x, x ∈ c.cls → ClOk x
  rps : ∀ x, x ∈ c.rps → RpOk x
  fas : ∀ x, x ∈ c.fas → FaOk x

/-- The clauses in memory: a slice, and the slices of their terms. -/
structure ClsAt (w : World) (v : Value) (ys : List ClV) : Prop where
  sl : Sl w v ys.length (ys.flatMap clC)
  needs : ∀ y, y ∈ ys → IntsAt w y.vn y.x.needs
  bars : ∀ y, y ∈ ys → IntsAt w y.vb y.x.bars
/-- Rules in memory. -/
structure RbAt (w : World) (vc vr vf : Value) (ys : List ClV) (c : Rb) : Prop where
  eq : c.cls = ys.map (·.x)
  cls : ClsAt w vc ys
  rps : Sl w vr c.rps.length (c.rps.flatMap rpC)
  fas : Sl w vf c.fas.length (c.fas.flatMap faC)
  ok : RbOk c
theorem RbAt.same {w w' : World} {vc vr vf : Value} {ys : List ClV} {c : Rb} (h : RbAt w vc vr vf ys c) (hf : Fr [] w w') : RbAt w' vc vr vf ys c :=
  ⟨h.eq, ⟨h.cls.sl.same hf, fun y hy => (h.cls.needs y hy).same hf, fun y hy => (h.cls.bars y hy).same hf⟩, h.rps.same hf, h.fas.same hf, h.ok⟩
abbrev rbV (vc vr vf : Value) : Value := .agg #[vc, vr, vf]
abbrev qnV (q : Qn) : Value := .agg #[.int .i64 q.thing, .int .i64 q.says, .int .i64 q.at_, .int .i64 q.known]
abbrev faV (x : Fa) : Value := .agg #[.int .i64 x.thing, .int .i64 x.says, .int .i64 x.f, .int .i64 x.t, .int .i64 x.kf, .int .i64 x.kt]
abbrev rpV (x : Rp) : Value := .agg #[.int .i64 x.cl, .int .i64 x.pub, .int .i64 x.frm]
abbrev clV (y : ClV) : Value := .agg #[.int .i64 y.x.pub, .int .i64 y.x.f, .int .i64 y.x.t, y.vn, y.vb, .int .i64 y.x.gives]
abbrev fdV (x : Fd) : Value := .agg #[.int .i64 x.says, .bool x.holds, .int .i64 x.fact, .int .i64 x.cl]

end Go.Proofs.YtahfpadaoobkfaaGreatDoor

/-
  Arrays of words in blocks, whole and by the cell; bytes in a slice.
-/
namespace Go.Proofs.YtahfpadaoobkfaaGreatDoor
open Go.RowKit Go.Lib

theorem stopD {p : Prop} (roundEnd : p) (_other : True) : p := roundEnd
abbrev u8C (l : List Int) : List Value := l.map (Value.int .u8)
abbrev ByAt (w : World) (v : Value) (l : List Int) : Prop := Sl w v l.length (u8C l)
/-- The cells of an array of words. -/
def u32A (l : List Int) : Array Value := (l.map (Value.int .u32)).toArray
theorem u32A_size (l : List Int) : (u32A l).size = l.length := by simp [u32A]
theorem u32A_get (l : List Int) (i : Nat) (h : i < l.length) : (u32A l)[i]? = some (.int .u32 (l.getD i 0)) := by simp [u32A, h]
theorem u32A_set (l : List Int) (i : Nat) (x : Int) : (u32A l).setIfInBounds i (.int .u32 x) = u32A (l.set i x) := by simp [u32A, List.map_set]
theorem u32A_one (l : List Int) : (u32A l).all (·.oneCell') = true := by simp [u32A, Value.oneCell']

section
variable {t : TypeId} {n : Nat} {e : TypeId} {l : List Int}
theorem arr_load {ev : Operand → Value} {o : Oper} {W : World} {b : Nat} {C : Array Value} (x : Operand) (hu : Tryz.prog.underlying t = some (.array n e)) (hi : (Tryz.prog.info? t).map (·.size) = some C.size) (ho : o.op = .load t x) (hx : ev x = .pointer (some ⟨b, 0, none⟩)) (h : W.heap[b]? = some (.cells C t (0, 0))) : (execOp ev o).run Tryz.prog W = .ok (.value (.agg C)) W := by
  unfold execOp
  simp only [ho, hx, Instr.loadAt, Instr.sureAddr, Sem.run_bind, Sem.run_pure, Result.andThen_ok, run_loadVar_row W b t t C (0, 0) _ h hu rfl hi]
theorem wp_arr_load {o : Oper} {a : Act} {W : World} {K : Act → World → Prop} {Q : Exit → Act → World → Prop} {b : Nat} {C : Array Value} (x : Operand) (hu : Tryz.prog.underlying t = some (.array n e)) (hi : (Tryz.prog.info? t).map (·.size) = some C.size) (ho : o.op = .load t x) (hx : a.eval x = .pointer (some ⟨b, 0, none⟩)) (h : W.heap[b]? = some (.cells C t (0, 0))) (hk : K (a.put o.dst (.agg C)) W) : o.wp Tryz.prog a W K Q := by
  unfold Oper.wp
  rw [arr_load x hu hi ho hx h]
  exact hk
theorem wp_arr_store {o : Oper} {a : Act} {W : World} {K : Act → World → Prop} {Q : Exit → Act → World → Prop} {b : Nat} {C C' : Array Value} (x y : Operand) (hi : (Tryz.prog.info? t).map (·.size) = some C'.size) (ho : o.op = .store t x y) (hx : a.eval x = .pointer (some ⟨b, 0, none⟩)) (hy : a.eval y = .agg C') (h : W.heap[b]? = some (.cells C t (0, 0))) (hs : C.size = C'.size) (h1 : C'.all (·.oneCell') = true)
    (hk : ∀ W', Fr [b] W W' → W'.heap[b]? = some (.cells C' t (0, 0)) → K (a.put o.dst undef) W') : o.wp Tryz.prog a W K Q :=
  wp_store_row t x y ho b C' hx hy t C h hi hs h1 (hk (W.setRow b C') (Fr.setRow (g := b) _ _ (by simp)) (by rw [setRow_heap _ _ _ _ _ _ h]))
end

end Go.Proofs.YtahfpadaoobkfaaGreatDoor
