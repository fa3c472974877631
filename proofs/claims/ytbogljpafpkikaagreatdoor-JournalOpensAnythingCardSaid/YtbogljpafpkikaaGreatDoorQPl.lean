/-
  The plain model of chapter 8: rules, questions, findings; what is so; which lists prove an answer.
-/
import Derived.WalkKit
namespace Go.Proofs.YtbogljpafpkikaaGreatDoor

structure Cl where
  pub : Int
  f : Int
  t : Int
  needs : List Int
  bars : List Int
  gives : Int
structure Rp where
  cl : Int
  pub : Int
  frm : Int
structure Fa where
  thing : Int
  says : Int
  f : Int
  t : Int
  kf : Int
  kt : Int
structure Rb where
  cls : List Cl
  rps : List Rp
  fas : List Fa
structure Qn where
  thing : Int
  says : Int
  at_ : Int
  known : Int
structure Fd where
  says : Int
  holds : Bool
  fact : Int
  cl : Int
deriving DecidableEq

instance : Inhabited Cl := ⟨⟨0, 0, 0, [], [], 0⟩⟩
instance : Inhabited Rp := ⟨⟨0, 0, 0⟩⟩
instance : Inhabited Fa := ⟨⟨0, 0, 0, 0, 0, 0⟩⟩
instance : Inhabited Fd := ⟨⟨0, false, 0, 0⟩⟩

def isInB (n low high : Int) : Bool := decide (low ≤ n) && decide (n ≤ high)
def secB (n : Int) : Bool := isInB n 0 10000000
def spellB (f t : Int) : Bool := secB f && isInB t (f + 1) 10000001
def hasB (f t s : Int) : Bool := isInB s f (t - 1)

/-- Strictly ascending from behind 'last' on, below 'below'. -/
def ascGo (below : Int) : Int → List Int → Bool
  | _, [] => true
  | last, n :: l => isInB n (last + 1) (below - 1) && ascGo below n l
def ascB (l : List Int) (below : Int) : Bool := decide (l.length ≤ 4) && ascGo below (-1) l

def clB (x : Cl) : Bool := secB x.pub && spellB x.f x.t && isInB x.gives 0 19 && ascB x.needs x.gives && ascB x.bars x.gives
def rpB (n : Nat) (x : Rp) : Bool := isInB x.cl 0 (n - 1) && secB x.pub && secB x.frm
def faB (x : Fa) : Bool := isInB x.thing 0 99999999 && isInB x.says 0 19 && spellB x.f x.t && spellB x.kf x.kt
def validB (c : Rb) : Bool := decide (c.cls.length ≤ 20) && decide (c.rps.length ≤ 10) && decide (c.fas.length ≤ 20) && c.cls.all clB && c.rps.all (rpB c.cls.length) && c.fas.all faB
def asksB (q : Qn) : Bool := isInB q.thing 0 99999999 && isInB q.says 0 19 && secB q.at_ && secB q.known

def statesB (x : Fa) (q : Qn) : Bool := decide (x.thing = q.thing) && hasB x.f x.t q.at_ && hasB x.kf x.kt q.known
def repB (i : Int) (q : Qn) (r : Rp) : Bool := decide (r.cl = i) && decide (r.pub ≤ q.known) && decide (r.frm ≤ q.at_)
def rulesB (c : Rb) (q : Qn) (i : Nat) : Bool :=
  let x := c.cls.getD i default
  decide (x.pub ≤ q.known) && hasB x.f x.t q.at_ && !c.rps.any (repB i q)

/-- The numbers below n that meet p. -/
def pickN (p : Nat → Bool) (n : Nat) : List Int := ((List.range n).filter p).map fun (i : Nat) => (i : Int)
def factsOf (c : Rb) (q : Qn) : List Int := pickN (fun i => statesB (c.fas.getD i default) q) c.fas.length
def clausesOf (c : Rb) (q : Qn) : List Int := pickN (rulesB c q) c.cls.length

def Rb.fa (c : Rb) (i : Int) : Fa := c.fas.getD i.toNat default
def Rb.cl (c : Rb) (i : Int) : Cl := c.cls.getD i.toNat default

/-- Does a clause give n, all its needs so, and none of its bars? -/
def givesB (c : Rb) (so : Int → Bool) (n : Int) (i : Int) : Bool := decide ((c.cl i).gives = n) && (c.cl i).needs.all so && !(c.cl i).bars.any so
def findW (c : Rb) (fs cs : List Int) (so : Int → Bool) (n : Int) : Fd :=
  match fs.find? (fun i => decide ((c.fa i).says = n)) with
  | some i => ⟨n, true, i, -1⟩
  | none => match cs.find? (givesB c so n) with
    | some i => ⟨n, true, -1, i⟩
    | none => ⟨n, false, -1, -1⟩

/-- The findings about 0, .. , k - 1. -/
def fdTo (c : Rb) (fs cs : List Int) : Nat → List Fd
  | 0 => []
  | k + 1 => fdTo c fs cs k ++ [findW c fs cs (fun i => ((fdTo c fs cs k).getD i.toNat default).holds) k]
def fdOf (c : Rb) (fs cs : List Int) (n : Int) : Fd := (fdTo c fs cs (n.toNat + 1)).getD n.toNat default
def soB (c : Rb) (fs cs : List Int) (n : Int) : Bool := (fdOf c fs cs n).holds

def findsB (l : List Fd) (n : Int) (h : Bool) : Bool := l.any fun y => decide (y.says = n) && y.holds == h
def barredB (c : Rb) (l : List Fd) (i : Int) : Bool := (c.cl i).needs.any (fun n => findsB l n false) || (c.cl i).bars.any (fun n => findsB l n true)
def rightB (c : Rb) (fs cs : List Int) (x : Fd) (l : List Fd) : Bool :=
  if x.holds && decide (x.cl = -1) then fs.contains x.fact && decide ((c.fa x.fact).says = x.says)
  else if x.holds then
    decide (x.fact = -1) && cs.contains x.cl && decide ((c.cl x.cl).gives = x.says) && (c.cl x.cl).needs.all (fun n => findsB l n true) && (c.cl x.cl).bars.all (fun n => findsB l n false)
  else decide (x.fact = -1) && decide (x.cl = -1) && !fs.any (fun i => decide ((c.fa i).says = x.says)) && !cs.any (fun i => decide ((c.cl i).gives = x.says) && !barredB c l i)

/-- Are the findings of the list ascending from behind 'last' on, and right in l? -/
def provesGo (c : Rb) (fs cs : List Int) (l : List Fd) : Int → List Fd → Bool
  | _, [] => true
  | last, x :: r => isInB x.says (last + 1) 19 && rightB c fs cs x l && provesGo c fs cs l x.says r
def lastOf (l : List Fd) : Int := (l.getLast?.map (·.says)).getD (-1)
def provesB (c : Rb) (fs cs : List Int) (n : Int) (h : Bool) (l : List Fd) : Bool :=
  provesGo c fs cs l (-1) l && decide (l ≠ []) && decide (lastOf l = n) && ((l.getLast?.map (·.holds)).getD false == h)

/-- Decide's last loop: what can be left out is left out, from the k-th finding down. -/
def prune (c : Rb) (fs cs : List Int) (n : Int) (h : Bool) : Nat → List Fd → List Fd
  | 0, l => l
  | k + 1, l => prune c fs cs n h k (if provesB c fs cs n h (l.eraseIdx k) then l.eraseIdx k else l)

def decideL (c : Rb) (q : Qn) : List Fd :=
  let fs := factsOf c q
  let cs := clausesOf c q
  prune c fs cs q.says (soB c fs cs q.says) q.says.toNat (fdTo c fs cs (q.says.toNat + 1))
def decideA (c : Rb) (q : Qn) : Bool := soB c (factsOf c q) (clausesOf c q) q.says
def okB (c : Rb) (q : Qn) : Bool := validB c && asksB q
def checkB (c : Rb) (q : Qn) (h : Bool) (l : List Fd) : Bool := okB c q && provesB c (factsOf c q) (clausesOf c q) q.says h l

/-- A number into an ascending list. -/
def insI : List Int → Int → List Int
  | [], x => [x]
  | y :: l, x => if x < y then x :: y :: l else if x = y then y :: l else y :: insI l x
def useF (l : List Fd) : List Int := l.foldl (fun a x => if 0 ≤ x.fact then insI a x.fact else a) []
def useC (c : Rb) (cs : List Int) (l : List Fd) : List Int := l.foldl (fun a x => if 0 ≤ x.fact then a else if 0 ≤ x.cl then insI a x.cl else cs.foldl (fun a i => if (c.cl i).gives = x.says then insI a i else a) a) []
def usesB (c : Rb) (q : Qn) (l : List Fd) : Bool := checkB c q true l || checkB c q false l

end Go.Proofs.YtbogljpafpkikaaGreatDoor

/-
  The plain law of chapter 8: a list that proves an answer proves the right one; the full list of findings is a proof; nothing of what is left can be left out.
-/
namespace Go.Proofs.YtbogljpafpkikaaGreatDoor

theorem isInB_iff {n lo hi : Int} : isInB n lo hi = true ↔ lo ≤ n ∧ n ≤ hi := by simp [isInB]

section
variable {c : Rb} {fs cs : List Int}

/-- What is asked of the clauses and facts that apply. -/
structure Good (c : Rb) (fs cs : List Int) : Prop where
  terms : ∀ i, i ∈ cs → ∀ m, m ∈ (c.cl i).needs ∨ m ∈ (c.cl i).bars → 0 ≤ m ∧ m < (c.cl i).gives
  fnn : ∀ i, i ∈ fs → 0 ≤ i
  cnn : ∀ i, i ∈ cs → 0 ≤ i

theorem fdTo_length (k : Nat) : (fdTo c fs cs k).length = k := by
  induction k with
  | zero => rfl
  | succ k ih => simp [fdTo, ih]
theorem fdTo_get : ∀ (k j : Nat), j < k → (fdTo c fs cs k).getD j default = findW c fs cs (fun i => ((fdTo c fs cs j).getD i.toNat default).holds) j := by
  intro k
  induction k with
  | zero => intro j h; omega
  | succ k ih =>
    intro j h
    rcases Nat.lt_or_ge j k with h1 | h1
    · rw [← ih j h1]
      simp only [fdTo, List.getD_eq_getElem?_getD]
      rw [List.getElem?_append_left (by rw [fdTo_length]; exact h1)]
    · have : j = k := by omega
      subst this
      simp only [fdTo, List.getD_eq_getElem?_getD]
      rw [List.getElem?_append_right (by rw [fdTo_length]; exact Nat.le_refl _), fdTo_length]
      simp
theorem fdTo_of (k j : Nat) (h : j < k) : (fdTo c fs cs k).getD j default = fdOf c fs cs j := by
  rw [fdTo_get k j h, fdOf, Int.toNat_natCast, fdTo_get (j + 1) j (by omega)]

theorem findW_says (so : Int → Bool) (n : Int) : (findW c fs cs so n).says = n := by
  unfold findW; split
  · rfl
  · split <;> rfl
theorem findW_holds (so : Int → Bool) (n : Int) : (findW c fs cs so n).holds = (fs.any (fun i => decide ((c.fa i).says = n)) || cs.any (givesB c so n)) := by
  unfold findW
  split
  · rename_i i h
    have := List.find?_some h
    have hm := List.mem_of_find?_eq_some h
    rw [show fs.any (fun i => decide ((c.fa i).says = n)) = true from List.any_eq_true.2 ⟨i, hm, this⟩]
    rfl
  · rename_i h
    rw [show fs.any (fun i => decide ((c.fa i).says = n)) = false by rw [List.any_eq_false]; exact List.find?_eq_none.1 h]
    split
    · rename_i i h2
      have := List.find?_some h2
      have hm := List.mem_of_find?_eq_some h2
      rw [show cs.any (givesB c so n) = true from List.any_eq_true.2 ⟨i, hm, this⟩]
      rfl
    · rename_i h2
      rw [show cs.any (givesB c so n) = false by rw [List.any_eq_false]; exact List.find?_eq_none.1 h2]
      rfl

theorem all_congr' {l : List Int} {p q : Int → Bool} (h : ∀ x, x ∈ l → p x = q x) : l.all p = l.all q := by
  induction l with
  | nil => rfl
  | cons a l ih => simp only [List.all_cons, h a (by simp), ih (fun x hx => h x (by simp [hx]))]
theorem any_congr' {l : List Int} {p q : Int → Bool} (h : ∀ x, x ∈ l → p x = q x) : l.any p = l.any q := by
  induction l with
  | nil => rfl
  | cons a l ih => simp only [List.any_cons, h a (by simp), ih (fun x hx => h x (by simp [hx]))]
theorem find_congr' {l : List Int} {p q : Int → Bool} (h : ∀ x, x ∈ l → p x = q x) : l.find? p = l.find? q := by
  induction l with
  | nil => rfl
  | cons a l ih => simp only [List.find?_cons, h a (by simp), ih (fun x hx => h x (by simp [hx]))]

theorem givesB_congr (hG : Good c fs cs) {so so' : Int → Bool} {n i : Int} (hi : i ∈ cs) (h : ∀ m, 0 ≤ m → m < n → so m = so' m) : givesB c so n i = givesB c so' n i := by
  unfold givesB
  by_cases hg : (c.cl i).gives = n
  · rw [all_congr' (fun m hm => h m (hG.terms i hi m (.inl hm)).1 (by have := (hG.terms i hi m (.inl hm)).2; omega)), any_congr' (fun m hm => h m (hG.terms i hi m (.inr hm)).1 (by have := (hG.terms i hi m (.inr hm)).2; omega))]
  · simp [hg]
theorem findW_congr (hG : Good c fs cs) {so so' : Int → Bool} {n : Int} (h : ∀ m, 0 ≤ m → m < n → so m = so' m) : findW c fs cs so n = findW c fs cs so' n := by
  unfold findW
  rw [find_congr' (l := cs) (fun i hi => givesB_congr hG hi h)]

/-- What is so is what the rules say of what is so. -/
theorem fdOf_eq (hG : Good c fs cs) (n : Int) (hn : 0 ≤ n) : fdOf c fs cs n = findW c fs cs (soB c fs cs) n := by
  obtain ⟨k, rfl⟩ := Int.eq_ofNat_of_zero_le hn
  rw [fdOf, Int.toNat_natCast, fdTo_get (k + 1) k (by omega)]
  refine findW_congr hG fun m h1 h2 => ?_
  obtain ⟨j, rfl⟩ := Int.eq_ofNat_of_zero_le h1
  rw [Int.toNat_natCast, fdTo_of k j (by omega)]
  rfl
theorem soB_eq (hG : Good c fs cs) (n : Int) (hn : 0 ≤ n) : soB c fs cs n = (fs.any (fun i => decide ((c.fa i).says = n)) || cs.any (givesB c (soB c fs cs) n)) := by
  rw [← findW_holds, ← fdOf_eq hG n hn]
  rfl
theorem fdOf_says (n : Int) (hn : 0 ≤ n) : (fdOf c fs cs n).says = n := by
  obtain ⟨k, rfl⟩ := Int.eq_ofNat_of_zero_le hn
  rw [fdOf, Int.toNat_natCast, fdTo_get (k + 1) k (by omega), findW_says]

theorem provesGo_all {l : List Fd} : ∀ {r : List Fd} {last : Int}, provesGo c fs cs l last r = true → ∀ x, x ∈ r → last < x.says ∧ x.says ≤ 19 ∧ rightB c fs cs x l = true
  | [], _, _, x, hx => by simp at hx
  | y :: r, last, h, x, hx => by
    simp only [provesGo, Bool.and_eq_true, isInB_iff] at h
    rcases List.mem_cons.1 hx with rfl | hx
    · exact ⟨by omega, h.1.1.2, h.1.2⟩
    · have := provesGo_all h.2 x hx
      exact ⟨by omega, this.2⟩
theorem provesGo_sorted {l : List Fd} : ∀ {r : List Fd} {last : Int}, provesGo c fs cs l last r = true → r.Pairwise (fun a b => a.says < b.says)
  | [], _, _ => List.Pairwise.nil
  | y :: r, last, h => by
    simp only [provesGo, Bool.and_eq_true] at h
    exact List.pairwise_cons.2 ⟨fun x hx => (provesGo_all h.2 x hx).1, provesGo_sorted h.2⟩
theorem provesGo_mk {l : List Fd} : ∀ {r : List Fd} {last : Int}, r.Pairwise (fun a b => a.says < b.says) → (∀ x, x ∈ r → last < x.says ∧ x.says ≤ 19 ∧ rightB c fs cs x l = true) → provesGo c fs cs l last r = true
  | [], _, _, _ => rfl
  | y :: r, last, hp, h => by
    have hy := h y (by simp)
    have hp := List.pairwise_cons.1 hp
    simp only [provesGo, Bool.and_eq_true, isInB_iff]
    exact ⟨⟨⟨by omega, hy.2.1⟩, hy.2.2⟩, provesGo_mk hp.2 fun x hx => ⟨hp.1 x hx, (h x (by simp [hx])).2⟩⟩

theorem findsB_iff {l : List Fd} {n : Int} {h : Bool} : findsB l n h = true ↔ ∃ y, y ∈ l ∧ y.says = n ∧ y.holds = h := by
  simp [findsB]

/-- SOUND: what a list of right findings says is so. -/
theorem right_so (hG : Good c fs cs) {l : List Fd} (h : provesGo c fs cs l (-1) l = true) : ∀ (k : Nat) (x : Fd), x ∈ l → x.says = k → x.holds = soB c fs cs x.says := by
  intro k
  induction k using Nat.strongRecOn with
  | ind k ih =>
    intro x hx hk
    have hall := provesGo_all h
    obtain ⟨_, _, hr⟩ := hall x hx
    have key : ∀ m b, 0 ≤ m → m < x.says → findsB l m b = true → soB c fs cs m = b := by
      intro m b h0 h1 hf
      obtain ⟨y, hy, h2, h3⟩ := findsB_iff.1 hf
      have := ih m.toNat (by omega) y hy (by omega)
      rw [← h3, this, h2]
    have hn0 : 0 ≤ x.says := by omega
    rw [soB_eq hG x.says hn0]
    unfold rightB at hr
    split at hr
    · rename_i h1
      simp only [Bool.and_eq_true, decide_eq_true_eq] at h1 hr
      rw [h1.1, show fs.any (fun i => decide ((c.fa i).says = x.says)) = true from List.any_eq_true.2 ⟨x.fact, by simpa using hr.1, by simpa using hr.2⟩]
      rfl
    · split at hr
      · rename_i h1 h2
        simp only [Bool.and_eq_true, decide_eq_true_eq, List.contains_iff_mem] at hr
        obtain ⟨⟨⟨⟨h3, h4⟩, h5⟩, h6⟩, h7⟩ := hr
        have ht := hG.terms x.cl h4
        rw [h2, show cs.any (givesB c (soB c fs cs) x.says) = true from List.any_eq_true.2 ⟨x.cl, h4, ?_⟩]
        · simp
        · simp only [givesB, h5, decide_true, Bool.true_and, Bool.and_eq_true, Bool.not_eq_true']
          refine ⟨List.all_eq_true.2 fun m hm => ?_, List.any_eq_false.2 fun m hm => ?_⟩
          · have := ht m (.inl hm)
            exact key m true this.1 (by omega) (List.all_eq_true.1 h6 m hm)
          · have := ht m (.inr hm)
            rw [key m false this.1 (by omega) (List.all_eq_true.1 h7 m hm)]
            simp
      · rename_i h1 h2
        simp only [Bool.and_eq_true, decide_eq_true_eq, Bool.not_eq_true'] at hr
        obtain ⟨⟨⟨h3, h4⟩, h5⟩, h6⟩ := hr
        have hh : x.holds = false := by simpa using h2
        rw [hh, h5]
        symm
        rw [Bool.false_or, List.any_eq_false]
        intro i hi hg
        simp only [givesB, Bool.and_eq_true, decide_eq_true_eq, Bool.not_eq_true'] at hg
        obtain ⟨⟨hg1, hg2⟩, hg3⟩ := hg
        have h7 := List.any_eq_false.1 h6 i hi
        simp only [hg1, decide_true, Bool.true_and, Bool.not_eq_true', Bool.not_eq_false] at h7
        have ht := hG.terms i hi
        simp only [barredB, Bool.or_eq_true, List.any_eq_true] at h7
        rcases h7 with ⟨m, hm, hf⟩ | ⟨m, hm, hf⟩
        · have hb := ht m (.inl hm)
          have h8 := key m false hb.1 (by omega) hf
          have h9 := List.all_eq_true.1 hg2 m hm
          rw [h8] at h9
          cases h9
        · have hb := ht m (.inr hm)
          have h8 := key m true hb.1 (by omega) hf
          have h9 := List.any_eq_false.1 hg3 m hm
          rw [h8] at h9
          exact h9 rfl

theorem getLast_mem' {l : List Fd} {x : Fd} (h : l.getLast? = some x) : x ∈ l := List.mem_of_getLast? h

theorem proves_so (hG : Good c fs cs) {n : Int} {h : Bool} {l : List Fd} (hp : provesB c fs cs n h l = true) : h = soB c fs cs n := by
  unfold provesB at hp
  simp only [Bool.and_eq_true, decide_eq_true_eq] at hp
  obtain ⟨⟨⟨h1, h2⟩, h3⟩, h4⟩ := hp
  cases hl : l.getLast? with
  | none => rw [List.getLast?_eq_none_iff] at hl; exact absurd hl h2
  | some x =>
    have hx := getLast_mem' hl
    have h0 := (provesGo_all h1 x hx).1
    have := right_so hG h1 x.says.toNat x hx (by omega)
    simp only [lastOf, hl, Option.map_some, Option.getD_some] at h3 h4
    have h5 : x.holds = h := by simpa using h4
    rw [← h5, this, h3]

/-- More findings make none wrong. -/
theorem findsB_mono {l l' : List Fd} (hs : ∀ x, x ∈ l → x ∈ l') {n : Int} {h : Bool} (hf : findsB l n h = true) : findsB l' n h = true := by
  obtain ⟨y, hy, h2⟩ := findsB_iff.1 hf
  exact findsB_iff.2 ⟨y, hs y hy, h2⟩
theorem rightB_mono {l l' : List Fd} (hs : ∀ x, x ∈ l → x ∈ l') {x : Fd} (hr : rightB c fs cs x l = true) : rightB c fs cs x l' = true := by
  unfold rightB at hr ⊢
  split
  · rename_i h1
    simpa [h1] using hr
  · rename_i h1
    rw [if_neg h1] at hr
    split
    · rename_i h2
      rw [if_pos h2] at hr
      simp only [Bool.and_eq_true] at hr ⊢
      exact ⟨⟨hr.1.1, List.all_eq_true.2 fun m hm => findsB_mono hs (List.all_eq_true.1 hr.1.2 m hm)⟩, List.all_eq_true.2 fun m hm => findsB_mono hs (List.all_eq_true.1 hr.2 m hm)⟩
    · rename_i h2
      rw [if_neg h2] at hr
      simp only [Bool.and_eq_true, Bool.not_eq_true'] at hr ⊢
      refine ⟨hr.1, List.any_eq_false.2 fun i hi hb => ?_⟩
      refine absurd ?_ (List.any_eq_false.1 hr.2 i hi)
      simp only [Bool.and_eq_true, decide_eq_true_eq, Bool.not_eq_true'] at hb ⊢
      refine ⟨hb.1, ?_⟩
      cases hh : barredB c l i with
      | false => rfl
      | true =>
        have : barredB c l' i = true := by
          simp only [barredB, Bool.or_eq_true, List.any_eq_true] at hh ⊢
          rcases hh with ⟨m, hm, hf⟩ | ⟨m, hm, hf⟩
          · exact .inl ⟨m, hm, findsB_mono hs hf⟩
          · exact .inr ⟨m, hm, findsB_mono hs hf⟩
        rw [this] at hb
        cases hb.2

/-- COMPLETE: each finding is right among those of the lesser numbers. -/
theorem fd_right (hG : Good c fs cs) (k : Nat) {l : List Fd} (hs : ∀ j : Nat, j < k → fdOf c fs cs j ∈ l) : rightB c fs cs (fdOf c fs cs k) l = true := by
  have hfin : ∀ m : Int, 0 ≤ m → m < k → findsB l m (soB c fs cs m) = true := by
    intro m h0 h1
    obtain ⟨j, rfl⟩ := Int.eq_ofNat_of_zero_le h0
    exact findsB_iff.2 ⟨_, hs j (by omega), fdOf_says j h0, rfl⟩
  rw [fdOf_eq hG k (by omega)]
  unfold findW
  split
  · rename_i i h
    have h1 := List.find?_some h
    have h2 := List.mem_of_find?_eq_some h
    simp only [rightB]
    simpa [h2] using h1
  · rename_i h
    split
    · rename_i i h3
      have h1 := List.find?_some h3
      have h2 := List.mem_of_find?_eq_some h3
      have hi := hG.cnn i h2
      have hne : ¬ (i = -1) := by omega
      have ht := hG.terms i h2
      simp only [givesB, Bool.and_eq_true, decide_eq_true_eq, Bool.not_eq_true'] at h1
      obtain ⟨⟨g1, g2⟩, g3⟩ := h1
      simp only [rightB, hne, decide_false, Bool.and_false, Bool.false_eq_true, if_false, if_true, decide_true, Bool.true_and, Bool.and_eq_true, decide_eq_true_eq]
      refine ⟨⟨⟨by simpa using h2, g1⟩, List.all_eq_true.2 fun m hm => ?_⟩, List.all_eq_true.2 fun m hm => ?_⟩
      · have hb := ht m (.inl hm)
        have := hfin m hb.1 (by omega)
        rwa [List.all_eq_true.1 g2 m hm] at this
      · have hb := ht m (.inr hm)
        have := hfin m hb.1 (by omega)
        have h4 := List.any_eq_false.1 g3 m hm
        rwa [show soB c fs cs m = false by simpa using h4] at this
    · rename_i h3
      simp only [rightB, Bool.false_and, Bool.false_eq_true, if_false, decide_true, Bool.true_and, Bool.and_eq_true, Bool.not_eq_true']
      refine ⟨List.any_eq_false.2 (List.find?_eq_none.1 h), List.any_eq_false.2 fun i hi hb => ?_⟩
      simp only [Bool.and_eq_true, decide_eq_true_eq, Bool.not_eq_true'] at hb
      obtain ⟨g1, g2⟩ := hb
      have h4 := List.find?_eq_none.1 h3 i hi
      have ht := hG.terms i hi
      apply h4
      simp only [givesB, g1, decide_true, Bool.true_and, Bool.and_eq_true, Bool.not_eq_true']
      simp only [barredB, Bool.or_eq_false_iff, List.any_eq_false] at g2
      refine ⟨List.all_eq_true.2 fun m hm => ?_, List.any_eq_false.2 fun m hm hso => ?_⟩
      · have hb := ht m (.inl hm)
        have h5 := hfin m hb.1 (by omega)
        have h6 := g2.1 m hm
        cases hso : soB c fs cs m with
        | true => rfl
        | false => rw [hso] at h5; exact absurd h5 h6
      · have hb := ht m (.inr hm)
        have h5 := hfin m hb.1 (by omega)
        have h6 := g2.2 m hm
        rw [hso] at h5
        exact h6 h5
end

end Go.Proofs.YtbogljpafpkikaaGreatDoor

/-
  The plain law of chapter 8, second part: what Decide returns is a proof, and no finding of it can be left out.
-/
namespace Go.Proofs.YtbogljpafpkikaaGreatDoor

section
variable {c : Rb} {fs cs : List Int}

theorem fdTo_map (k : Nat) : fdTo c fs cs k = (List.range k).map fun j : Nat => fdOf c fs cs (j : Int) := by
  apply List.ext_getElem?
  intro j
  by_cases hj : j < k
  · have h1 := fdTo_of (c := c) (fs := fs) (cs := cs) k j hj
    rw [List.getD_eq_getElem?_getD] at h1
    have hl : j < (fdTo c fs cs k).length := by rw [fdTo_length]; exact hj
    rw [List.getElem?_eq_getElem hl] at h1 ⊢
    simp only [Option.getD_some] at h1
    simp [h1, hj]
  · rw [List.getElem?_eq_none (by rw [fdTo_length]; omega), List.getElem?_eq_none (by simp; omega)]

theorem fdTo_mem {k : Nat} {x : Fd} : x ∈ fdTo c fs cs k ↔ ∃ j : Nat, j < k ∧ x = fdOf c fs cs j := by
  rw [fdTo_map]
  simp only [List.mem_map, List.mem_range]
  constructor
  · rintro ⟨j, hj, rfl⟩; exact ⟨j, hj, rfl⟩
  · rintro ⟨j, hj, rfl⟩; exact ⟨j, hj, rfl⟩
theorem fdTo_sorted (k : Nat) : (fdTo c fs cs k).Pairwise (fun a b => a.says < b.says) := by
  rw [fdTo_map, List.pairwise_map]
  refine List.pairwise_lt_range.imp fun {a b} h => ?_
  rw [fdOf_says _ (by omega), fdOf_says _ (by omega)]
  omega
theorem fdTo_last (k : Nat) : (fdTo c fs cs (k + 1)).getLast? = some (fdOf c fs cs k) := by
  rw [fdTo_map, List.range_succ]
  simp

/-- The findings below k in front of a tail: a proof if the tail is right. -/
theorem front_proves (hG : Good c fs cs) {n : Int} {h : Bool} {A T : List Fd} {k : Nat} (hA : ∀ x, x ∈ A → x ∈ fdTo c fs cs k) (hT : T ≠ []) (hk : ∀ x, x ∈ T → (k : Int) ≤ x.says)
    (hp : provesB c fs cs n h (A ++ T) = true) : provesB c fs cs n h (fdTo c fs cs k ++ T) = true := by
  unfold provesB at hp ⊢
  simp only [Bool.and_eq_true, decide_eq_true_eq] at hp ⊢
  obtain ⟨⟨⟨h1, h2⟩, h3⟩, h4⟩ := hp
  have hall := provesGo_all h1
  have hso := provesGo_sorted h1
  have e : (A ++ T).getLast? = (fdTo c fs cs k ++ T).getLast? := by
    rw [List.getLast?_append, List.getLast?_append]
    cases hl : T.getLast? with
    | none => rw [List.getLast?_eq_none_iff] at hl; exact absurd hl hT
    | some x => rfl
  have hTs : T.Pairwise (fun a b => a.says < b.says) := (List.pairwise_append.1 hso).2.1
  have hk19 : ∀ j : Nat, j < k → (j : Int) ≤ 19 := by
    intro j hj
    cases hT' : T with
    | nil => exact absurd hT' hT
    | cons y T' =>
      have := hall y (by rw [hT']; simp)
      have := hk y (by rw [hT']; simp)
      omega
  refine ⟨⟨⟨provesGo_mk ?_ ?_, by simp [hT]⟩, ?_⟩, ?_⟩
  · refine List.pairwise_append.2 ⟨fdTo_sorted k, hTs, fun a ha b hb => ?_⟩
    obtain ⟨j, hj, rfl⟩ := fdTo_mem.1 ha
    rw [fdOf_says _ (by omega)]
    have := hk b hb
    omega
  · intro x hx
    rcases List.mem_append.1 hx with hx | hx
    · obtain ⟨j, hj, rfl⟩ := fdTo_mem.1 hx
      rw [fdOf_says _ (by omega)]
      exact ⟨by omega, hk19 j hj, fd_right hG j fun i hi => List.mem_append_left _ (fdTo_mem.2 ⟨i, by omega, rfl⟩)⟩
    · have h5 := hall x (List.mem_append_right _ hx)
      refine ⟨h5.1, h5.2.1, rightB_mono (fun y hy => ?_) h5.2.2⟩
      rcases List.mem_append.1 hy with hy | hy
      · exact List.mem_append_left _ (hA y hy)
      · exact List.mem_append_right _ hy
  · rw [← h3]; unfold lastOf; rw [e]
  · rw [← e]; exact h4

theorem full_proves (hG : Good c fs cs) (n : Nat) (hn : n ≤ 19) : provesB c fs cs n (soB c fs cs n) (fdTo c fs cs (n + 1)) = true := by
  unfold provesB
  simp only [Bool.and_eq_true, decide_eq_true_eq]
  have hl := fdTo_last (c := c) (fs := fs) (cs := cs) n
  refine ⟨⟨⟨provesGo_mk (fdTo_sorted _) fun x hx => ?_, ?_⟩, ?_⟩, ?_⟩
  · obtain ⟨j, hj, rfl⟩ := fdTo_mem.1 hx
    rw [fdOf_says _ (by omega)]
    exact ⟨by omega, by omega, fd_right hG j fun i hi => fdTo_mem.2 ⟨i, by omega, rfl⟩⟩
  · intro h
    rw [h] at hl
    cases hl
  · simp only [lastOf, hl, Option.map_some, Option.getD_some]
    exact fdOf_says _ (by omega)
  · simp only [hl, Option.map_some, Option.getD_some]
    simp [soB]

theorem prune_proves {n : Int} {h : Bool} : ∀ (k : Nat) (l : List Fd), provesB c fs cs n h l = true → provesB c fs cs n h (prune c fs cs n h k l) = true
  | 0, _, hp => hp
  | k + 1, l, hp => by
    unfold prune
    split
    · rename_i h1; exact prune_proves k _ h1
    · exact prune_proves k _ hp

/-- What pruning leaves of the findings below k in front of a tail that is kept. -/
theorem prune_spare (hG : Good c fs cs) {n : Int} {h : Bool} : ∀ (k : Nat) (T : List Fd), T ≠ [] → (∀ x, x ∈ T → (k : Int) ≤ x.says) →
    ∃ A, (∀ x, x ∈ A → x ∈ fdTo c fs cs k) ∧ prune c fs cs n h k (fdTo c fs cs k ++ T) = A ++ T ∧ ∀ i, i < A.length → provesB c fs cs n h ((A ++ T).eraseIdx i) = false
  | 0, T, _, _ => ⟨[], by simp, rfl, by simp⟩
  | k + 1, T, hT, hk => by
    have el : fdTo c fs cs (k + 1) = fdTo c fs cs k ++ [fdOf c fs cs k] := by
      rw [fdTo_map, fdTo_map, List.range_succ]; simp
    have ee : (fdTo c fs cs (k + 1) ++ T).eraseIdx k = fdTo c fs cs k ++ T := by
      rw [el, List.append_assoc, List.eraseIdx_append_of_length_le (by rw [fdTo_length]; exact Nat.le_refl _), fdTo_length]
      simp
    have hsub : ∀ x, x ∈ fdTo c fs cs k → x ∈ fdTo c fs cs (k + 1) := fun x hx => by rw [el]; exact List.mem_append_left _ hx
    unfold prune
    rw [ee]
    cases hp : provesB c fs cs n h (fdTo c fs cs k ++ T) with
    | true =>
      simp only [if_true]
      obtain ⟨A, h1, h2, h3⟩ := prune_spare hG k T hT (fun x hx => by have := hk x hx; omega)
      exact ⟨A, fun x hx => hsub x (h1 x hx), h2, h3⟩
    | false =>
      simp only [Bool.false_eq_true, if_false]
      obtain ⟨A, h1, h2, h3⟩ := prune_spare (n := n) (h := h) hG k (fdOf c fs cs k :: T) (by simp) (fun x hx => by
        rcases List.mem_cons.1 hx with rfl | hx
        · rw [fdOf_says _ (by omega)]; omega
        · have := hk x hx; omega)
      refine ⟨A ++ [fdOf c fs cs k], fun x hx => ?_, ?_, fun i hi => ?_⟩
      · rcases List.mem_append.1 hx with hx | hx
        · exact hsub x (h1 x hx)
        · rw [el]; exact List.mem_append_right _ hx
      · rw [el, List.append_assoc, List.append_assoc]
        exact h2
      · rw [List.append_assoc]
        simp only [List.length_append, List.length_singleton] at hi
        rcases Nat.lt_or_ge i A.length with h4 | h4
        · exact h3 i h4
        · have : i = A.length := by omega
          subst this
          rw [List.singleton_append, List.eraseIdx_append_of_length_le (Nat.le_refl _), Nat.sub_self, List.eraseIdx_cons_zero]
          cases hq : provesB c fs cs n h (A ++ T) with
          | false => rfl
          | true => rw [front_proves hG h1 hT (fun x hx => by have := hk x hx; omega) hq] at hp; cases hp

/-- Nothing of what is left can be left out. -/
theorem decide_spare (hG : Good c fs cs) (n : Nat) : ∀ i, i < (prune c fs cs n (soB c fs cs n) n (fdTo c fs cs (n + 1))).length →
    provesB c fs cs n (soB c fs cs n) ((prune c fs cs n (soB c fs cs n) n (fdTo c fs cs (n + 1))).eraseIdx i) = false := by
  have el : fdTo c fs cs (n + 1) = fdTo c fs cs n ++ [fdOf c fs cs n] := by
    rw [fdTo_map, fdTo_map, List.range_succ]; simp
  obtain ⟨A, h1, h2, h3⟩ := prune_spare (n := n) (h := soB c fs cs n) hG n [fdOf c fs cs n] (by simp) (fun x hx => by
    simp only [List.mem_singleton] at hx; subst hx; rw [fdOf_says _ (by omega)]; omega)
  rw [el, h2]
  intro i hi
  rcases Nat.lt_or_ge i A.length with h4 | h4
  · exact h3 i h4
  · have : i = A.length := by simp at hi; omega
    subst this
    rw [List.eraseIdx_append_of_length_le (Nat.le_refl _), Nat.sub_self, List.eraseIdx_cons_zero, List.append_nil]
    cases hp : provesB c fs cs n (soB c fs cs n) A with
    | false => rfl
    | true =>
      exfalso
      unfold provesB at hp
      simp only [Bool.and_eq_true, decide_eq_true_eq] at hp
      obtain ⟨⟨⟨g1, g2⟩, g3⟩, _⟩ := hp
      cases hl : A.getLast? with
      | none => rw [List.getLast?_eq_none_iff] at hl; exact g2 hl
      | some x =>
        have hx := getLast_mem' hl
        obtain ⟨j, hj, rfl⟩ := fdTo_mem.1 (h1 x hx)
        simp only [lastOf, hl, Option.map_some, Option.getD_some] at g3
        rw [fdOf_says _ (by omega)] at g3
        omega
end

/-! ### Valid rules -/
theorem pickN_mem {p : Nat → Bool} {n : Nat} {x : Int} : x ∈ pickN p n ↔ ∃ i : Nat, i < n ∧ p i = true ∧ x = i := by
  simp only [pickN, List.mem_map, List.mem_filter, List.mem_range]
  constructor
  · rintro ⟨i, ⟨h1, h2⟩, rfl⟩; exact ⟨i, h1, h2, rfl⟩
  · rintro ⟨i, h1, h2, rfl⟩; exact ⟨i, ⟨h1, h2⟩, rfl⟩

theorem ascGo_mem {below : Int} : ∀ {l : List Int} {last : Int}, ascGo below last l = true → ∀ m, m ∈ l → last < m ∧ m < below
  | [], _, _, m, hm => by simp at hm
  | n :: l, last, h, m, hm => by
    simp only [ascGo, Bool.and_eq_true, isInB_iff] at h
    rcases List.mem_cons.1 hm with rfl | hm
    · omega
    · have := ascGo_mem h.2 m hm; omega

theorem good_of_valid {c : Rb} {q : Qn} (hv : validB c = true) : Good c (factsOf c q) (clausesOf c q) := by
  simp only [validB, Bool.and_eq_true, List.all_eq_true] at hv
  obtain ⟨⟨⟨_, hc⟩, _⟩, _⟩ := hv
  refine ⟨fun i hi m hm => ?_, fun i hi => ?_, fun i hi => ?_⟩
  · obtain ⟨j, hj, _, rfl⟩ := pickN_mem.1 hi
    have hx : c.cl j ∈ c.cls := by simp [Rb.cl, hj]
    have h1 := hc _ hx
    simp only [clB, Bool.and_eq_true, ascB] at h1
    rcases hm with hm | hm
    · have := ascGo_mem h1.1.2.2 m hm; omega
    · have := ascGo_mem h1.2.2 m hm; omega
  · obtain ⟨j, _, _, rfl⟩ := pickN_mem.1 hi; omega
  · obtain ⟨j, _, _, rfl⟩ := pickN_mem.1 hi; omega

/-- What the law StatuteOne asks. -/
theorem decide_checks {c : Rb} {q : Qn} (h : okB c q = true) : checkB c q (decideA c q) (decideL c q) = true := by
  have hv : validB c = true := by simp only [okB, Bool.and_eq_true] at h; exact h.1
  have ha : 0 ≤ q.says ∧ q.says ≤ 19 := by
    simp only [okB, asksB, Bool.and_eq_true, isInB_iff] at h; exact h.2.1.1.2
  obtain ⟨n, hn⟩ := Int.eq_ofNat_of_zero_le ha.1
  unfold checkB decideA decideL
  rw [h, Bool.true_and]
  refine prune_proves _ _ ?_
  rw [hn, Int.toNat_natCast]
  exact full_proves (good_of_valid hv) n (by omega)
theorem check_one {c : Rb} {q : Qn} {h : Bool} {l : List Fd} (hc : checkB c q h l = true) : h = decideA c q := by
  simp only [checkB, Bool.and_eq_true, okB] at hc
  exact proves_so (good_of_valid hc.1.1) hc.2
theorem check_other {c : Rb} {q : Qn} (l : List Fd) : checkB c q (!decideA c q) l = false := by
  cases h : checkB c q (!decideA c q) l with
  | false => rfl
  | true => have := check_one h; cases hd : decideA c q <;> rw [hd] at this <;> cases this
theorem spare_checks {c : Rb} {q : Qn} (h : okB c q = true) (i : Nat) (hi : i < (decideL c q).length) : checkB c q (decideA c q) ((decideL c q).eraseIdx i) = false := by
  have hv : validB c = true := by simp only [okB, Bool.and_eq_true] at h; exact h.1
  have ha : 0 ≤ q.says ∧ q.says ≤ 19 := by
    simp only [okB, asksB, Bool.and_eq_true, isInB_iff] at h; exact h.2.1.1.2
  obtain ⟨n, hn⟩ := Int.eq_ofNat_of_zero_le ha.1
  unfold decideL at hi
  unfold checkB decideA decideL
  rw [h, Bool.true_and]
  rw [hn, Int.toNat_natCast] at hi ⊢
  exact decide_spare (good_of_valid hv) n i hi

end Go.Proofs.YtbogljpafpkikaaGreatDoor
