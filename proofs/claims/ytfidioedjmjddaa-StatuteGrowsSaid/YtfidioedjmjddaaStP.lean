/-
  The plain law of chapter 8: a list that proves an answer proves the right one; the full list of findings is a proof; nothing of what is left can be left out.
-/
import Derived.Test.YtfidioedjmjddaaStM
namespace Go.Proofs.Ytfidioedjmjddaa

theorem isInB_iff {n lo hi : Int} : isInB n lo hi = true ↔ lo ≤ n ∧ n ≤ hi := by simp [isInB]

section
variable {c : Rb} {fs cs : List Int}

/-- What is asked of the clauses and facts that apply. -/
structure Good (c : Rb) (fs cs : List Int) : Prop where
  terms : ∀ i, i ∈ cs → ∀ m, m ∈ (c.cl i).needs ∨ m ∈ (c.cl i).bars → 0 ≤ m ∧ m < (c.cl i).gives
  fnn : ∀ i, i ∈ fs → 0 ≤ i
  cnn : ∀ i, i ∈ cs → 0 ≤ i

theorem fdTo_length (k : Nat) : (fdTo c fs cs k).length = k := by
  induction k with
  | zero => rfl
  | succ k ih => simp [fdTo, ih]
theorem fdTo_get : ∀ (k j : Nat), j < k → (fdTo c fs cs k).getD j default = findW c fs cs (fun i => ((fdTo c fs cs j).getD i.toNat default).holds) j := by
  intro k
  induction k with
  | zero => intro j h; omega
  | succ k ih =>
    intro j h
    rcases Nat.lt_or_ge j k with h1 | h1
    · rw [← ih j h1]
      simp only [fdTo, List.getD_eq_getElem?_getD]
      rw [List.getElem?_append_left (by rw [fdTo_length]; exact h1)]
    · have : j = k := by omega
      subst this
      simp only [fdTo, List.getD_eq_getElem?_getD]
      rw [List.getElem?_append_right (by rw [fdTo_length]; exact Nat.le_refl _), fdTo_length]
      simp
theorem fdTo_of (k j : Nat) (h : j < k) : (fdTo c fs cs k).getD j default = fdOf c fs cs j := by
  rw [fdTo_get k j h, fdOf, Int.toNat_natCast, fdTo_get (j + 1) j (by omega)]

theorem findW_says (so : Int → Bool) (n : Int) : (findW c fs cs so n).says = n := by
  unfold findW; split
  · rfl
  · split <;> rfl
theorem findW_holds (so : Int → Bool) (n : Int) : (findW c fs cs so n).holds = (fs.any (fun i => decide ((c.fa i).says = n)) || cs.any (givesB c so n)) := by
  unfold findW
  split
  · rename_i i h
    have := List.find?_some h
    have hm := List.mem_of_find?_eq_some h
    rw [show fs.any (fun i => decide ((c.fa i).says = n)) = true from List.any_eq_true.2 ⟨i, hm, this⟩]
    rfl
  · rename_i h
    rw [show fs.any (fun i => decide ((c.fa i).says = n)) = false by rw [List.any_eq_false]; exact List.find?_eq_none.1 h]
    split
    · rename_i i h2
      have := List.find?_some h2
      have hm := List.mem_of_find?_eq_some h2
      rw [show cs.any (givesB c so n) = true from List.any_eq_true.2 ⟨i, hm, this⟩]
      rfl
    · rename_i h2
      rw [show cs.any (givesB c so n) = false by rw [List.any_eq_false]; exact List.find?_eq_none.1 h2]
      rfl

theorem all_congr' {l : List Int} {p q : Int → Bool} (h : ∀ x, x ∈ l → p x = q x) : l.all p = l.all q := by
  induction l with
  | nil => rfl
  | cons a l ih => simp only [List.all_cons, h a (by simp), ih (fun x hx => h x (by simp [hx]))]
theorem any_congr' {l : List Int} {p q : Int → Bool} (h : ∀ x, x ∈ l → p x = q x) : l.any p = l.any q := by
  induction l with
  | nil => rfl
  | cons a l ih => simp only [List.any_cons, h a (by simp), ih (fun x hx => h x (by simp [hx]))]
theorem find_congr' {l : List Int} {p q : Int → Bool} (h : ∀ x, x ∈ l → p x = q x) : l.find? p = l.find? q := by
  induction l with
  | nil => rfl
  | cons a l ih => simp only [List.find?_cons, h a (by simp), ih (fun x hx => h x (by simp [hx]))]

theorem givesB_congr (hG : Good c fs cs) {so so' : Int → Bool} {n i : Int} (hi : i ∈ cs) (h : ∀ m, 0 ≤ m → m < n → so m = so' m) : givesB c so n i = givesB c so' n i := by
  unfold givesB
  by_cases hg : (c.cl i).gives = n
  · rw [all_congr' (fun m hm => h m (hG.terms i hi m (.inl hm)).1 (by have := (hG.terms i hi m (.inl hm)).2; omega)), any_congr' (fun m hm => h m (hG.terms i hi m (.inr hm)).1 (by have := (hG.terms i hi m (.inr hm)).2; omega))]
  · simp [hg]
theorem findW_congr (hG : Good c fs cs) {so so' : Int → Bool} {n : Int} (h : ∀ m, 0 ≤ m → m < n → so m = so' m) : findW c fs cs so n = findW c fs cs so' n := by
  unfold findW
  rw [find_congr' (l := cs) (fun i hi => givesB_congr hG hi h)]

/-- What is so is what the rules say of what is so. -/
theorem fdOf_eq (hG : Good c fs cs) (n : Int) (hn : 0 ≤ n) : fdOf c fs cs n = findW c fs cs (soB c fs cs) n := by
  obtain ⟨k, rfl⟩ := Int.eq_ofNat_of_zero_le hn
  rw [fdOf, Int.toNat_natCast, fdTo_get (k + 1) k (by omega)]
  refine findW_congr hG fun m h1 h2 => ?_
  obtain ⟨j, rfl⟩ := Int.eq_ofNat_of_zero_le h1
  rw [Int.toNat_natCast, fdTo_of k j (by omega)]
  rfl
theorem soB_eq (hG : Good c fs cs) (n : Int) (hn : 0 ≤ n) : soB c fs cs n = (fs.any (fun i => decide ((c.fa i).says = n)) || cs.any (givesB c (soB c fs cs) n)) := by
  rw [← findW_holds, ← fdOf_eq hG n hn]
  rfl
theorem fdOf_says (n : Int) (hn : 0 ≤ n) : (fdOf c fs cs n).says = n := by
  obtain ⟨k, rfl⟩ := Int.eq_ofNat_of_zero_le hn
  rw [fdOf, Int.toNat_natCast, fdTo_get (k + 1) k (by omega), findW_says]

theorem provesGo_all {l : List Fd} : ∀ {r : List Fd} {last : Int}, provesGo c fs cs l last r = true → ∀ x, x ∈ r → last < x.says ∧ x.says ≤ 19 ∧ rightB c fs cs x l = true
  | [], _, _, x, hx => by simp at hx
  | y :: r, last, h, x, hx => by
    simp only [provesGo, Bool.and_eq_true, isInB_iff] at h
    rcases List.mem_cons.1 hx with rfl | hx
    · exact ⟨by omega, h.1.1.2, h.1.2⟩
    · have := provesGo_all h.2 x hx
      exact ⟨by omega, this.2⟩
theorem provesGo_sorted {l : List Fd} : ∀ {r : List Fd} {last : Int}, provesGo c fs cs l last r = true → r.Pairwise (fun a b => a.says < b.says)
  | [], _, _ => List.Pairwise.nil
  | y :: r, last, h => by
    simp only [provesGo, Bool.and_eq_true] at h
    exact List.pairwise_cons.2 ⟨fun x hx => (provesGo_all h.2 x hx).1, provesGo_sorted h.2⟩
theorem provesGo_mk {l : List Fd} : ∀ {r : List Fd} {last : Int}, r.Pairwise (fun a b => a.says < b.says) → (∀ x, x ∈ r → last < x.says ∧ x.says ≤ 19 ∧ rightB c fs cs x l = true) → provesGo c fs cs l last r = true
  | [], _, _, _ => rfl
  | y :: r, last, hp, h => by
    have hy := h y (by simp)
    have hp := List.pairwise_cons.1 hp
    simp only [provesGo, Bool.and_eq_true, isInB_iff]
    exact ⟨⟨⟨by omega, hy.2.1⟩, hy.2.2⟩, provesGo_mk hp.2 fun x hx => ⟨hp.1 x hx, (h x (by simp [hx])).2⟩⟩

theorem findsB_iff {l : List Fd} {n : Int} {h : Bool} : findsB l n h = true ↔ ∃ y, y ∈ l ∧ y.says = n ∧ y.holds = h := by
  simp [findsB]

/-- SOUND: what a list of right findings says is so. -/
theorem right_so (hG : Good c fs cs) {l : List Fd} (h : provesGo c fs cs l (-1) l = true) : ∀ (k : Nat) (x : Fd), x ∈ l → x.says = k → x.holds = soB c fs cs x.says := by
  intro k
  induction k using Nat.strongRecOn with
  | ind k ih =>
    intro x hx hk
    have hall := provesGo_all h
    obtain ⟨_, _, hr⟩ := hall x hx
    have key : ∀ m b, 0 ≤ m → m < x.says → findsB l m b = true → soB c fs cs m = b := by
      intro m b h0 h1 hf
      obtain ⟨y, hy, h2, h3⟩ := findsB_iff.1 hf
      have := ih m.toNat (by omega) y hy (by omega)
      rw [← h3, this, h2]
    have hn0 : 0 ≤ x.says := by omega
    rw [soB_eq hG x.says hn0]
    unfold rightB at hr
    split at hr
    · rename_i h1
      simp only [Bool.and_eq_true, decide_eq_true_eq] at h1 hr
      rw [h1.1, show fs.any (fun i => decide ((c.fa i).says = x.says)) = true from List.any_eq_true.2 ⟨x.fact, by simpa using hr.1, by simpa using hr.2⟩]
      rfl
    · split at hr
      · rename_i h1 h2
        simp only [Bool.and_eq_true, decide_eq_true_eq, List.contains_iff_mem] at hr
        obtain ⟨⟨⟨⟨h3, h4⟩, h5⟩, h6⟩, h7⟩ := hr
        have ht := hG.terms x.cl h4
        rw [h2, show cs.any (givesB c (soB c fs cs) x.says) = true from List.any_eq_true.2 ⟨x.cl, h4, ?_⟩]
        · simp
        · simp only [givesB, h5, decide_true, Bool.true_and, Bool.and_eq_true, Bool.not_eq_true']
          refine ⟨List.all_eq_true.2 fun m hm => ?_, List.any_eq_false.2 fun m hm => ?_⟩
          · have := ht m (.inl hm)
            exact key m true this.1 (by omega) (List.all_eq_true.1 h6 m hm)
          · have := ht m (.inr hm)
            rw [key m false this.1 (by omega) (List.all_eq_true.1 h7 m hm)]
            simp
      · rename_i h1 h2
        simp only [Bool.and_eq_true, decide_eq_true_eq, Bool.not_eq_true'] at hr
        obtain ⟨⟨⟨h3, h4⟩, h5⟩, h6⟩ := hr
        have hh : x.holds = false := by simpa using h2
        rw [hh, h5]
        symm
        rw [Bool.false_or, List.any_eq_false]
        intro i hi hg
        simp only [givesB, Bool.and_eq_true, decide_eq_true_eq, Bool.not_eq_true'] at hg
        obtain ⟨⟨hg1, hg2⟩, hg3⟩ := hg
        have h7 := List.any_eq_false.1 h6 i hi
        simp only [hg1, decide_true, Bool.true_and, Bool.not_eq_true', Bool.not_eq_false] at h7
        have ht := hG.terms i hi
        simp only [barredB, Bool.or_eq_true, List.any_eq_true] at h7
        rcases h7 with ⟨m, hm, hf⟩ | ⟨m, hm, hf⟩
        · have hb := ht m (.inl hm)
          have h8 := key m false hb.1 (by omega) hf
          have h9 := List.all_eq_true.1 hg2 m hm
          rw [h8] at h9
          cases h9
        · have hb := ht m (.inr hm)
          have h8 := key m true hb.1 (by omega) hf
          have h9 := List.any_eq_false.1 hg3 m hm
          rw [h8] at h9
          exact h9 rfl

theorem getLast_mem' {l : List Fd} {x : Fd} (h : l.getLast? = some x) : x ∈ l := List.mem_of_getLast? h

theorem proves_so (hG : Good c fs cs) {n : Int} {h : Bool} {l : List Fd} (hp : provesB c fs cs n h l = true) : h = soB c fs cs n := by
  unfold provesB at hp
  simp only [Bool.and_eq_true, decide_eq_true_eq] at hp
  obtain ⟨⟨⟨h1, h2⟩, h3⟩, h4⟩ := hp
  cases hl : l.getLast? with
  | none => rw [List.getLast?_eq_none_iff] at hl; exact absurd hl h2
  | some x =>
    have hx := getLast_mem' hl
    have h0 := (provesGo_all h1 x hx).1
    have := right_so hG h1 x.says.toNat x hx (by omega)
    simp only [lastOf, hl, Option.map_some, Option.getD_some] at h3 h4
    have h5 : x.holds = h := by simpa using h4
    rw [← h5, this, h3]

/-- More findings make none wrong. -/
theorem findsB_mono {l l' : List Fd} (hs : ∀ x, x ∈ l → x ∈ l') {n : Int} {h : Bool} (hf : findsB l n h = true) : findsB l' n h = true := by
  obtain ⟨y, hy, h2⟩ := findsB_iff.1 hf
  exact findsB_iff.2 ⟨y, hs y hy, h2⟩
theorem rightB_mono {l l' : List Fd} (hs : ∀ x, x ∈ l → x ∈ l') {x : Fd} (hr : rightB c fs cs x l = true) : rightB c fs cs x l' = true := by
  unfold rightB at hr ⊢
  split
  · rename_i h1
    simpa [h1] using hr
  · rename_i h1
    rw [if_neg h1] at hr
    split
    · rename_i h2
      rw [if_pos h2] at hr
      simp only [Bool.and_eq_true] at hr ⊢
      exact ⟨⟨hr.1.1, List.all_eq_true.2 fun m hm => findsB_mono hs (List.all_eq_true.1 hr.1.2 m hm)⟩, List.all_eq_true.2 fun m hm => findsB_mono hs (List.all_eq_true.1 hr.2 m hm)⟩
    · rename_i h2
      rw [if_neg h2] at hr
      simp only [Bool.and_eq_true, Bool.not_eq_true'] at hr ⊢
      refine ⟨hr.1, List.any_eq_false.2 fun i hi hb => ?_⟩
      refine absurd ?_ (List.any_eq_false.1 hr.2 i hi)
      simp only [Bool.and_eq_true, decide_eq_true_eq, Bool.not_eq_true'] at hb ⊢
      refine ⟨hb.1, ?_⟩
      cases hh : barredB c l i with
      | false => rfl
      | true =>
        have : barredB c l' i = true := by
          simp only [barredB, Bool.or_eq_true, List.any_eq_true] at hh ⊢
          rcases hh with ⟨m, hm, hf⟩ | ⟨m, hm, hf⟩
          · exact .inl ⟨m, hm, findsB_mono hs hf⟩
          · exact .inr ⟨m, hm, findsB_mono hs hf⟩
        rw [this] at hb
        cases hb.2

/-- COMPLETE: each finding is right among those of the lesser numbers. -/
theorem fd_right (hG : Good c fs cs) (k : Nat) {l : List Fd} (hs : ∀ j : Nat, j < k → fdOf c fs cs j ∈ l) : rightB c fs cs (fdOf c fs cs k) l = true := by
  have hfin : ∀ m : Int, 0 ≤ m → m < k → findsB l m (soB c fs cs m) = true := by
    intro m h0 h1
    obtain ⟨j, rfl⟩ := Int.eq_ofNat_of_zero_le h0
    exact findsB_iff.2 ⟨_, hs j (by omega), fdOf_says j h0, rfl⟩
  rw [fdOf_eq hG k (by omega)]
  unfold findW
  split
  · rename_i i h
    have h1 := List.find?_some h
    have h2 := List.mem_of_find?_eq_some h
    simp only [rightB]
    simpa [h2] using h1
  · rename_i h
    split
    · rename_i i h3
      have h1 := List.find?_some h3
      have h2 := List.mem_of_find?_eq_some h3
      have hi := hG.cnn i h2
      have hne : ¬ (i = -1) := by omega
      have ht := hG.terms i h2
      simp only [givesB, Bool.and_eq_true, decide_eq_true_eq, Bool.not_eq_true'] at h1
      obtain ⟨⟨g1, g2⟩, g3⟩ := h1
      simp only [rightB, hne, decide_false, Bool.and_false, Bool.false_eq_true, if_false, if_true, decide_true, Bool.true_and, Bool.and_eq_true, decide_eq_true_eq]
      refine ⟨⟨⟨by simpa using h2, g1⟩, List.all_eq_true.2 fun m hm => ?_⟩, List.all_eq_true.2 fun m hm => ?_⟩
      · have hb := ht m (.inl hm)
        have := hfin m hb.1 (by omega)
        rwa [List.all_eq_true.1 g2 m hm] at this
      · have hb := ht m (.inr hm)
        have := hfin m hb.1 (by omega)
        have h4 := List.any_eq_false.1 g3 m hm
        rwa [show soB c fs cs m = false by simpa using h4] at this
    · rename_i h3
      simp only [rightB, Bool.false_and, Bool.false_eq_true, if_false, decide_true, Bool.true_and, Bool.and_eq_true, Bool.not_eq_true']
      refine ⟨List.any_eq_false.2 (List.find?_eq_none.1 h), List.any_eq_false.2 fun i hi hb => ?_⟩
      simp only [Bool.and_eq_true, decide_eq_true_eq, Bool.not_eq_true'] at hb
      obtain ⟨g1, g2⟩ := hb
      have h4 := List.find?_eq_none.1 h3 i hi
      have ht := hG.terms i hi
      apply h4
      simp only [givesB, g1, decide_true, Bool.true_and, Bool.and_eq_true, Bool.not_eq_true']
      simp only [barredB, Bool.or_eq_false_iff, List.any_eq_false] at g2
      refine ⟨List.all_eq_true.2 fun m hm => ?_, List.any_eq_false.2 fun m hm hso => ?_⟩
      · have hb := ht m (.inl hm)
        have h5 := hfin m hb.1 (by omega)
        have h6 := g2.1 m hm
        cases hso : soB c fs cs m with
        | true => rfl
        | false => rw [hso] at h5; exact absurd h5 h6
      · have hb := ht m (.inr hm)
        have h5 := hfin m hb.1 (by omega)
        have h6 := g2.2 m hm
        rw [hso] at h5
        exact h6 h5
end

end Go.Proofs.Ytfidioedjmjddaa
