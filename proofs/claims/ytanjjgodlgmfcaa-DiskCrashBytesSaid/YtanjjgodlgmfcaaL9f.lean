/-
  What a crash leaves if any of the writes survive, told in reverse order: plain facts.
-/
import Derived.Test.YtanjjgodlgmfcaaL9e
namespace Go.Proofs.Ytanjjgodlgmfcaa
open Go.RowKit Go.Lib

/-- The kept numbers below k, ascending. -/
def keptI (kp : Nat → Bool) (k : Nat) : List Int := ((List.range k).filter kp).map fun (i : Nat) => (i : Int)
theorem keptI_pos (kp : Nat → Bool) (k : Nat) (h : kp k = true) : keptI kp (k + 1) = keptI kp k ++ [(k : Int)] := by
  simp [keptI, List.range_succ, List.filter_append, h]
theorem keptI_neg (kp : Nat → Bool) (k : Nat) (h : kp k = false) : keptI kp (k + 1) = keptI kp k := by
  simp [keptI, List.range_succ, List.filter_append, h]
theorem keptI_mem {kp : Nat → Bool} {k : Nat} {x : Int} (h : x ∈ keptI kp k) : 0 ≤ x ∧ x < k := by
  obtain ⟨j, hj, rfl⟩ := List.mem_map.1 h
  have : j < k := by simpa using (List.mem_filter.1 hj).1
  omega
theorem keptI_len (kp : Nat → Bool) (k : Nat) : (keptI kp k).length ≤ k := by
  have := List.length_filter_le kp (List.range k)
  simpa [keptI] using this
theorem keptI_sorted (kp : Nat → Bool) (k : Nat) : (keptI kp k).Pairwise (· < ·) := by
  unfold keptI
  rw [List.pairwise_map]
  exact ((List.pairwise_lt_range (n := k)).filter kp).imp fun h => by omega

theorem sorted_unique : ∀ {a b : List Int}, a.Pairwise (· ≤ ·) → b.Pairwise (· ≤ ·) → a.Perm b → a = b
  | [], b, _, _, h => by simpa using h.symm
  | x :: a, [], _, _, h => by simp at h
  | x :: a, y :: b, ha, hb, h => by
    have hx : x ∈ y :: b := h.subset (by simp)
    have hy : y ∈ x :: a := h.symm.subset (by simp)
    have e : x = y := by
      rcases List.mem_cons.1 hx with e | hx
      · exact e
      · rcases List.mem_cons.1 hy with e | hy
        · exact e.symm
        · have h1 := (List.pairwise_cons.1 ha).1 y hy
          have h2 := (List.pairwise_cons.1 hb).1 x hx
          omega
    subst e
    rw [sorted_unique (List.pairwise_cons.1 ha).2 (List.pairwise_cons.1 hb).2 (List.perm_cons x |>.1 h)]

theorem sortI_perm_sorted {l l' : List Int} (h : l.Pairwise (· < ·)) (hp : l'.Perm l) : sortI l' = l := by
  refine sorted_unique ?_ (h.imp fun h => by omega) ((List.mergeSort_perm _ _).trans hp)
  have := List.pairwise_mergeSort (le := fun (x y : Int) => decide (x ≤ y)) (fun a b c h1 h2 => by simp at *; omega) (fun a b => by simp; omega) l'
  exact this.imp fun h => by simpa using h

theorem survL_perm {m : Nat} {l l' : List Int} (h : l.Pairwise (· < ·)) (hp : l'.Perm l) (hm : ∀ x, x ∈ l → 0 ≤ x ∧ x < m) : survL m l' = l := by
  have h1 := survL_sorted h hm
  unfold survL at *
  rw [sortI_perm_sorted h hp]
  rwa [sortI_of_sorted h] at h1

/-- The last kept number below k, or -1. -/
def lastK (kp : Nat → Bool) : Nat → Int
  | 0 => -1
  | k + 1 => if kp k then k else lastK kp k
theorem lastK_lt (kp : Nat → Bool) : ∀ k, lastK kp k < k
  | 0 => by simp [lastK]
  | k + 1 => by
    have := lastK_lt kp k
    unfold lastK
    split <;> omega
theorem lastK_ge (kp : Nat → Bool) : ∀ k, -1 ≤ lastK kp k
  | 0 => by simp [lastK]
  | k + 1 => by
    have := lastK_ge kp k
    unfold lastK
    split <;> omega
/-- A kept number is the last one exactly if no more follow. -/
theorem lastK_iff (kp : Nat → Bool) (k : Nat) (hk : kp k = true) : ∀ n, k < n → (((k : Int) = lastK kp n) ↔ ((keptI kp k).length + 1 = (keptI kp n).length)) := by
  intro n hn
  induction n with
  | zero => omega
  | succ n ih =>
    by_cases he : k = n
    · subst he
      simp [lastK, hk, keptI_pos]
    · have hl : (keptI kp k).length + 1 ≤ (keptI kp n).length := by
        have : ∀ d, (keptI kp (k + 1)).length ≤ (keptI kp (k + 1 + d)).length := by
          intro d
          induction d with
          | zero => exact Nat.le_refl _
          | succ d ihd =>
            refine Nat.le_trans ihd ?_
            show _ ≤ (keptI kp (k + 1 + d + 1)).length
            cases h : kp (k + 1 + d) with
            | true => rw [keptI_pos _ _ h]; simp
            | false => rw [keptI_neg _ _ h]; exact Nat.le_refl _
        have h2 := this (n - (k + 1))
        rw [keptI_pos kp k hk, show k + 1 + (n - (k + 1)) = n by omega] at h2
        simpa using h2
      cases h : kp n with
      | true =>
        simp only [lastK, h, if_true, keptI_pos kp n h, List.length_append, List.length_singleton]
        omega
      | false =>
        simp only [lastK, h, Bool.false_eq_true, if_false, keptI_neg kp n h]
        exact ih (by omega)

theorem keptI_take (kp : Nat → Bool) (k : Nat) (hk : kp k = true) : ∀ n, k < n → (keptI kp n)[(keptI kp k).length]? = some (k : Int) := by
  intro n hn
  induction n with
  | zero => omega
  | succ n ih =>
    by_cases he : k = n
    · subst he
      rw [keptI_pos kp k hk]
      simp
    · cases h : kp n with
      | true =>
        rw [keptI_pos kp n h, List.getElem?_append_left]
        · exact ih (by omega)
        · have := ih (by omega)
          exact (List.getElem?_eq_some_iff.1 this).1
      | false => rw [keptI_neg kp n h]; exact ih (by omega)

/-- What is expected of a crash in which the numbers of kp survive. -/
def wantW (F : List UInt8) (pw : Nat → Nat × ByteArray) (kp : Nat → Bool) (last torn : Int) : Nat → List UInt8
  | 0 => F
  | k + 1 => if kp k then paste (wantW F pw kp last torn k) (pw k).1 (if (k : Int) = last ∧ 0 ≤ torn then (pw k).2.extract 0 (min (pw k).2.size torn.toNat) else (pw k).2).data.toList else wantW F pw kp last torn k

theorem crash_kept {D : Dk} {pw : Nat → Nat × ByteArray} {kp : Nat → Bool} {torn : Int} {K : Nat} (hp : D.pend = (List.range K).map pw) :
    D.crash (keptI kp K).reverse torn = ⟨false, 0, wantW D.dur pw kp (lastK kp K) torn K, wantW D.dur pw kp (lastK kp K) torn K, []⟩ := by
  have hl : D.pend.length = K := by simp [hp]
  have hs : survL D.pend.length (keptI kp K).reverse = keptI kp K := survL_perm (keptI_sorted kp K) (List.reverse_perm _) (by rw [hl]; exact fun x hx => keptI_mem hx)
  have key : ∀ k, k ≤ K → crashTo D (keptI kp K) torn (keptI kp k).length = wantW D.dur pw kp (lastK kp K) torn k := by
    intro k
    induction k with
    | zero => intro _; rfl
    | succ k ih =>
      intro hk
      cases h : kp k with
      | false => rw [keptI_neg kp k h]; simp only [wantW, h, Bool.false_eq_true, if_false]; exact ih (by omega)
      | true =>
        have h1 := keptI_take kp k h K (by omega)
        obtain ⟨hj, hv⟩ := List.getElem?_eq_some_iff.1 h1
        have hpk : ∀ hh : k < D.pend.length, D.pend[k] = pw k := by intro hh; simp [hp]
        have hkl : k < D.pend.length := by omega
        rw [keptI_pos kp k h, List.length_append, List.length_singleton, crashTo, ih (by omega)]
        simp only [wantW, h, if_true]
        by_cases ht : (k : Int) = lastK kp K ∧ 0 ≤ torn
        · rw [survS_torn hj hv hkl (((lastK_iff kp k h K (by omega)).1 ht.1)) ht.2, if_pos ht, hpk hkl, Nat.min_comm]
        · rw [survS_plain hj hv hkl (fun hh => ht ⟨(lastK_iff kp k h K (by omega)).2 hh.1, hh.2⟩), if_neg ht, hpk hkl]
  unfold Dk.crash
  rw [hs]
  simp only [key K (Nat.le_refl _)]

theorem wantW_length {F : List UInt8} {pw : Nat → Nat × ByteArray} {kp : Nat → Bool} {last torn : Int} {n : Nat} (hF : F.length = n) (hw : ∀ i, (pw i).1 + (pw i).2.size ≤ n) : ∀ k, (wantW F pw kp last torn k).length = n
  | 0 => hF
  | k + 1 => by
    have ih := wantW_length (kp := kp) (last := last) (torn := torn) hF hw k
    have := hw k
    simp only [wantW]
    split
    · rw [paste_length, ih]
      rw [ih]
      split
      · simp; omega
      · simpa using this
    · exact ih

/-- The digits that a law writes first. -/
def digs (k : Nat) : List UInt8 := (List.range k).map fun i => (48 + i % 10).toUInt8
theorem digs_length (k : Nat) : (digs k).length = k := by simp [digs]
def digsTo (n k : Nat) : List UInt8 := digs k ++ List.replicate (n - k) 0
theorem digsTo_length (n k : Nat) (h : k ≤ n) : (digsTo n k).length = n := by simp [digsTo, digs_length]; omega
theorem digsTo_zero (n : Nat) : digsTo n 0 = List.replicate n 0 := by simp [digsTo, digs]
theorem digsTo_all (n : Nat) : digsTo n n = digs n := by simp [digsTo]
theorem digsTo_set (n k : Nat) (h : k < n) : (digsTo n k).set k (48 + k % 10).toUInt8 = digsTo n (k + 1) := by
  unfold digsTo
  rw [List.set_append, digs_length]
  simp only [Nat.lt_irrefl, if_false, Nat.sub_self]
  obtain ⟨d, hd⟩ : ∃ d, n - k = d + 1 := ⟨n - k - 1, by omega⟩
  rw [hd, List.replicate_succ, List.set_cons_zero, show n - (k + 1) = d by omega]
  simp [digs, List.range_succ]

theorem paste_all (l s : List UInt8) (h : s.length = l.length) : paste l 0 s = s := by simp [paste, h]

end Go.Proofs.Ytanjjgodlgmfcaa
