/-
  The journal's laws, the plain part: what is read from a journal of which one byte is changed.
-/
import Derived.Test.YtbogljpafpkikaaGreatDoorQLS
namespace Go.Proofs.YtbogljpafpkikaaGreatDoor
open Go.RowKit Go.Lib

theorem u8_inj {x y : Nat} (hx : x < 256) (hy : y < 256) (h : UInt8.ofNat x = UInt8.ofNat y) : x = y := by
  have := congrArg UInt8.toNat h
  simp only [UInt8.toNat_ofNat'] at this
  omega
/-- A number that is stored is read in one way. -/
theorem encZ_inj : ∀ (x y : Nat) (A B : List UInt8), encZ x ++ A = encZ y ++ B → x = y ∧ A = B := by
  intro x
  induction x using Nat.strongRecOn with
  | _ x ih =>
    intro y A B h
    by_cases h1 : x < 128
    · by_cases h2 : y < 128
      · rw [encZ_one h1, encZ_one h2] at h
        simp only [List.cons_append, List.nil_append, List.cons.injEq] at h
        exact ⟨u8_inj (by omega) (by omega) h.1, h.2⟩
      · rw [encZ_one h1, encZ_more h2] at h
        simp only [List.cons_append, List.nil_append, List.cons.injEq] at h
        have := u8_inj (by omega) (by omega) h.1
        omega
    · by_cases h2 : y < 128
      · rw [encZ_more h1, encZ_one h2] at h
        simp only [List.cons_append, List.nil_append, List.cons.injEq] at h
        have := u8_inj (by omega) (by omega) h.1
        omega
      · rw [encZ_more h1, encZ_more h2] at h
        simp only [List.cons_append, List.cons.injEq] at h
        have e1 := u8_inj (by omega) (by omega) h.1
        obtain ⟨e2, e3⟩ := ih (x / 128) (by omega) _ _ _ h.2
        exact ⟨by omega, e3⟩
theorem bts_inj {r s : ByteArray} (h : bts r = bts s) : r = s := by rw [← str_bts r, ← str_bts s, h]
/-- What is read lies there. -/
theorem ldM_sound (s : List UInt8) : ∀ (f : Nat) (t u : Tp), t.size ≤ s.length → ldM s f t = some u → ∃ M X, u = t.adds M ∧ (∀ r, r ∈ M → r.size ≤ 65536) ∧ s.drop t.size = encAll t.head M ++ X ∧ (X = [] ∨ ∃ Y, X = 0 :: Y)
  | 0, t, u, _, h => by rw [ldM] at h; cases h
  | f + 1, t, u, hts, h => by
    rw [ldM] at h
    split at h
    · rename_i hb
      cases h
      exact ⟨[], [], rfl, by simp, by rw [List.drop_eq_nil_of_le (List.getElem?_eq_none_iff.1 hb)]; rfl, .inl rfl⟩
    · rename_i b hb
      obtain ⟨hlt, hbe⟩ := List.getElem?_eq_some_iff.1 hb
      split at h
      · rename_i h0
        cases h
        refine ⟨[], s.drop t.size, rfl, by simp, rfl, .inr ⟨s.drop (t.size + 1), ?_⟩⟩
        rw [List.drop_eq_getElem_cons hlt, hbe, h0]
      · split at h
        · cases h
        · split at h
          · cases h
          · rename_i r q hg
            split at h
            · cases h
            · split at h
              · rename_i hr
                have hrs : (str r).size ≤ 65536 := by
                  unfold getS at hg
                  split at hg
                  · cases hg
                  · rename_i n q' hi
                    split at hg
                    · cases hg
                    · rename_i hn
                      simp only [Option.some.injEq, Prod.mk.injEq] at hg
                      rw [str_size, ← hg.1, List.length_take]
                      omega
                have hpre : s.drop t.size = recL t.head (str r) ++ (s.drop t.size).drop (recL t.head (str r)).length := by
                  have h1 : recL t.head (str r) <+: s.drop t.size := by rw [hr]; exact List.take_prefix _ _
                  obtain ⟨B, hB⟩ := h1
                  rw [← hB, List.drop_left]
                have hsz : t.size + (recL t.head (str r)).length ≤ s.length := by
                  have := congrArg List.length hpre
                  rw [List.length_append, List.length_drop, List.length_drop, List.length_drop] at this
                  omega
                obtain ⟨M, X, h1, h2, h3, h4⟩ := ldM_sound s f (t.add (str r)) u hsz h
                refine ⟨str r :: M, X, h1, fun x hx => ?_, ?_, h4⟩
                · rcases List.mem_cons.1 hx with rfl | hx
                  · exact hrs
                  · exact h2 x hx
                · rw [hpre, List.drop_drop, encAll, List.append_assoc]
                  congr 1
              · cases h
theorem openM_sound {s : List UInt8} {u : Tp} (h : openM s = some u) : ∃ M X, u = tp0.adds M ∧ (∀ r, r ∈ M → r.size ≤ 65536) ∧ s = encAll head0 M ++ X ∧ (X = [] ∨ ∃ Y, X = 0 :: Y) := by
  obtain ⟨M, X, h1, h2, h3, h4⟩ := ldM_sound s _ tp0 u (Nat.zero_le _) h
  exact ⟨M, X, h1, h2, h3, h4⟩

/-- Is the byte at an index of stored records one of the length of a record? -/
def sizedM : List ByteArray → Int → Bool
  | [], _ => false
  | r :: l, k => decide (1 ≤ k ∧ k ≤ (encZ (2 * r.size)).length) || sizedM l (k - (33 + (encZ (2 * r.size)).length + r.size : Nat))
theorem set_left {A B : List UInt8} {k : Nat} {c : UInt8} (h : k < A.length) : (A ++ B).set k c = A.set k c ++ B := List.set_append_left _ _ h
theorem set_right {A B : List UInt8} {k : Nat} {c : UInt8} (h : A.length ≤ k) : (A ++ B).set k c = A ++ B.set (k - A.length) c := List.set_append_right _ _ h
/-- A changed byte: fewer records, or two strings with one digest. -/
theorem tampered {c : UInt8} {Z X : List UInt8} (hX : X = [] ∨ ∃ Y, X = 0 :: Y) : ∀ (L M : List ByteArray) (h : ByteArray) (k : Nat), k < (encAll h L).length → (encAll h L)[k]? ≠ some c → sizedM L k = false → (encAll h L ++ Z).set k c = encAll h M ++ X →
    (c = 0 ∧ ∃ i, i < L.length ∧ M = L.take i) ∨ ∃ i, ∃ h1 : i < L.length, ∃ h2 : i < M.length, L.take i = M.take i ∧ L[i] ≠ M[i] ∧ chainM (headOf h (L.take i)) L[i] = chainM (headOf h (L.take i)) M[i]
  | [], _, _, _, hk, _, _, _ => by simp [encAll] at hk
  | r :: L, [], h, k, hk, hne, hs, he => by
    left
    rw [encAll, recL] at he hne
    cases k with
    | zero =>
      simp only [List.cons_append, List.set_cons_zero, encAll, List.nil_append] at he
      rcases hX with rfl | ⟨Y, rfl⟩
      · cases he
      · simp only [List.cons.injEq] at he
        exact ⟨he.1, 0, by simp, rfl⟩
    | succ k =>
      simp only [List.cons_append, List.set_cons_succ, encAll, List.nil_append] at he
      rcases hX with rfl | ⟨Y, rfl⟩
      · cases he
      · simp only [List.cons.injEq] at he
        exact absurd he.1 (by decide)
  | r :: L, s :: M, h, k, hk, hne, hs, he => by
    rw [encAll, recL] at he hne hk
    rw [encAll, recL] at he
    cases k with
    | zero =>
      simp only [List.cons_append, List.set_cons_zero, List.cons.injEq] at he
      exact absurd (by rw [he.1]; rfl) hne
    | succ k =>
      simp only [List.cons_append, List.set_cons_succ, List.cons.injEq, true_and] at he
      simp only [List.cons_append, List.getElem?_cons_succ] at hne
      simp only [List.cons_append, List.length_cons, putS, List.length_append, bts_len, chainM_size] at hk
      simp only [putS, List.append_assoc] at he hne
      simp only [sizedM, Bool.or_eq_false_iff, decide_eq_false_iff_not] at hs
      obtain ⟨hs1, hs2⟩ := hs
      have hk1 : (encZ (2 * r.size)).length ≤ k := by
        rcases Nat.lt_or_ge k (encZ (2 * r.size)).length with h' | h'
        · exact absurd ⟨by omega, by omega⟩ hs1
        · exact h'
      rw [set_right hk1] at he
      obtain ⟨e1, e2⟩ := encZ_inj _ _ _ _ he
      have hrs : r.size = s.size := by omega
      rw [List.getElem?_append_right hk1] at hne
      generalize hd : k - (encZ (2 * r.size)).length = d at *
      by_cases hd1 : d < r.size
      · rw [set_left (by rw [bts_len]; exact hd1)] at e2
        obtain ⟨e3, e4⟩ := List.append_inj e2 (by rw [List.length_set, bts_len, bts_len]; exact hrs)
        obtain ⟨e5, _⟩ := List.append_inj e4 (by rw [bts_len, bts_len, chainM_size, chainM_size])
        right
        refine ⟨0, by simp, by simp, rfl, fun e => ?_, bts_inj e5⟩
        simp only [List.getElem_cons_zero] at e
        subst e
        rw [List.getElem?_append_left (by rw [bts_len]; exact hd1)] at hne
        apply hne
        rw [← e3, List.getElem?_set_self (by rw [bts_len]; exact hd1)]
      · rw [set_right (by rw [bts_len]; omega)] at e2
        obtain ⟨e3, e4⟩ := List.append_inj e2 (by rw [bts_len, bts_len]; exact hrs)
        obtain rfl := bts_inj e3
        rw [List.getElem?_append_right (by rw [bts_len]; omega), bts_len] at hne
        rw [bts_len] at e4
        generalize hd2 : d - r.size = d2 at *
        have hcl : (bts (chainM h r)).length = 32 := by rw [bts_len, chainM_size]
        by_cases hd3 : d2 < 32
        · rw [set_left (by rw [hcl]; exact hd3)] at e4
          obtain ⟨e5, _⟩ := List.append_inj e4 (by rw [List.length_set])
          rw [List.getElem?_append_left (by rw [hcl]; exact hd3)] at hne
          exfalso
          apply hne
          rw [← e5, List.getElem?_set_self (by rw [hcl]; exact hd3)]
        · rw [set_right (by rw [hcl]; omega), hcl] at e4
          rw [List.getElem?_append_right (by rw [hcl]; omega), hcl] at hne
          have e6 := List.append_cancel_left e4
          have hk4 : ((k + 1 : Nat) : Int) - (33 + (encZ (2 * r.size)).length + r.size : Nat) = ((d2 - 32 : Nat) : Int) := by omega
          rw [hk4] at hs2
          rcases tampered hX L M (chainM h r) (d2 - 32) (by omega) hne hs2 e6 with ⟨hc, i, hi, hM⟩ | ⟨i, h1, h2, h3, h4, h5⟩
          · exact .inl ⟨hc, i + 1, by simp; omega, by rw [hM]; rfl⟩
          · exact .inr ⟨i + 1, by simp; omega, by simp; omega, by simp [h3], by simpa using h4, by simpa [headOf] using h5⟩

end Go.Proofs.YtbogljpafpkikaaGreatDoor
