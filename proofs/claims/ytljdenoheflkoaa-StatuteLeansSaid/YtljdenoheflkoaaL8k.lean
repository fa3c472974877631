/-
  dialtonelaw08: inserted, index; dialtoneref08: Has.
-/
import Derived.Test.YtljdenoheflkoaaL8j
namespace Go.Proofs.Ytljdenoheflkoaa
open Go.RowKit Go.Lib

/-- A row of integers that the call has made. -/
structure OI (w : World) (v : Value) (o : List Int) (wr : World) : Prop where
  fr : Fr [] w wr
  row : wr.ownsRow 0 3 1 v o.length (intC o)
  new : ∀ g, v.ownBlock = some g → w.heap.size ≤ g
theorem OI.start (w : World) : OI w (.slice none 0 0) [] w := ⟨Fr.refl _ _, ⟨rfl, .inl ⟨rfl, rfl⟩⟩, fun g hg => by cases hg⟩
theorem OI.same {w wr W : World} {v : Value} {o : List Int} (h : OI w v o wr) (hf : Fr [] wr W) : OI w v o W := ⟨h.fr.trans hf, row_fr h.row hf (by simp), h.new⟩
theorem wp_push_int {w wr : World} {o : Oper} {a : Act} {K : Act → World → Prop} {Q : Exit → Act → World → Prop} (s x : Operand) (ho : o.op = .call { callee := .builtin .append, args := #[s, x], argTypes := #[49, 49] }) (v : Value) (l : List Int) (X : Int) (H : OI w v l wr)
    (hs : a.eval s = v) (hx : a.eval x = .slice (some ⟨wr.heap.size, 0, none⟩) 1 1) (hl : l.length ≤ 1000000) (h : ∀ ga cap W', OI w (.slice ga (l.length + 1) cap) (l ++ [X]) W' → K (a.put o.dst (.slice ga (l.length + 1) cap)) W') : o.wp Try.prog a (wr.alloc (.cells #[.int .i64 X] 3)) K Q := by
  refine wp_append_src s x 49 3 (.int .i64 0) 1 8 ho Try.underlying49 infoI8 rfl (by decide) v l.length (intC l) hs (H.same (Fr.alloc _ _ _)).row _ 1 [.int .i64 X] hx (srcAt_one wr (.int .i64 X) 3) rfl (by simp [Value.oneCell']) (by omega) (by omega) ?_
  intro ga cap W1 r1 f1 b1
  refine h ga cap W1 ⟨(H.fr.trans (Fr.alloc _ _ _)).step f1 (fun i hi => .inr (H.new i (by simpa using hi))), ?_, ?_⟩
  · have e : intC (l ++ [X]) = intC l ++ [.int .i64 X] := by simp [intC]
    rw [e, List.length_append]
    exact r1
  · exact new_ge b1 (by have := H.fr.size; simp; omega) H.new

/-- l' is l with n, ascending. -/
structure InsI (l : List Int) (n : Int) (l' : List Int) : Prop where
  asc : l'.Pairwise (· < ·)
  mem : ∀ m, m ∈ l' ↔ m ∈ l ∨ m = n
  len : l'.length ≤ l.length + 1
/-- inserted under way. -/
structure InsS (l : List Int) (n : Int) (k : Nat) (put : Bool) (o : List Int) : Prop where
  len : o.length ≤ k + 1
  no : put = false → o = l.take k ∧ ∀ x, x ∈ l.take k → x < n
  yes : put = true → o.Pairwise (· < ·) ∧ (∀ m, m ∈ o ↔ m ∈ l.take k ∨ m = n) ∧ ∀ x, x ∈ o → ∀ y, y ∈ l.drop k → x < y
theorem InsS.start (l : List Int) (n : Int) : InsS l n 0 false [] := ⟨by simp, fun _ => ⟨by simp, by simp⟩, fun h => by cases h⟩
theorem take_succ' {l : List Int} {k : Nat} (hk : k < l.length) : l.take (k + 1) = l.take k ++ [l[k]] := List.take_succ_eq_append_getElem hk
theorem drop_lt {l : List Int} (ha : l.Pairwise (· < ·)) {k : Nat} (hk : k < l.length) : ∀ y, y ∈ l.drop (k + 1) → l[k] < y := by
  have h1 : l.drop k = l[k] :: l.drop (k + 1) := List.drop_eq_getElem_cons hk
  have h2 := ha.sublist (List.drop_sublist k l)
  rw [h1, List.pairwise_cons] at h2
  exact h2.1
/-- The element comes behind. -/
theorem InsS.next {l : List Int} {n : Int} {k : Nat} {put : Bool} {o : List Int} (h : InsS l n k put o) (ha : l.Pairwise (· < ·)) (hk : k < l.length) (hp : put = false → l[k] < n) : InsS l n (k + 1) put (o ++ [l[k]]) := by
  refine ⟨by have := h.len; simp; omega, fun hf => ?_, fun ht => ?_⟩
  · obtain ⟨h1, h2⟩ := h.no hf
    refine ⟨by rw [h1, take_succ' hk], fun x hx => ?_⟩
    rw [take_succ' hk] at hx
    rcases List.mem_append.1 hx with hx | hx
    · exact h2 x hx
    · simp only [List.mem_singleton] at hx; subst hx; exact hp hf
  · obtain ⟨h1, h2, h3⟩ := h.yes ht
    have hdr : l.drop k = l[k] :: l.drop (k + 1) := List.drop_eq_getElem_cons hk
    have hin : l[k] ∈ l.drop k := hdr ▸ List.mem_cons_self
    refine ⟨List.pairwise_append.2 ⟨h1, List.pairwise_singleton _ _, fun x hx y hy => by simp only [List.mem_singleton] at hy; subst hy; exact h3 x hx _ hin⟩, fun m => ?_, fun x hx y hy => ?_⟩
    · rw [take_succ' hk]
      simp only [List.mem_append, List.mem_singleton, h2 m]
      constructor
      · rintro ((h | h) | h)
        · exact .inl (.inl h)
        · exact .inr h
        · exact .inl (.inr h)
      · rintro ((h | h) | h)
        · exact .inl (.inl h)
        · exact .inr h
        · exact .inl (.inr h)
    · rcases List.mem_append.1 hx with hx | hx
      · exact h3 x hx y (hdr ▸ List.mem_cons_of_mem _ hy)
      · simp only [List.mem_singleton] at hx; subst hx; exact drop_lt ha hk y hy
/-- n comes, and the element behind it. -/
theorem InsS.both {l : List Int} {n : Int} {k : Nat} {o : List Int} (h : InsS l n k false o) (ha : l.Pairwise (· < ·)) (hk : k < l.length) (hn : n < l[k]) : InsS l n (k + 1) true (o ++ [n] ++ [l[k]]) := by
  obtain ⟨rfl, h2⟩ := h.no rfl
  have hlen : (l.take k).length = k := by simp; omega
  refine ⟨by simp; omega, (fun hf => by cases hf), fun _ => ⟨?_, fun m => ?_, fun x hx y hy => ?_⟩⟩
  · have h3 : (l.take k).Pairwise (· < ·) := ha.sublist (List.take_sublist k l)
    refine List.pairwise_append.2 ⟨List.pairwise_append.2 ⟨h3, List.pairwise_singleton _ _, fun x hx y hy => by simp only [List.mem_singleton] at hy; subst hy; exact h2 x hx⟩, List.pairwise_singleton _ _, fun x hx y hy => ?_⟩
    simp only [List.mem_singleton] at hy
    subst hy
    rcases List.mem_append.1 hx with hx | hx
    · have := h2 x hx; omega
    · simp only [List.mem_singleton] at hx; omega
  · rw [take_succ' hk]
    simp only [List.mem_append, List.mem_singleton]
    constructor
    · rintro ((h | h) | h)
      · exact .inl (.inl h)
      · exact .inr h
      · exact .inl (.inr h)
    · rintro ((h | h) | h)
      · exact .inl (.inl h)
      · exact .inr h
      · exact .inl (.inr h)
  · have hy' := drop_lt ha hk y hy
    rcases List.mem_append.1 hx with hx | hx
    · rcases List.mem_append.1 hx with hx | hx
      · have := h2 x hx; omega
      · simp only [List.mem_singleton] at hx; omega
    · simp only [List.mem_singleton] at hx; omega
theorem InsS.doneT {l : List Int} {n : Int} {o : List Int} (h : InsS l n l.length true o) : InsI l n o := by
  obtain ⟨h1, h2, _⟩ := h.yes rfl
  rw [List.take_length] at h2
  exact ⟨h1, h2, h.len⟩
theorem InsS.doneF {l : List Int} {n : Int} {o : List Int} (h : InsS l n l.length false o) (ha : l.Pairwise (· < ·)) : InsI l n (o ++ [n]) := by
  obtain ⟨h1, h2⟩ := h.no rfl
  rw [List.take_length] at h1 h2
  subst h1
  exact ⟨List.pairwise_append.2 ⟨ha, List.pairwise_singleton _ _, fun x hx y hy => by simp only [List.mem_singleton] at hy; subst hy; exact h2 x hx⟩, by simp, by simp⟩

/-- What inserted returns. -/
def Inserted (v : Value) (l : List Int) (n : Int) (w : World) (e : Ending) (w' : World) : Prop := Fr [] w w' ∧ ∃ v' l', e = .returned v' ∧ IntsR w' v' l' ∧ InsI l n l' ∧ ∀ g, v'.ownBlock = some g → (v.ownBlock = some g ∨ w.heap.size ≤ g) ∧ g < w'.heap.size

set_option maxRecDepth 100000 in
set_option maxHeartbeats 1000000 in
theorem inserted_c (v : Value) (l : List Int) (n : Int) (w : World) (h : IntsR w v l) (ha : l.Pairwise (· < ·)) (hl : l.length ≤ 1000) (hvl : ∀ g, v.ownBlock = some g → g < w.heap.size) :
    Calls Try.prog 20 #[v, .int .i64 n] w (Inserted v l n w) := by
  obtain ⟨va, vp, rfl⟩ := h.sl.val
  have HI := Lib.hid h; have HA := Lib.hid ha; have HVL := Lib.hid hvl
  clear h ha hvl
  go_enter Try.func20, Try.ntmps20
  go_wp2_with fail
  go_loopw [5, 6, 7] (fun v b i wr => ∃ (k : Nat) (put : Bool) (o : List Int), k ≤ l.length ∧ i = .int .i64 k ∧ b = .bool put ∧ o.length ≤ k + 1 ∧ Hid (OI w v o wr) ∧ Hid (InsS l n k put o)) (fun _ _ i _ => l.length - (intOf i).toNat)
  case atStart => exact ⟨0, false, [], Nat.zero_le _, rfl, rfl, by simp, Lib.hid (OI.start w), Lib.hid (InsS.start l n)⟩
  case round =>
    obtain ⟨k, put, o, hk, rfl, rfl, hol, H, HS⟩ := hrel
    obtain ⟨ao, po, rfl⟩ := (sl_of_row H.out.row).val
    by_cases hlt : k < l.length
    · obtain ⟨b, off, hb, hc⟩ := (HI.out.same H.out.fr).sl.at_ (by omega)
      subst hb
      have DX : Hid (∀ W, Fr [] w W → W.cell? ⟨b, off + k, none⟩ = some (.int .i64 l[k])) := Lib.hid fun W hf => by
        obtain ⟨b', off', hb, hc⟩ := (HI.out.same hf).sl.at_ (by omega)
        cases hb
        exact hc k _ (by simp [intC, hlt])
      have d0 := DX.out _ H.out.fr
      clear hc
      by_cases he : l[k] = n
      · have HM : Hid (n ∈ l) := Lib.hid (he ▸ List.getElem_mem hlt)
        rw [he] at d0
        clear he
        go_wp2_with fail
        go_ret
        refine ⟨H.out.fr, _, l, rfl, HI.out.same H.out.fr, ⟨HA.out, fun m => ⟨.inl, fun h => ?_⟩, by omega⟩, fun g hg => ⟨.inl hg, Nat.lt_of_lt_of_le (HVL.out g hg) H.out.fr.size⟩⟩
        rcases h with h | h
        · exact h
        · subst h; exact HM.out
      · have he1 : (l[k] == n) = false := by simpa using he
        have HX := HS.out.next HA.out hlt
        have HB := fun (hp : put = false) (hn : n < l[k]) => InsS.both (by have := HS.out; rwa [hp] at this) HA.out hlt hn
        have HNX := Lib.hid HX; have HBX := Lib.hid HB
        clear HX HB
        generalize l[k] = x at *
        cases put with
        | true =>
          go_wp2_with (first | ((with_reducible refine wpList_of_wp (o := ⟨some 41, _, _, _, _, _⟩) rfl (fun K hK => ?_)); refine wp_push_int (.tmp 35) (.tmp 40) rfl _ o x H.out rfl rfl (by omega) ?_; intro ga cap W1 H1'; have H1 := Lib.hid H1'; clear H1'; refine hK _ _ ?_; clear hK))
          go_roundw
          case rel => exact ⟨k + 1, true, o ++ [x], by omega, by go_num, rfl, by simp; omega, H1, Lib.hid (HNX.out (by simp))⟩
          case measure => simp [intOf]; omega
        | false =>
          by_cases hn : n < x
          · have hd : decide (n < x) = true := by simpa using hn
            go_wp2_with (first | ((with_reducible refine wpList_of_wp (o := ⟨some 34, _, _, _, _, _⟩) rfl (fun K hK => ?_)); refine wp_push_int (.tmp 31) (.tmp 33) rfl _ o n H.out rfl rfl (by omega) ?_; intro ga cap W1 H1'; have H1 := Lib.hid H1'; clear H1'; have d1 := DX.out _ H1.out.fr; refine hK _ _ ?_; clear hK) | ((with_reducible refine wpList_of_wp (o := ⟨some 41, _, _, _, _, _⟩) rfl (fun K hK => ?_)); refine wp_push_int (.tmp 35) (.tmp 40) rfl _ (o ++ [n]) x H1.out rfl rfl (by simp; omega) ?_; intro gb cap2 W2 H2'; simp only [List.length_append, List.length_cons, List.length_nil, Nat.zero_add] at H2' ⊢; have H2 := Lib.hid H2'; clear H2'; refine hK _ _ ?_; clear hK))
            go_roundw
            case rel => exact ⟨k + 1, true, o ++ [n] ++ [x], by omega, by go_num, rfl, by simp; have := (HBX.out rfl hn).len; simp at this; omega, H2, Lib.hid (HBX.out rfl hn)⟩
            case measure => simp [intOf]; omega
          · have hd : decide (n < x) = false := by simpa using hn
            have hx : x < n := by omega
            clear hn
            go_wp2_with (first | ((with_reducible refine wpList_of_wp (o := ⟨some 41, _, _, _, _, _⟩) rfl (fun K hK => ?_)); refine wp_push_int (.tmp 35) (.tmp 40) rfl _ o x H.out rfl rfl (by omega) ?_; intro ga cap W1 H1'; have H1 := Lib.hid H1'; clear H1'; refine hK _ _ ?_; clear hK))
            go_roundw
            case rel => exact ⟨k + 1, false, o ++ [x], by omega, by go_num, rfl, by simp; omega, H1, Lib.hid (HNX.out (fun _ => hx))⟩
            case measure => simp [intOf]; omega
    · obtain rfl : k = l.length := by omega
      cases put with
      | true =>
        go_wp2_with fail
        go_ret
        exact ⟨H.out.fr, _, o, rfl, intsR_of_row H.out.row, HS.out.doneT, fun g hg => ⟨.inr (H.out.new g hg), ownsRow_lt H.out.row hg⟩⟩
      | false =>
        go_wp2_with (first | ((with_reducible refine wpList_of_wp (o := ⟨some 47, _, _, _, _, _⟩) rfl (fun K hK => ?_)); refine wp_push_int (.tmp 44) (.tmp 46) rfl _ o n H.out rfl rfl (by omega) ?_; intro ga cap W1 H1'; have H1 := Lib.hid H1'; clear H1'; refine hK _ _ ?_; clear hK))
        go_ret
        exact ⟨H1.out.fr, _, o ++ [n], rfl, intsR_of_row H1.out.row, HS.out.doneF HA.out, fun g hg => ⟨.inr (H1.out.new g hg), ownsRow_lt H1.out.row hg⟩⟩

theorem has8_c (f t s : Int) (w : World) : Calls Try.prog 17 #[.agg #[.int .i64 f, .int .i64 t], .int .i64 s] w fun e w' => e = .returned (.bool (hasB f t s)) ∧ Fr [] w w' := by
  have e : hasB f t s = (decide (f ≤ s) && decide (s < t)) := by
    rw [Bool.eq_iff_iff]; simp only [hasB, isInB, Bool.and_eq_true, decide_eq_true_eq]; omega
  rw [e]
  by_cases h : f ≤ s
  · have hd : decide (f ≤ s) = true := by simpa using h
    rw [hd]
    go_enter Try.func17, Try.ntmps17
    go_wp2_with fail
    go_ret
    exact ⟨rfl, Fr.alloc _ _ _⟩
  · have hd : decide (f ≤ s) = false := by simpa using h
    rw [hd]
    go_enter Try.func17, Try.ntmps17
    go_wp2_with fail
    go_ret
    exact ⟨rfl, Fr.alloc _ _ _⟩

/-- The first place of n. -/
def idxI (l : List Int) (n : Int) : Int := match l.findIdx? (· == n) with
  | some i => i
  | none => -1
set_option maxRecDepth 100000 in
theorem index8_c (v : Value) (l : List Int) (n : Int) (w : World) (h : IntsAt w v l) : Calls Try.prog 19 #[v, .int .i64 n] w fun e w' => e = .returned (.int .i64 (idxI l n)) ∧ w = w' := by
  obtain ⟨va, vp, rfl⟩ := h.val
  have hl := h.len
  have HI := Lib.hid h
  clear h
  go_enter Try.func19, Try.ntmps19
  go_wp2_with fail
  go_loop [5] (fun i => ∃ k : Nat, k ≤ l.length ∧ i = .int .i64 k ∧ Hid (∀ x, x ∈ l.take k → x ≠ n)) (fun i => l.length - (intOf i).toNat)
  case atStart => exact ⟨0, Nat.zero_le _, rfl, Lib.hid (by simp)⟩
  case round =>
    obtain ⟨k, hk, rfl, H⟩ := hrel
    by_cases hlt : k < l.length
    · obtain ⟨b, off, hb, hc⟩ := HI.out.at_ (by omega)
      subst hb
      have d0 := hc k (.int .i64 l[k]) (by simp [intC, hlt])
      clear hc
      by_cases he : l[k] = n
      · have HX : Hid (idxI l n = k) := Lib.hid (by
          unfold idxI
          have : l.findIdx? (· == n) = some k := by
            rw [List.findIdx?_eq_some_iff_getElem]
            refine ⟨hlt, by simpa using he, fun j hj => ?_⟩
            have := H.out l[j] (by rw [List.mem_take_iff_getElem]; exact ⟨j, by omega, rfl⟩)
            simpa using this
          rw [this])
        have he1 : (l[k] == n) = true := by simpa using he
        rw [he] at d0
        clear he he1
        go_wp2_with fail
        go_ret
        exact ⟨by rw [HX.out]; rfl, rfl⟩
      · have he1 : (l[k] == n) = false := by simpa using he
        have HX : Hid (∀ x, x ∈ l.take (k + 1) → x ≠ n) := Lib.hid fun x hx => by
          rw [take_succ' hlt] at hx
          rcases List.mem_append.1 hx with hx | hx
          · exact H.out x hx
          · simp only [List.mem_singleton] at hx; subst hx; exact he
        generalize l[k] = x at *
        clear he
        go_wp2_with fail
        go_round
        case rel => exact ⟨k + 1, by omega, by go_num, HX⟩
        case measure => simp [intOf]; omega
    · obtain rfl : k = l.length := by omega
      have HX : Hid (idxI l n = -1) := Lib.hid (by
        unfold idxI
        have : l.findIdx? (· == n) = none := by
          rw [List.findIdx?_eq_none_iff]
          intro x hx
          have := H.out x (by rw [List.take_length]; exact hx)
          simpa using this
        rw [this])
      go_wp2_with fail
      go_ret
      exact ⟨by rw [HX.out]; rfl, rfl⟩

end Go.Proofs.Ytljdenoheflkoaa
