/-
  statute: rules, Applies.
-/
import Derived.Test.YtfidioedjmjddaaGreatQStW3
import Derived.Test.YtfidioedjmjddaaGreatQSrtI
namespace Go.Proofs.YtfidioedjmjddaaGreat
open Go.RowKit Go.Lib

set_option maxRecDepth 100000 in
set_option maxHeartbeats 1000000 in
theorem rules1_c (r : Rp) (Bi Bq : Nat) (i : Int) (q : Qn) (w : World) (hi : w.heap[Bi]? = some (.cells #[.int .i64 i] 3 (0, 0))) (hq : w.heap[Bq]? = some (.cells #[.int .i64 q.thing, .int .i64 q.says, .int .i64 q.at_, .int .i64 q.known] 33 (0, 0))) :
    Calls Tryz.prog 67 #[rpV r, .pointer (some ⟨Bi, 0, none⟩), .pointer (some ⟨Bq, 0, none⟩)] w fun e w' => e = .returned (.bool (repB i q r)) ∧ Fr [] w w' := by
  obtain ⟨cl, pub, frm⟩ := r
  obtain ⟨th, sa, at_, kn⟩ := q
  simp only at hq
  unfold rpV repB
  simp only
  have k1 := heap_alloc_old (.cells #[.int .i64 cl, .int .i64 pub, .int .i64 frm] 60) hi
  have k2 := heap_alloc_old (.cells #[.int .i64 cl, .int .i64 pub, .int .i64 frm] 60) hq
  have c0 : (w.alloc (.cells #[.int .i64 cl, .int .i64 pub, .int .i64 frm] 60)).cell? ⟨Bi, 0, none⟩ = some (.int .i64 i) := cell_of_blk k1 0
  have c2 : (w.alloc (.cells #[.int .i64 cl, .int .i64 pub, .int .i64 frm] 60)).cell? ⟨Bq, 2, none⟩ = some (.int .i64 at_) := cell_of_blk k2 2
  have c3 : (w.alloc (.cells #[.int .i64 cl, .int .i64 pub, .int .i64 frm] 60)).cell? ⟨Bq, 3, none⟩ = some (.int .i64 kn) := cell_of_blk k2 3
  clear k1 k2 hi hq
  by_cases h1 : cl = i
  · subst h1
    by_cases h2 : pub ≤ kn
    · go_enter Tryz.func67, Tryz.ntmps67
      go_wp2_with fail
      go_ret
      exact ⟨by simp [h2], Fr.alloc _ _ _⟩
    · go_enter Tryz.func67, Tryz.ntmps67
      go_wp2_with fail
      go_ret
      exact ⟨by have : ¬ pub ≤ kn := by omega
                simp [this], Fr.alloc _ _ _⟩
  · go_enter Tryz.func67, Tryz.ntmps67
    go_wp2_with fail
    go_ret
    exact ⟨by simp [h1], Fr.alloc _ _ _⟩

set_option maxRecDepth 100000 in
theorem cfRp_rules (vr : Value) (Bi Bq : Nat) (i : Int) (q : Qn) (l : List Rp) (w : World) (h : Sl w vr l.length (l.flatMap rpC)) (hi : w.heap[Bi]? = some (.cells #[.int .i64 i] 3 (0, 0))) (hq : w.heap[Bq]? = some (.cells #[.int .i64 q.thing, .int .i64 q.says, .int .i64 q.at_, .int .i64 q.known] 33 (0, 0))) :
    Calls Tryz.prog 36 #[vr, .func (.func 67) #[] #[.pointer (some ⟨Bi, 0, none⟩), .pointer (some ⟨Bq, 0, none⟩)]] w fun e w' => e = .returned (.bool (l.any (repB i q))) ∧ Fr [] w w' := by
  obtain ⟨va, vcap, rfl⟩ := h.val
  refine (cfRp_c 67 #[.pointer (some ⟨Bi, 0, none⟩), .pointer (some ⟨Bq, 0, none⟩)] (fun _ _ => rfl) va vcap l (fun k => repB i q (l.getD k default)) (fun _ W => Fr [] w W) w (fun k W hJ => h.same hJ) ?_ (Fr.refl _ _)).mono ?_
  · intro k W hk _ hJ
    refine (rules1_c (l.getD k default) Bi Bq i q W (hJ.keep hi (by simp)) (hJ.keep hq (by simp))).mono ?_
    rintro e w' ⟨rfl, f⟩
    exact ⟨rfl, hJ.trans f⟩
  · rintro e w' ⟨rfl, k, hJ⟩
    exact ⟨by rw [anyN_list l (repB i q) default], hJ⟩

theorem alloc3' (w : World) (x y z : Obj) : (((w.alloc x).alloc y).alloc z).heap[w.heap.size]? = some x ∧ (((w.alloc x).alloc y).alloc z).heap[w.heap.size + 1]? = some y ∧ (((w.alloc x).alloc y).alloc z).heap[w.heap.size + 1 + 1]? = some z := by
  have h : ((w.alloc x).alloc y).heap.size = w.heap.size + 1 + 1 := by simp
  exact ⟨heap_alloc_old _ (alloc2' w x y).1, heap_alloc_old _ (alloc2' w x y).2, h ▸ heap_alloc_new ((w.alloc x).alloc y) z⟩

set_option maxRecDepth 100000 in
set_option maxHeartbeats 4000000 in
theorem rules_c (vc vr vf : Value) (ys : List ClV) (c : Rb) (i : Nat) (q : Qn) (w : World) (h : RbAt w vc vr vf ys c) (hi : i < ys.length) (hv : clB (ys[i].x) = true) :
    Calls Tryz.prog 52 #[rbV vc vr vf, .int .i64 i, qnV q] w fun e w' => e = .returned (.bool (rulesB c q i)) ∧ Fr [] w w' := by
  have hl := h.cls.sl.len
  obtain ⟨ac, pc, rfl⟩ := h.cls.sl.val
  obtain ⟨ar, pr, rfl⟩ := h.rps.val
  have A3 := alloc3' w (.cells #[.slice ac ys.length pc, .slice ar c.rps.length pr, vf] 30) (.cells #[.int .i64 i] 3) (.cells #[.int .i64 q.thing, .int .i64 q.says, .int .i64 q.at_, .int .i64 q.known] 33)
  have F3 : Fr [] w (((w.alloc (.cells #[.slice ac ys.length pc, .slice ar c.rps.length pr, vf] 30)).alloc (.cells #[.int .i64 i] 3)).alloc (.cells #[.int .i64 q.thing, .int .i64 q.says, .int .i64 q.at_, .int .i64 q.known] 33)) := ((Fr.alloc _ _ _).trans (Fr.alloc _ _ _)).trans (Fr.alloc _ _ _)
  have h := h.same F3
  obtain ⟨b, off, hac, hc⟩ := h.cls.sl.at_ (by omega)
  subst hac
  have e1 : c.cls.getD i default = ys[i].x := by rw [h.eq]; simp [hi]
  have er : rulesB c q i = (decide ((ys[i].x).pub ≤ q.known) && hasB (ys[i].x).f (ys[i].x).t q.at_ && !c.rps.any (repB i q)) := by rw [rulesB, e1]
  rw [er]
  have d0 := hc (i * 6 + 0) _ ((flat_get (enc := clC) (k := 6) (fun _ => rfl) ys i hi 0 (by omega)).trans rfl)
  have d1 := hc (i * 6 + 1) _ ((flat_get (enc := clC) (k := 6) (fun _ => rfl) ys i hi 1 (by omega)).trans rfl)
  have d2 := hc (i * 6 + 2) _ ((flat_get (enc := clC) (k := 6) (fun _ => rfl) ys i hi 2 (by omega)).trans rfl)
  have d3 := hc (i * 6 + 3) _ ((flat_get (enc := clC) (k := 6) (fun _ => rfl) ys i hi 3 (by omega)).trans rfl)
  have d4 := hc (i * 6 + 4) _ ((flat_get (enc := clC) (k := 6) (fun _ => rfl) ys i hi 4 (by omega)).trans rfl)
  have d5 := hc (i * 6 + 5) _ ((flat_get (enc := clC) (k := 6) (fun _ => rfl) ys i hi 5 (by omega)).trans rfl)
  simp only [Nat.add_zero, ← Nat.add_assoc] at d0 d1 d2 d3 d4 d5
  clear hc e1 er
  obtain ⟨an, pn, hvn⟩ := (h.cls.needs ys[i] (List.getElem_mem hi)).val
  obtain ⟨ab, pb, hvb⟩ := (h.cls.bars ys[i] (List.getElem_mem hi)).val
  generalize ys[i] = y at *
  obtain ⟨⟨pub, f, t, needs, bars, gives⟩, vn, vb⟩ := y
  simp only at d0 d1 d2 d3 d4 d5 hv hvn hvb ⊢
  subst hvn hvb
  have Hq : Hid (∀ W : World, W.heap[w.heap.size + 1]? = some (.cells #[.int .i64 i] 3 (0, 0)) → W.heap[w.heap.size + 1 + 1]? = some (.cells #[.int .i64 q.thing, .int .i64 q.says, .int .i64 q.at_, .int .i64 q.known] 33 (0, 0)) → Fr [] (((w.alloc (.cells #[.slice (some ⟨b, off, none⟩) ys.length pc, .slice ar c.rps.length pr, vf] 30)).alloc (.cells #[.int .i64 i] 3)).alloc (.cells #[.int .i64 q.thing, .int .i64 q.says, .int .i64 q.at_, .int .i64 q.known] 33)) W → Calls Tryz.prog 36 #[.slice ar c.rps.length pr, .func (.func 67) #[] #[.pointer (some ⟨w.heap.size + 1, 0, none⟩), .pointer (some ⟨w.heap.size + 1 + 1, 0, none⟩)]] W fun e w' => e = .returned (.bool (c.rps.any (repB i q))) ∧ Fr [] W w') := Lib.hid fun W h1 h2 hf => cfRp_rules _ _ _ i q _ W (h.rps.same hf) h1 h2
  generalize c.rps.any (repB i q) = rp at *
  obtain ⟨th, sa, at_, kn⟩ := q
  simp only [clB, spellB, secB, Bool.and_eq_true, isInB_iff] at hv
  have B1 : Hid (-9223372036854775807 ≤ t ∧ t ≤ 9223372036854775807) := Lib.hid ⟨by omega, by omega⟩
  clear hv h
  unfold rbV qnV
  simp only at A3 F3 d0 d1 d2 d3 d4 d5 Hq ⊢
  generalize c.rps.length = nr at *
  have HA := Lib.hid A3; have HF := Lib.hid F3; clear A3 F3
  by_cases h1 : pub ≤ kn
  · go_enter Tryz.func52, Tryz.ntmps52
    go_wp2_with fail
    refine (has_c f t at_ _ B1.out).mono ?_
    rintro e w1 ⟨rfl, f1⟩
    have F1 := Lib.hid ((Fr.alloc [] _ _).trans f1)
    have K0 := F1.out.keep HA.out.1 (by simp)
    have K1 := Lib.hid (F1.out.keep HA.out.2.1 (by simp))
    have K2 := Lib.hid (F1.out.keep HA.out.2.2 (by simp))
    have g1 : w1.cell? ⟨w.heap.size, 1, none⟩ = some (.slice ar nr pr) := cell_of_blk K0 1
    clear K0 f1
    cases h2 : hasB f t at_
    · go_wp2_with fail
      go_ret
      exact ⟨by simp [h2], HF.out.trans F1.out⟩
    · go_wp2_with fail
      refine (Hq.out w1 K1.out K2.out F1.out).mono ?_
      rintro e w2 ⟨rfl, f2⟩
      have F2 := Lib.hid (F1.out.trans f2); clear f2
      go_wp2_with fail
      go_ret
      exact ⟨by simp [h1, h2], HF.out.trans F2.out⟩
  · go_enter Tryz.func52, Tryz.ntmps52
    go_wp2_with fail
    go_ret
    exact ⟨by have : ¬ pub ≤ kn := by omega
              simp [this], HF.out.trans (Fr.alloc _ _ _)⟩

/-- The state of the loops of Applies. -/
structure PickAt (w : World) (p : Nat → Bool) (k : Nat) (v : Value) (wr : World) : Prop where
  fr : Fr [] w wr
  row : wr.ownsRow 0 3 1 v (pickN p k).length (intC (pickN p k))
  new : ∀ g, v.ownBlock = some g → w.heap.size ≤ g
theorem pickN_pos {p : Nat → Bool} {k : Nat} (h : p k = true) : pickN p (k + 1) = pickN p k ++ [(k : Int)] := by simp [pickN, List.range_succ, List.filter_append, h]
theorem pickN_neg {p : Nat → Bool} {k : Nat} (h : p k = false) : pickN p (k + 1) = pickN p k := by simp [pickN, List.range_succ, List.filter_append, h]
theorem pickN_lt {p : Nat → Bool} {k : Nat} {x : Int} (h : x ∈ pickN p k) : 0 ≤ x ∧ x < k := by
  obtain ⟨i, h1, _, rfl⟩ := pickN_mem.1 h; omega
theorem pickN_sorted (p : Nat → Bool) (k : Nat) : (pickN p k).Pairwise (· < ·) := by
  unfold pickN
  rw [List.pairwise_map]
  exact ((List.pairwise_lt_range (n := k)).filter p).imp fun h => by omega
theorem pickN_len (p : Nat → Bool) (k : Nat) : (pickN p k).length ≤ k := by
  have := List.length_filter_le p (List.range k)
  simpa [pickN] using this
theorem PickAt.start (w : World) (p : Nat → Bool) : PickAt w p 0 (.slice none 0 0) w := ⟨Fr.refl _ _, ⟨by simp [pickN], .inl ⟨rfl, by simp [pickN]⟩⟩, fun g hg => by cases hg⟩
theorem PickAt.older {w0 w wr : World} {p : Nat → Bool} {k : Nat} {v : Value} (h : PickAt w p k v wr) (hf : Fr [] w0 w) : PickAt w0 p k v wr := ⟨hf.trans h.fr, h.row, fun g hg => Nat.le_trans hf.size (h.new g hg)⟩
theorem PickAt.same {w wr w2 : World} {p : Nat → Bool} {k : Nat} {v : Value} (h : PickAt w p k v wr) (hf : Fr [] wr w2) : PickAt w p k v w2 := ⟨h.fr.trans hf, ownsRow_keep h.row (fun g hg => hf.block g (ownsRow_lt h.row hg) (by simp)), h.new⟩
theorem PickAt.skip {w wr : World} {p : Nat → Bool} {k : Nat} {v : Value} (h : PickAt w p k v wr) (hp : p k = false) : PickAt w p (k + 1) v wr := ⟨h.fr, by rw [pickN_neg hp]; exact h.row, h.new⟩

theorem PickAt.insert {w wr : World} {p : Nat → Bool} {k : Nat} {v sv : Value} (h : PickAt w p k v wr) (hp : p k = true) (hk : k ≤ 1000000) (hs : SrcAt wr sv 1 [.int .i64 k]) :
    Calls Tryz.prog 51 #[v, sv] wr fun e w' => ∃ v', e = .returned v' ∧ PickAt w p (k + 1) v' w' ∧ Fr v.ownBlock.toList wr w' := by
  have hl := pickN_len p k
  refine (insert_c v sv (pickN p k) k wr h.row hs (pickN_sorted p k) (by omega)).mono ?_
  rintro e w' ⟨v', rfl, h1, h2, h3⟩
  rw [insI_last fun y hy => (pickN_lt hy).2, ← pickN_pos hp] at h1
  refine ⟨v', rfl, ⟨h.fr.step h2 (fun i hi => .inr (h.new i (by simpa using hi))), h1, fun g hg => ?_⟩, h2⟩
  rcases h3 g hg with h4 | h4
  · exact h.new g h4
  · exact Nat.le_trans h.fr.size h4

theorem srcAt_one (w : World) (x : Value) (e : TypeId) : SrcAt (w.alloc (.cells #[x] e)) (.slice (some ⟨w.heap.size, 0, none⟩) 1 1) 1 [x] :=
  ⟨.inr ⟨_, _, rfl, World.news_of_block (heap_alloc_new w (.cells #[x] e))⟩⟩

end Go.Proofs.YtfidioedjmjddaaGreat
