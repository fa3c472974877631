/-
  A row of hands that a call has made since a world.
-/
import Derived.Test.YtahfpadaoobkfaaGreatDoorQAtW
import Derived.Test.YtahfpadaoobkfaaGreatDoorQAtX
import Derived.Test.YtahfpadaoobkfaaGreatDoorQS29
import Derived.Test.YtahfpadaoobkfaaGreatDoorQS21
namespace Go.Proofs.YtahfpadaoobkfaaGreatDoor
open Go.RowKit Go.Lib

theorem flat_setZ {α : Type} {enc : α → List Value} {c : Nat} (hc : ∀ x, (enc x).length = c) : ∀ (l : List α) (k j : Nat) (x : α) (u : Value) (hk : k < l.length), j < c → (enc l[k]).set j u = enc x → (l.flatMap enc).set (k * c + j) u = (l.set k x).flatMap enc
  | [], k, _, _, _, hk, _, _ => by simp at hk
  | y :: l, 0, j, x, u, _, hj, hx => by
    simp only [List.getElem_cons_zero] at hx
    simp only [List.flatMap_cons, List.set_cons_zero, Nat.zero_mul, Nat.zero_add]
    rw [List.set_append_left _ _ (by rw [hc]; exact hj), hx]
  | y :: l, k + 1, j, x, u, hk, hj, hx => by
    simp only [List.getElem_cons_succ] at hx
    simp only [List.flatMap_cons, List.set_cons_succ]
    rw [List.set_append_right _ _ (by rw [hc, Nat.succ_mul]; omega), ← flat_setZ hc l k j x u (by simpa using hk) hj hx]
    congr 2
    rw [hc, Nat.succ_mul]; omega
theorem row_setZ {α : Type} {enc : α → List Value} {c : Nat} (hc : ∀ x, (enc x).length = c) {w : World} {e : TypeId} {g cap n : Nat} {l : List α} (_hn : n = l.length) (h : w.ownsRow 0 e c (.slice (some ⟨g, 0, none⟩) n cap) n (l.flatMap enc)) (k j : Nat) (x : α) (u : Value) (hk : k < l.length) (hj : j < c) (hx : (enc l[k]).set j u = enc x) :
    (w.setCell ⟨g, k * c + j, none⟩ u).ownsRow 0 e c (.slice (some ⟨g, 0, none⟩) n cap) n ((l.set k x).flatMap enc) := by
  have h1 := row_set h (k * c + j) u (by
    rw [flat_len hc]
    have : (k + 1) * c ≤ l.length * c := Nat.mul_le_mul_right c hk
    rw [Nat.succ_mul] at this
    omega)
  rw [flat_setZ hc l k j x u hk hj hx] at h1
  exact h1
theorem noPanic_nmZ {Q : Exit → Act → World → Prop} {a : Act} {w : World} (h : Q .normal a w) : NoPanic Q .normal a w := h
theorem infoHdT : (Tryz.prog.info? 60).map (fun i => (i.zero, i.size, i.bytes)) = some (some (.agg #[.int .i64 0, .int .i64 0, .string ⟨#[]⟩]), 3, 32) := by kernel_rfl
theorem hdC_len (h : Hd) : (hdC h).length = 3 := rfl
theorem hds_one (l : List Hd) : ∀ u, u ∈ l.flatMap hdC → u.oneCell' = true := fun u hu => by
  obtain ⟨r, _, hr⟩ := List.mem_flatMap.1 hu
  simp only [hdC, List.mem_cons, List.not_mem_nil, or_false] at hr
  rcases hr with rfl | rfl | rfl <;> rfl
structure HdY (w W : World) (v : Value) (l : List Hd) : Prop where
  row : W.ownsRow 0 60 3 v l.length (l.flatMap hdC)
  young : ∀ g, v.ownBlock = some g → w.heap.size ≤ g
  fr : Fr [] w W
theorem HdY.nil {w W : World} (hf : Fr [] w W) : HdY w W (.slice none 0 0) [] := ⟨World.ownsRow_nil _ _ _ _, (fun g hg => by cases hg), hf⟩
theorem HdY.same {w W W' : World} {v : Value} {l : List Hd} (h : HdY w W v l) (hf : Fr [] W W') : HdY w W' v l := ⟨row_fr h.row hf (by simp), h.young, h.fr.trans hf⟩
theorem HdY.at_ {w W : World} {v : Value} {l : List Hd} (h : HdY w W v l) : HdsAt W v l := sl_of_row h.row
theorem HdY.older {w w0 W : World} {v : Value} {l : List Hd} (h : HdY w W v l) (hf : Fr [] w0 w) : HdY w0 W v l := ⟨h.row, fun g hg => Nat.le_trans hf.size (h.young g hg), hf.trans h.fr⟩
theorem wp_hd_app {w W : World} {o : Oper} {a : Act} {K : Act → World → Prop} {Q : Exit → Act → World → Prop} (s x : Operand) (ho : o.op = .call { callee := .builtin .append, args := #[s, x], argTypes := #[42, 42] })
    (v : Value) (l : List Hd) (sv : Value) (rs : List Hd) (hs : a.eval s = v) (hx : a.eval x = sv) (h : HdY w W v l) (hsrc : SrcAt W sv rs.length (rs.flatMap hdC)) (hl : l.length + rs.length ≤ 100000)
    (hK : ∀ v' W', HdY w W' v' (l ++ rs) → Fr v.ownBlock.toList W W' → ((v'.ownBlock = v.ownBlock ∨ v'.ownBlock = some W.heap.size)) → K (a.put o.dst v') W') : o.wp Tryz.prog a W K Q := by
  refine wp_append_src s x 42 60 (.agg #[.int .i64 0, .int .i64 0, .string ⟨#[]⟩]) 3 32 ho Tryz.underlying42 infoHdT rfl (by decide) v l.length (l.flatMap hdC) hs h.row sv rs.length (rs.flatMap hdC) hx hsrc (by rw [flat_len (enc := hdC) (k := 3) hdC_len]) (fun u hu => ?_) (by omega) (by omega) ?_
  · obtain ⟨r, _, hr⟩ := List.mem_flatMap.1 hu
    simp only [hdC, List.mem_cons, List.not_mem_nil, or_false] at hr
    rcases hr with rfl | rfl | rfl <;> rfl
  intro ga cap W' r1 f1 o1
  refine hK _ _ ⟨by simpa using r1, fun g' hg' => ?_, h.fr.step f1 (fun i hi => .inr (h.young i (by simpa using hi)))⟩ f1 o1
  rcases o1 with h1 | h1
  · exact h.young g' (h1 ▸ hg')
  · rw [hg'] at h1
    have := h.fr.size
    simp at h1; omega
theorem HdY.stamped {w W : World} {g n cap : Nat} {l : List Hd} (h : HdY w W (.slice (some ⟨g, 0, none⟩) n cap) l) (hn : n = l.length) (k : Nat) (hk : k < l.length) (s : ByteArray) : HdY w (W.setCell ⟨g, k * 3 + 2, none⟩ (.string s)) (.slice (some ⟨g, 0, none⟩) n cap) (l.set k ⟨l[k].car, l[k].lev, s⟩) := by
  subst hn
  have hg := h.young g rfl
  have := row_setZ hdC_len rfl h.row k 2 ⟨l[k].car, l[k].lev, s⟩ (.string s) hk (by omega) rfl
  exact ⟨by simpa using this, h.young, h.fr.step (Fr.setCell (fp := [g]) _ _ (by simp)) (fun i hi => .inr (by simp at hi; omega))⟩
theorem HdY.level {w W : World} {g n cap : Nat} {l : List Hd} (h : HdY w W (.slice (some ⟨g, 0, none⟩) n cap) l) (hn : n = l.length) (k : Nat) (hk : k < l.length) (z : Int) : HdY w (W.setCell ⟨g, k * 3 + 1, none⟩ (.int .i64 z)) (.slice (some ⟨g, 0, none⟩) n cap) (l.set k ⟨l[k].car, z, l[k].sig⟩) := by
  subst hn
  have hg := h.young g rfl
  have := row_setZ hdC_len rfl h.row k 1 ⟨l[k].car, z, l[k].sig⟩ (.int .i64 z) hk (by omega) rfl
  exact ⟨by simpa using this, h.young, h.fr.step (Fr.setCell (fp := [g]) _ _ (by simp)) (fun i hi => .inr (by simp at hi; omega))⟩

theorem keyM_size (c : Nat) : (keyM c).size = 32 := by rw [keyM, str_size, List.length_replicate]
theorem allK_len : allK.length = 8 := by simp [allK]
theorem allK_size {k : ByteArray} (h : k ∈ allK) : k.size = 32 := by
  obtain ⟨c, _, rfl⟩ := List.mem_map.1 h
  exact keyM_size c
theorem known_mem {keys : List ByteArray} {s : Nat} {k : ByteArray} (h : k ∈ knownM keys s) : k ∈ keys ∨ k = ByteArray.empty := by
  unfold knownM at h
  obtain ⟨i, hi, rfl⟩ := List.getElem_of_mem h
  rw [List.getElem_mapIdx]
  split
  · exact .inl (List.getElem_mem _)
  · exact .inr rfl
theorem knownM_len (keys : List ByteArray) (s : Nat) : (knownM keys s).length = keys.length := by simp [knownM]
theorem known_size {s : Nat} {k : ByteArray} (h : k ∈ knownM allK s) : k.size = 32 ∨ k.size = 0 := by
  rcases known_mem h with h | rfl
  · exact .inl (allK_size h)
  · exact .inr rfl
theorem known_ok (s : Nat) : keysOkB false (knownM allK s) = true := by
  unfold keysOkB
  rw [Bool.and_eq_true, List.all_eq_true]
  refine ⟨fun k hk => ?_, by rw [knownM_len, allK_len]; rfl⟩
  unfold keyOkB
  rcases known_size hk with h | h <;> rw [h] <;> rfl
/-- What carriers know, as numbers below 256. -/
theorem knowsM_at (ks : List Int) (c : Nat) (hc : c < ks.length) : ∃ s : Nat, s < 256 ∧ (knowsM ks)[c]? = some (s : Int) := by
  have hb := pickI_bound ks[c] 256 (by omega)
  refine ⟨(pickI ks[c] 256).toNat, by omega, ?_⟩
  rw [knowsM, List.getElem?_map, List.getElem?_eq_getElem hc, Option.map_some]
  congr 1; omega

end Go.Proofs.YtahfpadaoobkfaaGreatDoor
