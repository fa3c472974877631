/-
  Arrays of words, further: a laid table, new arrays.
-/
import Derived.Test.YtahfpadaoobkfaaGreatDoorQS02
import Derived.Test.YtahfpadaoobkfaaGreatDoorQS01
import Derived.Test.YtahfpadaoobkfaaGreatDoorRows
import Derived.ProofKit
namespace Go.Proofs.YtahfpadaoobkfaaGreatDoor
open Go.RowKit Go.Lib

/-- The table of words is laid. -/
def kLaid (w : World) (C : Array Value) : Prop := ∃ t fz, w.heap[0]? = some (.cells C t fz)
abbrev RndAt (w : World) : Prop := kLaid w (u32A kTab)
theorem RndAt.same {w W : World} {S : List Nat} (h : RndAt w) (hf : Fr S w W) (hS : 0 ∉ S) : RndAt W := by
  obtain ⟨t, fz, h⟩ := h
  exact ⟨t, fz, hf.keep h hS⟩
section
variable {t : TypeId} {n : Nat} {e : TypeId}
theorem wp_arr_loadG {o : Oper} {a : Act} {W : World} {K : Act → World → Prop} {Q : Exit → Act → World → Prop} {b : Nat} {C : Array Value} {t' : TypeId} {fz : Nat × Nat} (x : Operand) (hu : Tryz.prog.underlying t = some (.array n e)) (hi : (Tryz.prog.info? t).map (·.size) = some C.size) (ho : o.op = .load t x) (hx : a.eval x = .pointer (some ⟨b, 0, none⟩)) (h : W.heap[b]? = some (.cells C t' fz)) (hk : K (a.put o.dst (.agg C)) W) : o.wp Tryz.prog a W K Q := by
  unfold Oper.wp execOp
  simp only [ho, hx, Instr.loadAt, Instr.sureAddr, Sem.run_bind, Sem.run_pure, Result.andThen_ok, run_loadVar_row W b t' t C fz _ h hu rfl hi]
  exact hk
end

set_option maxRecDepth 100000 in
theorem w64_alloc {ev : Operand → Value} {o : Oper} {W : World} (ho : o.op = .alloc 270) : (execOp ev o).run Tryz.prog W = .ok (.value (.pointer (some ⟨W.heap.size, 0, none⟩))) (W.alloc (.cells (u32A (List.replicate 64 0)) 270)) := by
  unfold execOp
  simp only [ho]
  go_simp
  rfl
set_option maxRecDepth 100000 in
theorem w64_alloc_store {ops : Array Oper} {rest : List Oper} {a : Act} {W : World} {Q : Exit → Act → World → Prop} (o1 o2 : Oper) (p : Tmp) (y : Operand) (C : List Int) (hC : C.length = 64) (g1 : o1.guard = none) (h1 : o1.op = .alloc 270) (d1 : o1.dst = some p) (g2 : o2.guard = none) (h2 : o2.op = .store 270 (.tmp p) y) (d2 : o2.dst = none)
    (hx : ∀ v, (a.put (some p) v).eval (.tmp p) = v) (hy : ∀ v, (a.put (some p) v).eval y = .agg (u32A C)) (h : wpList Tryz.prog ops Q rest (a.put (some p) (.pointer (some ⟨W.heap.size, 0, none⟩))) (W.alloc (.cells (u32A C) 270))) : wpList Tryz.prog ops Q (o1 :: o2 :: rest) a W := by
  refine wpList_plain g1 fun K hK => ?_
  unfold Oper.wp
  rw [w64_alloc h1, Oper.upon_value, d1]
  refine hK _ _ (wpList_plain g2 fun K' hK' => ?_)
  have hi : (Tryz.prog.info? 270).map (·.size) = some (u32A C).size := by rw [u32A_size, hC]; kernel_rfl
  refine wp_store_row 270 _ y h2 W.heap.size (u32A C) (hx _) (hy _) 270 (u32A (List.replicate 64 0)) (heap_alloc_new W _) hi (by rw [u32A_size, u32A_size, hC]; rfl) (u32A_one _) ?_
  rw [World.setRow_alloc_new, d2]
  exact hK' _ _ h

end Go.Proofs.YtahfpadaoobkfaaGreatDoor

/-
  An element of an array that is a value.
-/
namespace Go.Proofs.YtahfpadaoobkfaaGreatDoor
open Go.RowKit Go.Lib

theorem arr_index {t : TypeId} {n : Nat} {W : World} {l : List Int} {k : Nat} (hu : Tryz.prog.underlying t = some (.array n 225)) (hn : l.length = n) (hk : k < n) : (Instr.index t (.agg (u32A l)) (.int .i64 k)).run Tryz.prog W = .ok (.int .u32 (l.getD k 0)) W := by
  have hz : (sizeOf 225).run Tryz.prog W = .ok 1 W := by kernel_rfl
  have hg : (isAgg 225).run Tryz.prog W = .ok false W := by kernel_rfl
  simp only [Instr.index, asIntOf, Sem.run_bind, Sem.run_pure, Result.andThen_ok, run_underlying hu, part]
  rw [if_pos (by omega)]
  simp only [Sem.run_bind, Result.andThen_ok, hz, hg, Int.toNat_natCast, Nat.mul_one, u32A_get l k (by omega), Sem.run_pure, Bool.false_eq_true, if_false]

end Go.Proofs.YtahfpadaoobkfaaGreatDoor

/-
  digest: rotations and mixed.
-/
namespace Go.Proofs.YtahfpadaoobkfaaGreatDoor
open Go.RowKit Go.Lib

theorem rot_and : ∀ n : Fin 32, 1 ≤ n.val → bits .and .u64 (IntKind.u64.wrap (IntKind.i64.wrap (-(n.val : Int)))) 31 = ((32 - n.val : Nat) : Int) := by decide
theorem rot_sub (n : Nat) (h : 1 ≤ n ∧ n ≤ 31) : IntKind.u64.wrap (32 - ((32 - n : Nat) : Int)) = (n : Int) := by rw [IntKind.wrap_u64]; omega

set_option maxRecDepth 100000 in
theorem rotl_c (x : Int) (n : Nat) (hn : 1 ≤ n ∧ n ≤ 31) (w : World) : Calls Tryz.prog 182 #[.int .u32 x, .int .i64 (-(n : Int))] w fun e w' => e = .returned (.int .u32 (ror x n)) ∧ w = w' := by
  have e1 := rot_and ⟨n, by omega⟩ hn.1
  simp only at e1
  have e2 := rot_sub n hn
  have e3 : IntKind.i64.wrap (-(n : Int)) = -(n : Int) := IntWalk.i64_in _ (by omega)
  rw [e3] at e1
  have hs : 0 ≤ ((32 - n : Nat) : Int) := by omega
  have e4 : (min (((32 - n : Nat) : Int)).toNat 32) = 32 - n := by omega
  have e5 : (min ((n : Nat) : Int).toNat 32) = n := by omega
  clear e3
  go_enter Tryz.func182, Tryz.ntmps182
  go_wp2_with fail
  go_ret
  exact ⟨rfl, rfl⟩

set_option maxRecDepth 100000 in
theorem mixed_c (x : Int) (v : Value) (l : List Int) (w : World) (h : IntsAt w v l) (hl : ∀ n, n ∈ l → 1 ≤ n ∧ n ≤ 31) : Calls Tryz.prog 178 #[.int .u32 x, v] w fun e w' => e = .returned (.int .u32 (mix x l)) ∧ Fr [] w w' := by
  obtain ⟨a, p, rfl⟩ := h.val
  have hlen := h.len
  have H := Lib.hid h
  clear h
  go_enter Tryz.func178, Tryz.ntmps178
  go_wp2_with fail
  go_loopw [5, 10] (fun s i wr => ∃ k : Nat, k ≤ l.length ∧ i = .int .i64 k ∧ s = .int .u32 (mixGo x (l.take k) 0) ∧ Hid (Fr [] w wr)) (fun _ i _ => l.length - (intOf i).toNat)
  case atStart => exact ⟨0, Nat.zero_le _, rfl, rfl, Lib.hid (Fr.refl _ _)⟩
  case round =>
    obtain ⟨k, hk, rfl, rfl, HF⟩ := hrel
    by_cases hlt : k < l.length
    · obtain ⟨b, off, ha, hc⟩ := (H.out.same HF.out).at_ (by omega)
      subst ha
      have c0 : wr.cell? ⟨b, off + k, none⟩ = some (.int .i64 l[k]) := hc k _ (by simp [intC, hlt])
      have hn := hl l[k] (List.getElem_mem hlt)
      have HT : Hid (mixGo x (l.take (k + 1)) 0 = xorI (mixGo x (l.take k) 0) (ror x (l[k]).toNat)) := Lib.hid (by rw [List.take_succ_eq_append_getElem hlt, mixGo_snoc])
      generalize l[k] = n at *
      obtain ⟨m, rfl⟩ := Int.eq_ofNat_of_zero_le (show 0 ≤ n by omega)
      have CR := Lib.hid fun W => rotl_c x m ⟨by omega, by omega⟩ W
      clear hc
      go_wp2_with fail
      refine (CR.out _).mono ?_
      rintro e w0 ⟨rfl, rfl⟩
      clear c0 CR
      go_wp2_with fail
      go_roundw
      case rel => exact ⟨k + 1, by omega, by go_num, by rw [HT.out]; rfl, HF⟩
      case measure => simp [intOf]; omega
    · obtain rfl : k = l.length := by omega
      go_wp2_with fail
      go_ret
      exact ⟨by rw [List.take_length]; rfl, HF.out⟩

end Go.Proofs.YtahfpadaoobkfaaGreatDoor

/-
  A region that draws its order, walked once (Reg.lean), where the LAST operation (fin) may break what the others rely on: no operation that is taken early can come behind it, for it waits for them.
-/
namespace Go.Proofs.YtahfpadaoobkfaaGreatDoor

section
variable {P : Program} {ops : Array Oper} {Q : Exit → Act → World → Prop} {S : World → Prop} {fin : Nat}

def Closed (ops : Array Oper) (listed : Array Bool) : Prop := ∀ k o, ops[k]? = some o → listed.getD k false = true → ∀ e ∈ o.after, Region.binds .any e = true → listed.getD e.on false = true
/-- Does f wait for i, at once or through others? -/
def waitsB (ops : Array Oper) : Nat → Nat → Nat → Bool
  | 0, _, _ => false
  | n + 1, i, f => match ops[f]? with
    | none => false
    | some o => o.after.any fun e => Region.binds .any e && (e.on == i || waitsB ops n i e.on)

theorem closed_set {listed : Array Bool} {j : Nat} (hc : Closed ops listed) (hj : j ∈ Region.ready .any ops listed) : Closed ops (listed.setIfInBounds j true) := by
  intro k o ho hk e he hb
  refine getD_set_true ?_
  by_cases hjk : j = k
  · subst hjk
    obtain ⟨_, oj, hoj, hall⟩ := mem_ready.1 hj
    rw [ho] at hoj
    cases hoj
    exact hall e he hb
  · rw [getD_set_ne false hjk] at hk
    exact hc k o ho hk e he hb
theorem waits_listed {listed : Array Bool} {i : Nat} (hc : Closed ops listed) : ∀ (n f : Nat), waitsB ops n i f = true → (listed.getD f false = true ∨ f ∈ Region.ready .any ops listed) → listed.getD i false = true
  | 0, _, h, _ => by simp [waitsB] at h
  | n + 1, f, h, hf => by
    unfold waitsB at h
    cases ho : ops[f]? with
    | none => simp [ho] at h
    | some o =>
      simp only [ho] at h
      have hp : ∀ e ∈ o.after, Region.binds .any e = true → listed.getD e.on false = true := by
        rcases hf with hf | hf
        · exact hc f o ho hf
        · obtain ⟨_, o', ho', hall⟩ := mem_ready.1 hf
          rw [ho] at ho'
          cases ho'
          exact hall
      rw [Array.any_eq_true] at h
      obtain ⟨x, hx, h⟩ := h
      simp only [Bool.and_eq_true, Bool.or_eq_true, beq_iff_eq] at h
      obtain ⟨hb, h1⟩ := h
      have he := Array.getElem_mem hx
      generalize o.after[x] = e at *
      have hl := hp e he hb
      rcases h1 with h1 | h1
      · rw [← h1]; exact hl
      · exact waits_listed hc n e.on h1 (.inl hl)

def wpAnyF (P : Program) (ops : Array Oper) (Q : Exit → Act → World → Prop) (S : World → Prop) (fin : Nat) : Nat → Array Bool → Act → World → Prop
  | 0, listed, a, w => Region.ready .any ops listed = [] ∧ Q .normal a w
  | fuel + 1, listed, a, w =>
    (Region.ready .any ops listed = [] → Q .normal a w) ∧
    ∀ i ∈ Region.ready .any ops listed, wpOp P ops Q i (fun a' w' => ((listed.setIfInBounds i true).getD fin false = true ∨ S w') ∧ wpAnyF P ops Q S fin fuel (listed.setIfInBounds i true) a' w') a w
theorem wpAny_of_F : ∀ (fuel : Nat) (listed : Array Bool) (a : Act) (w : World), wpAnyF P ops Q S fin fuel listed a w → wpAny P .any ops Q fuel listed a w
  | 0, _, _, _, h => h
  | fuel + 1, _, _, _, h => ⟨h.1, fun i hi => wpOp_mono (fun a' w' h' => wpAny_of_F fuel _ a' w' h'.2) (h.2 i hi)⟩

theorem wpAnyF_first {i m : Nat} {oi : Oper} {v : Value} (hi : ops[i]? = some oi) (hsel : ∀ (j : Nat) (o : Oper) cs b, ops[j]? = some o → o.op ≠ .select cs b)
    (hQ : ∀ c a w, Q (.panic c) (a.put oi.dst v) w → Q (.panic c) a w) (hw : waitsB ops m i fin = true) :
    ∀ (fuel : Nat) (listed : Array Bool) (a : Act) (w : World), Closed ops listed →
      (∀ j oj, ops[j]? = some oj → j ≠ i → listed.getD j true = false → (∀ e ∈ oj.after, Region.binds .any e = true → e.on ≠ i) → oi.apart ops oj = true) →
      i ∈ Region.ready .any ops listed → YieldsIf P ops S oi v a → S w →
      wpAnyF P ops Q S fin fuel (listed.setIfInBounds i true) (a.put oi.dst v) w → wpAnyF P ops Q S fin (fuel + 1) listed a w := by
  intro fuel
  induction fuel with
  | zero =>
    intro listed a w _ _ hr hy hS H
    refine ⟨fun h => (by rw [h] at hr; cases hr), fun j hj => ?_⟩
    by_cases hji : j = i
    · subst hji; exact hy.wpOp hi hS ⟨.inr hS, H⟩
    · have := ready_mono hj hji
      rw [H.1] at this
      cases this
  | succ fuel ih =>
    intro listed a w hc hfree hr hy hS H
    refine ⟨fun h => (by rw [h] at hr; cases hr), fun j hj => ?_⟩
    have hiun : ∀ {l : Array Bool}, i ∈ Region.ready .any ops l → l.getD i false = true → False := fun h0 h1 => by
      have h2 := (mem_ready.1 h0).1
      rename_i l
      rcases Nat.lt_or_ge i l.size with h' | h'
      · simp [h'] at h1 h2; rw [h2] at h1; cases h1
      · simp [Array.getElem?_eq_none h'] at h1
    by_cases hji : j = i
    · subst hji; exact hy.wpOp hi hS ⟨.inr hS, H⟩
    · have h1 := H.2 j (ready_mono hj hji)
      obtain ⟨hjun, oj, hoj, hall⟩ := mem_ready.1 hj
      have hnot : ∀ e ∈ oj.after, Region.binds .any e = true → e.on ≠ i := fun e he hb heq => hiun hr (heq ▸ hall e he hb)
      have h2 := wpOp_putIf hoj (hfree j oj hoj hji hjun hnot) (fun cs b => hsel i oi cs b hi) (fun cs b => hsel j oj cs b hoj) hQ hy h1
      have hfree' : ∀ k ok, ops[k]? = some ok → k ≠ i → (listed.setIfInBounds j true).getD k true = false →
          (∀ e ∈ ok.after, Region.binds .any e = true → e.on ≠ i) → oi.apart ops ok = true := fun k ok hk hki hun hno => by
        refine hfree k ok hk hki ?_ hno
        by_cases hjk : j = k
        · subst hjk; exact hjun
        · rw [getD_set_ne true hjk] at hun; exact hun
      have hr' := ready_mono hr (Ne.symm hji)
      have hc' := closed_set hc hj
      refine wpOp_mono (fun a' w' h3 => ?_) h2
      have hnf : ¬ (listed.setIfInBounds j true).getD fin false = true := fun hf => hiun hr' (waits_listed hc' m fin hw (.inl hf))
      have hS' : S w' := by
        rcases h3.2.1 with h4 | h4
        · exfalso
          by_cases hif : i = fin
          · have := waits_listed hc' m fin hw (.inr (hif ▸ hr'))
            exact hiun hr' this
          · rw [Array.setIfInBounds_comm _ _ (Ne.symm hji), getD_set_ne false hif] at h4
            exact hnf h4
        · exact h4
      refine ⟨.inr hS', ih (listed.setIfInBounds j true) a' w' hc' hfree' hr' h3.1 hS' ?_⟩
      rw [Array.setIfInBounds_comm _ _ hji]
      exact h3.2.2

/-- The given order is one that may be walked; what is taken early comes before fin. -/
def permF (ops : Array Oper) (fin : Nat) : List Nat → Array Bool → Bool
  | [], listed => (Region.ready .any ops listed).isEmpty
  | i :: rest, listed => (match ops[i]? with
      | none => false
      | some o => decide (i < listed.size) && if effB o then Region.ready .any ops listed == [i] else Region.free .any ops listed i && (Region.ready .any ops listed).contains i && waitsB ops ops.size i fin) && permF ops fin rest (listed.setIfInBounds i true)
def wpMixF (P : Program) (ops : Array Oper) (Q : Exit → Act → World → Prop) (S : World → Prop) (fin : Nat) : List Nat → Act → World → Prop
  | [], a, w => Q .normal a w
  | i :: rest, a, w => match ops[i]? with
    | none => False
    | some o => if effB o then wpOp P ops Q i (fun a' w' => (i = fin ∧ rest = [] ∨ S w') ∧ wpMixF P ops Q S fin rest a' w') a w else ∃ v, YieldsIf P ops S o v a ∧ S w ∧ wpMixF P ops Q S fin rest (a.put o.dst v) w

theorem wpAnyF_of_mix (hs : Region.noSelect ops = true) (hQ : ∀ (d : Option Tmp) (v : Value) c a w, Q (.panic c) (a.put d v) w → Q (.panic c) a w) :
    ∀ (perm : List Nat) (listed : Array Bool) (a : Act) (w : World), permF ops fin perm listed = true → Closed ops listed → wpMixF P ops Q S fin perm a w → wpAnyF P ops Q S fin perm.length listed a w
  | [], listed, a, w, hp, _, h => by
    simp only [permF, List.isEmpty_iff] at hp
    exact ⟨hp, h⟩
  | i :: rest, listed, a, w, hp, hc, h => by
    simp only [permF, Bool.and_eq_true] at hp
    obtain ⟨h1, h2⟩ := hp
    cases ho : ops[i]? with
    | none => simp [ho] at h1
    | some o =>
      simp only [ho, Bool.and_eq_true, decide_eq_true_eq] at h1
      obtain ⟨hsz, h1⟩ := h1
      simp only [wpMixF, ho] at h
      cases he : effB o with
      | true =>
        simp only [he, if_true, beq_iff_eq] at h1
        simp only [he, if_true] at h
        refine ⟨fun h0 => (by rw [h0] at h1; cases h1), fun j hj => ?_⟩
        have hj' := hj
        rw [h1] at hj
        simp only [List.mem_singleton] at hj
        subst hj
        refine wpOp_mono (fun a' w' hh => ⟨?_, wpAnyF_of_mix hs hQ rest _ a' w' h2 (closed_set hc hj') hh.2⟩) h
        rcases hh.1 with ⟨h3, _⟩ | h3
        · subst h3; exact .inl (by simp [hsz])
        · exact .inr h3
      | false =>
        simp only [he, Bool.false_eq_true, if_false, Bool.and_eq_true] at h1 h
        obtain ⟨v, hy, hS, h3⟩ := h
        have hr : i ∈ Region.ready .any ops listed := by simpa using h1.1.2
        exact wpAnyF_first ho (Region.noSelect_spec hs) (hQ o.dst v) h1.2 _ listed a w hc (Region.free_spec ho h1.1.1) hr hy hS (wpAnyF_of_mix hs hQ rest _ _ w h2 (closed_set hc hr) h3)

/-- THE BEGINNING. -/
theorem reg_fin {id : Nat} {a : Act} {w : World} {l : List Oper} (S : World → Prop) (fin : Nat) (perm : List Nat) (hm : P.follows .mixedOrders = true) (hs : Region.noSelect l.toArray = true) (hp : permF l.toArray fin perm (Array.replicate l.toArray.size false) = true) (hl : perm.length = l.toArray.size)
    (h : wpMixF P l.toArray (NoPanic Q) S fin perm a w.drew) : (Code.region id l.toArray true).wp P Q a w := by
  have hc : Closed l.toArray (Array.replicate l.toArray.size false) := fun k o _ hk => by
    exfalso
    rw [Array.getD_eq_getD_getElem?, Array.getElem?_replicate] at hk
    split at hk <;> cases hk
  have h2 := wpAnyF_of_mix hs (fun _ _ _ _ _ h => h) perm _ a _ hp hc h
  rw [hl] at h2
  exact wp_region_noPanic (wp_region_any hm (wpAny_of_F _ _ _ _ h2))

theorem fin_take {i : Nat} {d : Tmp} {rest : List Nat} {a : Act} {w : World} {o : Oper} {v : Value} (ho : ops[i]? = some o) (hod : o.dst = some d) (he : effB o = false) (hg : o.guard = none) (hS : S w)
    (hy : ∀ w, S w → (execOp a.eval o).run P w = .ok (.value v) w) (h : wpMixF P ops Q S fin rest { a with tmps := a.tmps.setIfInBounds d v } w) : wpMixF P ops Q S fin (i :: rest) a w := by
  simp only [wpMixF, ho, he, Bool.false_eq_true, if_false]
  exact ⟨v, .inl ⟨by simp [Region.wanted, hg], hy⟩, hS, by rw [put_some hod]; exact h⟩
theorem fin_do {i : Nat} {rest : List Nat} {a : Act} {w : World} {o : Oper} (ho : ops[i]? = some o) (he : effB o = true) (hg : o.guard = none)
    (h : ∀ K : Act → World → Prop, (∀ a' w', S w' → wpMixF P ops Q S fin rest a' w' → K a' w') → o.wp P a w K Q) : wpMixF P ops Q S fin (i :: rest) a w := by
  simp only [wpMixF, ho, he, if_true]
  unfold wpOp
  simp only [ho, Region.wanted, hg, if_true]
  exact .inl (h _ fun a' w' h1 h2 => ⟨.inr h1, h2⟩)
theorem fin_last {a : Act} {w : World} {o : Oper} (ho : ops[fin]? = some o) (he : effB o = true) (hg : o.guard = none)
    (h : ∀ K : Act → World → Prop, (∀ a' w', Q .normal a' w' → K a' w') → o.wp P a w K (NoPanic Q)) : wpMixF P ops (NoPanic Q) S fin [fin] a w := by
  simp only [wpMixF, ho, he, if_true]
  unfold wpOp
  simp only [ho, Region.wanted, hg, if_true]
  exact .inl (h _ fun a' w' h2 => ⟨.inl (by simp), h2⟩)
end

end Go.Proofs.YtahfpadaoobkfaaGreatDoor

/-
  A region that draws its order (Reg2.lean) in which, behind what is taken early, two operations may come first: both orders are walked.
-/
namespace Go.Proofs.YtahfpadaoobkfaaGreatDoor

section
variable {P : Program} {ops : Array Oper} {Q : Exit → Act → World → Prop} {S : World → Prop} {fin : Nat}

def permK (ops : Array Oper) (fin i j : Nat) (p1 p2 : List Nat) : List Nat → Array Bool → Bool
  | [], listed => Region.ready .any ops listed == [i, j] && decide (i < listed.size) && decide (j < listed.size) && permF ops fin p1 (listed.setIfInBounds i true) && permF ops fin p2 (listed.setIfInBounds j true) && p1.length == p2.length
  | k :: rest, listed => (match ops[k]? with
      | none => false
      | some o => decide (k < listed.size) && !effB o && Region.free .any ops listed k && (Region.ready .any ops listed).contains k && waitsB ops ops.size k fin) && permK ops fin i j p1 p2 rest (listed.setIfInBounds k true)
def wpFork (P : Program) (ops : Array Oper) (Q : Exit → Act → World → Prop) (S : World → Prop) (fin i j : Nat) (p1 p2 : List Nat) : List Nat → Act → World → Prop
  | [], a, w => wpOp P ops Q i (fun a' w' => S w' ∧ wpMixF P ops Q S fin p1 a' w') a w ∧ wpOp P ops Q j (fun a' w' => S w' ∧ wpMixF P ops Q S fin p2 a' w') a w
  | k :: rest, a, w => match ops[k]? with
    | none => False
    | some o => ∃ v, YieldsIf P ops S o v a ∧ S w ∧ wpFork P ops Q S fin i j p1 p2 rest (a.put o.dst v) w

theorem wpAnyF_of_fork {i j : Nat} {p1 p2 : List Nat} (hs : Region.noSelect ops = true) (hQ : ∀ (d : Option Tmp) (v : Value) c a w, Q (.panic c) (a.put d v) w → Q (.panic c) a w) :
    ∀ (pre : List Nat) (listed : Array Bool) (a : Act) (w : World), permK ops fin i j p1 p2 pre listed = true → Closed ops listed → wpFork P ops Q S fin i j p1 p2 pre a w → wpAnyF P ops Q S fin (p1.length + 1 + pre.length) listed a w
  | [], listed, a, w, hp, hc, h => by
    simp only [permK, Bool.and_eq_true, beq_iff_eq, decide_eq_true_eq] at hp
    obtain ⟨⟨⟨⟨⟨h1, h2⟩, h3⟩, h4⟩, h5⟩, h6⟩ := hp
    refine ⟨fun h0 => (by rw [h0] at h1; cases h1), fun r hr => ?_⟩
    have hr' := hr
    rw [h1] at hr
    simp only [List.mem_cons, List.not_mem_nil, or_false] at hr
    rcases hr with rfl | rfl
    · exact wpOp_mono (fun a' w' hh => ⟨.inr hh.1, wpAnyF_of_mix hs hQ p1 _ a' w' h4 (closed_set hc hr') hh.2⟩) h.1
    · refine wpOp_mono (fun a' w' hh => ⟨.inr hh.1, ?_⟩) h.2
      have := wpAnyF_of_mix hs hQ p2 _ a' w' h5 (closed_set hc hr') hh.2
      rw [← h6] at this
      exact this
  | k :: rest, listed, a, w, hp, hc, h => by
    simp only [permK, Bool.and_eq_true] at hp
    obtain ⟨h1, h2⟩ := hp
    cases ho : ops[k]? with
    | none => simp [ho] at h1
    | some o =>
      simp only [ho, Bool.and_eq_true, decide_eq_true_eq] at h1
      obtain ⟨⟨⟨⟨hsz, he⟩, hfr⟩, hrd⟩, hw⟩ := h1
      simp only [wpFork, ho] at h
      obtain ⟨v, hy, hS, h3⟩ := h
      have hr : k ∈ Region.ready .any ops listed := by simpa using hrd
      exact wpAnyF_first ho (Region.noSelect_spec hs) (hQ o.dst v) hw _ listed a w hc (Region.free_spec ho hfr) hr hy hS (wpAnyF_of_fork hs hQ rest _ _ w h2 (closed_set hc hr) h3)

end

end Go.Proofs.YtahfpadaoobkfaaGreatDoor

/-
  A region that draws its order (Reg2.lean) whose effects float: a tree of orders, one or two effects first at each knot.
-/
namespace Go.Proofs.YtahfpadaoobkfaaGreatDoor

inductive OrdT where
  | nil
  | take (i : Nat) (t : OrdT)
  | one (i : Nat) (t : OrdT)
  | two (i j : Nat) (t u : OrdT)
def OrdT.len : OrdT → Nat
  | .nil => 0
  | .take _ t => t.len + 1
  | .one _ t => t.len + 1
  | .two _ _ t _ => t.len + 1

section
variable {P : Program} {ops : Array Oper} {Q : Exit → Act → World → Prop} {S : World → Prop} {fin : Nat}

def permT (ops : Array Oper) (fin : Nat) : OrdT → Array Bool → Bool
  | .nil, l => (Region.ready .any ops l).isEmpty
  | .take i t, l => (match ops[i]? with
      | none => false
      | some _ => decide (i < l.size) && Region.free .any ops l i && (Region.ready .any ops l).contains i && waitsB ops ops.size i fin) && permT ops fin t (l.setIfInBounds i true)
  | .one i t, l => Region.ready .any ops l == [i] && decide (i < l.size) && permT ops fin t (l.setIfInBounds i true)
  | .two i j t u, l => Region.ready .any ops l == [i, j] && decide (i < l.size) && decide (j < l.size) && permT ops fin t (l.setIfInBounds i true) && permT ops fin u (l.setIfInBounds j true) && t.len == u.len
def wpTree (P : Program) (ops : Array Oper) (Q : Exit → Act → World → Prop) (S : World → Prop) (fin : Nat) : OrdT → Act → World → Prop
  | .nil, a, w => Q .normal a w
  | .take i t, a, w => match ops[i]? with
    | none => False
    | some o => ∃ v, YieldsIf P ops S o v a ∧ S w ∧ wpTree P ops Q S fin t (a.put o.dst v) w
  | .one i t, a, w => wpOp P ops Q i (fun a' w' => (i = fin ∨ S w') ∧ wpTree P ops Q S fin t a' w') a w
  | .two i j t u, a, w => wpOp P ops Q i (fun a' w' => (i = fin ∨ S w') ∧ wpTree P ops Q S fin t a' w') a w ∧ wpOp P ops Q j (fun a' w' => (j = fin ∨ S w') ∧ wpTree P ops Q S fin u a' w') a w

theorem wpAnyF_of_tree (hs : Region.noSelect ops = true) (hQ : ∀ (d : Option Tmp) (v : Value) c a w, Q (.panic c) (a.put d v) w → Q (.panic c) a w) :
    ∀ (t : OrdT) (l : Array Bool) (a : Act) (w : World), permT ops fin t l = true → Closed ops l → wpTree P ops Q S fin t a w → wpAnyF P ops Q S fin t.len l a w
  | .nil, l, a, w, hp, _, h => by
    simp only [permT, List.isEmpty_iff] at hp
    exact ⟨hp, h⟩
  | .take i t, l, a, w, hp, hc, h => by
    simp only [permT, Bool.and_eq_true] at hp
    obtain ⟨h1, h2⟩ := hp
    cases ho : ops[i]? with
    | none => simp [ho] at h1
    | some o =>
      simp only [ho, Bool.and_eq_true, decide_eq_true_eq] at h1
      obtain ⟨⟨⟨_, hfr⟩, hrd⟩, hw⟩ := h1
      simp only [wpTree, ho] at h
      obtain ⟨v, hy, hS, h3⟩ := h
      have hr : i ∈ Region.ready .any ops l := by simpa using hrd
      exact wpAnyF_first ho (Region.noSelect_spec hs) (hQ o.dst v) hw _ l a w hc (Region.free_spec ho hfr) hr hy hS (wpAnyF_of_tree hs hQ t _ _ w h2 (closed_set hc hr) h3)
  | .one i t, l, a, w, hp, hc, h => by
    simp only [permT, Bool.and_eq_true, beq_iff_eq, decide_eq_true_eq] at hp
    obtain ⟨⟨h1, h2⟩, h3⟩ := hp
    refine ⟨fun h0 => (by rw [h0] at h1; cases h1), fun j hj => ?_⟩
    have hj' := hj
    rw [h1] at hj
    simp only [List.mem_singleton] at hj
    subst hj
    refine wpOp_mono (fun a' w' hh => ⟨?_, wpAnyF_of_tree hs hQ t _ a' w' h3 (closed_set hc hj') hh.2⟩) h
    rcases hh.1 with h4 | h4
    · subst h4; exact .inl (by simp [h2])
    · exact .inr h4
  | .two i j t u, l, a, w, hp, hc, h => by
    simp only [permT, Bool.and_eq_true, beq_iff_eq, decide_eq_true_eq] at hp
    obtain ⟨⟨⟨⟨⟨h1, h2⟩, h3⟩, h4⟩, h5⟩, h6⟩ := hp
    refine ⟨fun h0 => (by rw [h0] at h1; cases h1), fun r hr => ?_⟩
    have hr' := hr
    rw [h1] at hr
    simp only [List.mem_cons, List.not_mem_nil, or_false] at hr
    rcases hr with rfl | rfl
    · refine wpOp_mono (fun a' w' hh => ⟨?_, wpAnyF_of_tree hs hQ t _ a' w' h4 (closed_set hc hr') hh.2⟩) h.1
      rcases hh.1 with h7 | h7
      · subst h7; exact .inl (by simp [h2])
      · exact .inr h7
    · refine wpOp_mono (fun a' w' hh => ⟨?_, ?_⟩) h.2
      · rcases hh.1 with h7 | h7
        · subst h7; exact .inl (by simp [h3])
        · exact .inr h7
      · have := wpAnyF_of_tree hs hQ u _ a' w' h5 (closed_set hc hr') hh.2
        rw [← h6] at this
        exact this

/-- THE BEGINNING. -/
theorem reg_tree {id : Nat} {a : Act} {w : World} {l : List Oper} (S : World → Prop) (fin : Nat) (t : OrdT) (hm : P.follows .mixedOrders = true) (hs : Region.noSelect l.toArray = true) (hp : permT l.toArray fin t (Array.replicate l.toArray.size false) = true) (hl : t.len = l.toArray.size)
    (h : wpTree P l.toArray (NoPanic Q) S fin t a w.drew) : (Code.region id l.toArray true).wp P Q a w := by
  have hc : Closed l.toArray (Array.replicate l.toArray.size false) := fun k o _ hk => by
    exfalso
    rw [Array.getD_eq_getD_getElem?, Array.getElem?_replicate] at hk
    split at hk <;> cases hk
  have h2 := wpAnyF_of_tree hs (fun _ _ _ _ _ h => h) t _ a _ hp hc h
  rw [hl] at h2
  exact wp_region_noPanic (wp_region_any hm (wpAny_of_F _ _ _ _ h2))
theorem tree_take {k : Nat} {d : Tmp} {t : OrdT} {a : Act} {w : World} {o : Oper} {v : Value} (ho : ops[k]? = some o) (hod : o.dst = some d) (hg : o.guard = none) (hS : S w)
    (hy : ∀ w, S w → (execOp a.eval o).run P w = .ok (.value v) w) (h : wpTree P ops Q S fin t { a with tmps := a.tmps.setIfInBounds d v } w) : wpTree P ops Q S fin (.take k t) a w := by
  simp only [wpTree, ho]
  exact ⟨v, .inl ⟨by simp [Region.wanted, hg], hy⟩, hS, by rw [put_some hod]; exact h⟩
theorem tree_op {i : Nat} {t : OrdT} {a : Act} {w : World} {o : Oper} (ho : ops[i]? = some o) (hg : o.guard = none)
    (h : ∀ K : Act → World → Prop, (∀ a' w', S w' → wpTree P ops Q S fin t a' w' → K a' w') → o.wp P a w K Q) : wpOp P ops Q i (fun a' w' => (i = fin ∨ S w') ∧ wpTree P ops Q S fin t a' w') a w := by
  unfold wpOp
  simp only [ho, Region.wanted, hg, if_true]
  exact .inl (h _ fun a' w' h1 h2 => ⟨.inr h1, h2⟩)
theorem tree_one {i : Nat} {t : OrdT} {a : Act} {w : World} {o : Oper} (ho : ops[i]? = some o) (hg : o.guard = none)
    (h : ∀ K : Act → World → Prop, (∀ a' w', S w' → wpTree P ops Q S fin t a' w' → K a' w') → o.wp P a w K Q) : wpTree P ops Q S fin (.one i t) a w := by
  simp only [wpTree]
  exact tree_op ho hg h
theorem tree_last {a : Act} {w : World} {o : Oper} (ho : ops[fin]? = some o) (hg : o.guard = none)
    (h : ∀ K : Act → World → Prop, (∀ a' w', Q .normal a' w' → K a' w') → o.wp P a w K Q) : wpTree P ops Q S fin (.one fin .nil) a w := by
  simp only [wpTree]
  unfold wpOp
  simp only [ho, Region.wanted, hg, if_true]
  exact .inl (h _ fun a' w' h2 => ⟨.inl trivial, h2⟩)
/-- What follows, once for all orders. -/
theorem wp_one {c : Code} {a : Act} {w : World} {A : Act} {W : World} (h : c.wp P (fun e a' w' => e = .normal ∧ a' = A ∧ w' = W) a w) (hq : Q .normal A W) : c.wp P Q a w :=
  Code.wp_mono (fun e a' w' he => by obtain ⟨rfl, rfl, rfl⟩ := he; exact hq) h
end

end Go.Proofs.YtahfpadaoobkfaaGreatDoor
