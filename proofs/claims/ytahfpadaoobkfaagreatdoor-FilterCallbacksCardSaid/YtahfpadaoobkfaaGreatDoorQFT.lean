/-
  FilterTrusts: the numbers that determine an attestation, opened.
-/
import Derived.Test.YtahfpadaoobkfaaGreatDoorQS36
import Derived.Test.YtahfpadaoobkfaaGreatDoorQS04
namespace Go.Proofs.YtahfpadaoobkfaaGreatDoor
open Go.ChangeShapes Go.WideShapes Go.ChangeAt Go.RowKit Go.Deep Go.Lib

set_option maxRecDepth 100000 in
theorem open_nums25 {H : Type} {enc : TypeId × Value → H} {W : World} {base : Nat} {v : Value} {d : DataW H} {p : List MemPlace} (k : Value.okWide Tryz.prog W .any base 26 v) (h : DataW.Trod enc Tryz.prog W 0 (fun _ => true) true 26 v d p) :
    ∃ (q0 q1 q2 q3 lev : Int) (vc : Value) (F : List Int) (k0 k1 k2 k3 k4 k5 k6 k7 : Int), v = .agg #[.int .i64 q0, .int .i64 q1, .int .i64 q2, .int .i64 q3, .int .i64 lev, vc, .int .i64 k0, .int .i64 k1, .int .i64 k2, .int .i64 k3, .int .i64 k4, .int .i64 k5, .int .i64 k6, .int .i64 k7] ∧
      (I64 q0 ∧ I64 q1 ∧ I64 q2 ∧ I64 q3) ∧ I64 lev ∧ (IntsAt W vc F ∧ ∀ z, z ∈ F → I64 z) ∧ ∀ z, z ∈ [k0, k1, k2, k3, k4, k5, k6, k7] → I64 z := by
  obtain ⟨cs, rfl, hs⟩ := okWide_struct Tryz.underlying26 k
  have hs4 : cs.size = 14 := hs.trans (by kernel_rfl)
  obtain ⟨fuel, hf⟩ := agg_open h
  obtain ⟨y0, y1, y2, y3, n, _, _, g0, g1, g2, g3⟩ := Go.Joins.trod_struct4 Tryz.underlying26 hf
  match cs, hs4 with
  | ⟨[c0, c1, c2, c3, c4, c5, c6, c7, c8, c9, c10, c11, c12, c13]⟩, _ =>
    obtain ⟨zs, h1, h2, h3⟩ := ints_of_array (n := 4) Tryz.underlying22 Tryz.underlying3 (by kernel_rfl) (by kernel_rfl) (show DataW.trod enc Tryz.prog W 0 (fun _ => true) true n 22 [c0, c1, c2, c3] = some y0 from g0)
    obtain ⟨lev, rfl, hl⟩ := trod_i64 (t := 3) Tryz.underlying3 (show DataW.trod enc Tryz.prog W 0 (fun _ => true) true n 3 [c4] = some y1 from g1)
    obtain ⟨F, hF, hF2⟩ := intsAt_of_trod (show DataW.trod enc Tryz.prog W 0 (fun _ => true) true n 23 [c5] = some y2 from g2)
    obtain ⟨ws, k1, k2, k3⟩ := ints_of_array (n := 8) Tryz.underlying24 Tryz.underlying3 (by kernel_rfl) (by kernel_rfl) (show DataW.trod enc Tryz.prog W 0 (fun _ => true) true n 24 [c6, c7, c8, c9, c10, c11, c12, c13] = some y3 from g3)
    match zs, h2 with
    | [q0, q1, q2, q3], _ =>
      match ws, k2 with
      | [e0, e1, e2, e3, e4, e5, e6, e7], _ =>
        simp only [intC, List.map_cons, List.map_nil, List.cons.injEq, and_true] at h1 k1
        obtain ⟨rfl, rfl, rfl, rfl⟩ := h1
        obtain ⟨rfl, rfl, rfl, rfl, rfl, rfl, rfl, rfl⟩ := k1
        exact ⟨q0, q1, q2, q3, lev, c5, F, e0, e1, e2, e3, e4, e5, e6, e7, rfl, ⟨h3 _ (by simp), h3 _ (by simp), h3 _ (by simp), h3 _ (by simp)⟩, hl, ⟨hF, hF2⟩, k3⟩

end Go.Proofs.YtahfpadaoobkfaaGreatDoor

/-
  A region that draws its order whose effects float (Reg6.lean), where one effect consumes what another one has made: (j, c) in C: what is known of j holds until c is done; (j, i) in B: j comes behind i; what is known of j may speak of all values (Reg8.lean: of its own alone).
-/
namespace Go.Proofs.YtahfpadaoobkfaaGreatDoor

section
variable {C B : List (Nat × Nat)} {P : Program} {ops : Array Oper} {Q : Exit → Act → World → Prop} {S : World → Prop} {fin : Nat}

/-- Each effect by itself. -/
def StepsG (C B : List (Nat × Nat)) (P : Program) (ops : Array Oper) (Q : Exit → Act → World → Prop) (S : World → Prop) (A : (Nat → Value) → Act) (Pd : Nat → (Nat → Value) → World → Prop) : List (Nat × List Nat) → Prop
  | [] => True
  | (i, D) :: E => (∀ g w, S w → (∀ j ∈ D, Pd j g w) → wpOp P ops Q i (fun a' w' => S w' ∧ ∃ v, a' = A (upG g i v) ∧ Pd i (upG g i v) w' ∧ ∀ j, j ≠ i → (j, i) ∉ C → (j, i) ∉ B → Pd j g w → Pd j (upG g i v) w') (A g) w) ∧ StepsG C B P ops Q S A Pd E
theorem StepsG.get {A : (Nat → Value) → Act} {Pd : Nat → (Nat → Value) → World → Prop} : ∀ {E : List (Nat × List Nat)}, StepsG C B P ops Q S A Pd E → ∀ {i : Nat} {D : List Nat}, (i, D) ∈ E →
    ∀ g w, S w → (∀ j ∈ D, Pd j g w) → wpOp P ops Q i (fun a' w' => S w' ∧ ∃ v, a' = A (upG g i v) ∧ Pd i (upG g i v) w' ∧ ∀ j, j ≠ i → (j, i) ∉ C → (j, i) ∉ B → Pd j g w → Pd j (upG g i v) w') (A g) w
  | [], _, _, _, hm => by cases hm
  | (_, _) :: _, h, _, _, hm => by
    rcases List.mem_cons.1 hm with hm | hm
    · cases hm; exact h.1
    · exact StepsG.get h.2 hm

def permG (C B : List (Nat × Nat)) (ops : Array Oper) (fin : Nat) (tk : List Nat) (E : List (Nat × List Nat)) : Bool :=
  ((List.range ops.size).all fun i => tk.contains i || (E.map (·.1)).contains i || i == fin)
    && ((List.range ops.size).all fun i => i == fin || waitsB ops ops.size i fin)
    && decide (fin < ops.size) && !tk.contains fin
    && ((List.range ops.size).all fun i => match ops[i]? with | none => false | some o => o.after.all fun e => !Region.binds .any e || decide (e.on < i))
    && (B.all fun y => waitsB ops ops.size y.2 y.1)
    && (E.all fun x => !(x.1 == fin) && !tk.contains x.1 && decide (x.1 < ops.size) && x.2.all fun j => !tk.contains j && (C.all fun y => !(y.1 == j) || y.2 == x.1 || waitsB ops ops.size x.1 y.2) && (match ops[x.1]? with | none => false | some o => o.after.any fun e => Region.binds .any e && e.on == j))

def InvG (C B : List (Nat × Nat)) (P : Program) (ops : Array Oper) (Q : Exit → Act → World → Prop) (S : World → Prop) (fin : Nat) (E : List (Nat × List Nat)) (a : Act) (w : World) : Prop :=
  ∃ (A : (Nat → Value) → Act) (Pd : Nat → (Nat → Value) → World → Prop) (g0 : Nat → Value), a = A g0 ∧ S w ∧ StepsG C B P ops Q S A Pd E ∧ ∀ g w, S w → (∀ e ∈ E, (∀ c, (e.1, c) ∉ C) → Pd e.1 g w) → wpOp P ops Q fin (fun a' w' => Q .normal a' w') (A g) w

theorem invG_start {E : List (Nat × List Nat)} {a : Act} {w : World} (ds : List (Nat × Nat)) (Pd : Nat → (Nat → Value) → World → Prop) (hn : (ds.map (·.1)).Nodup) (hS : S w) (h1 : StepsG C B P ops Q S (putG a ds) Pd E)
    (h2 : ∀ g w, S w → (∀ e ∈ E, (∀ c, (e.1, c) ∉ C) → Pd e.1 g w) → wpOp P ops Q fin (fun a' w' => Q .normal a' w') (putG a ds g) w) : InvG C B P ops Q S fin E a w := by
  obtain ⟨g, hg⟩ := putT_self ds a.tmps hn
  exact ⟨putG a ds, Pd, g, by unfold putG; rw [hg], hS, h1, h2⟩

theorem wpAnyF_of_invG {tk : List Nat} {E : List (Nat × List Nat)} (hp : permG C B ops fin tk E = true) {fuel : Nat} {l : Array Bool} {a : Act} {w : World} (hc : Closed ops l) (hl : l.toList.countP (fun b => !b) ≤ fuel) (hz : l.size = ops.size)
    (htk : ∀ k, l.getD k false = true ↔ k ∈ tk) (h : InvG C B P ops Q S fin E a w) : wpAnyF P ops Q S fin fuel l a w := by
  simp only [permG, Bool.and_eq_true, decide_eq_true_eq, Bool.not_eq_true', List.all_eq_true, List.mem_range, Bool.or_eq_true, beq_iff_eq, beq_eq_false_iff_ne] at hp
  obtain ⟨⟨⟨⟨⟨⟨hcov, hwt⟩, hf⟩, hft⟩, hlow⟩, hB⟩, hE⟩ := hp
  have hft : fin ∉ tk := by simpa using hft
  obtain ⟨A, Pd, g0, rfl, hS, hst, hfin⟩ := h
  have hdone : ∀ l : Array Bool, Closed ops l → (l.getD fin false = true ∨ fin ∈ Region.ready .any ops l) → ∀ i, i < ops.size → i ≠ fin → l.getD i false = true := fun l hc hl i hi hne =>
    waits_listed hc ops.size fin ((hwt i hi).resolve_left hne) hl
  refine wpAnyF_of_inv (fun l a w => l.size = ops.size ∧ (∀ k ∈ tk, l.getD k false = true) ∧ ((l.getD fin false = true ∧ Q .normal a w) ∨ (l.getD fin false = false ∧ ∃ g, a = A g ∧ S w ∧ ∀ i, i ∉ tk → l.getD i false = true → (∀ c, (i, c) ∈ C → l.getD c false = false) → Pd i g w))) ?_ ?_ fuel l _ w hc hl ⟨hz, fun k hk => (htk k).2 hk, .inr ⟨?_, g0, rfl, hS, fun i hi hh _ => absurd ((htk i).1 hh) hi⟩⟩
  · rintro l a w i hc hi ⟨hz, ht, h⟩
    have hun := (ready_false hi).2
    have hi' : i < ops.size := by
      rcases Nat.lt_or_ge i ops.size with h' | h'
      · exact h'
      · have := (ready_false hi).1
        rw [List.getElem?_eq_none (by simpa [hz] using h')] at this
        cases this
    have hset : (l.setIfInBounds i true).getD i false = true := by simp [hz, hi']
    rcases h with ⟨h1, _⟩ | ⟨h1, g, rfl, hS, hP⟩
    · exfalso
      by_cases hne : i = fin
      · subst hne; rw [h1] at hun; cases hun
      · have := hdone l hc (.inl h1) i hi' hne
        rw [this] at hun; cases hun
    · by_cases hne : i = fin
      · subst hne
        refine wpOp_mono (fun a' w' hq => ⟨.inl hset, by simpa using hz, fun k hk => getD_set_true (ht k hk), .inl ⟨hset, hq⟩⟩) (hfin g w hS fun e he hnc => ?_)
        have he' := hE e he
        exact hP e.1 (by simpa using he'.1.1.2) (hdone l hc (.inr hi) e.1 he'.1.2 he'.1.1.1) (fun c hc => absurd hc (hnc c))
      · have hcv := hcov i hi'
        have hnt : i ∉ tk := fun hh => by rw [ht i hh] at hun; cases hun
        have hm : i ∈ E.map (·.1) := by
          rcases hcv with (h2 | h2) | h2
          · exact absurd (by simpa using h2) hnt
          · simpa using h2
          · exact absurd h2 hne
        obtain ⟨⟨i', D⟩, hmE, hii⟩ := List.mem_map.1 hm
        simp only at hii
        subst hii
        have he' := hE _ hmE
        simp only at he'
        have hD : ∀ j ∈ D, Pd j g w := fun j hj => by
          obtain ⟨⟨hj1, hjC⟩, hj2⟩ := he'.2 j hj
          obtain ⟨_, o, ho, hall⟩ := mem_ready.1 hi
          rw [ho] at hj2
          simp only [Array.any_eq_true] at hj2
          obtain ⟨x, hx, hj2⟩ := hj2
          simp only [Bool.and_eq_true, beq_iff_eq] at hj2
          have h5 := hall _ (Array.getElem_mem hx) hj2.1
          rw [hj2.2] at h5
          exact hP j (by simpa using hj1) h5 (fun c hcm => by
            rcases hjC (j, c) hcm with (h6 | h6) | h6
            · exact absurd rfl h6
            · simp only at h6; rw [h6]; exact hun
            · cases hlc : l.getD c false with
              | false => rfl
              | true =>
                have := waits_listed hc ops.size c h6 (.inl hlc)
                rw [this] at hun; cases hun)
        refine wpOp_mono ?_ (hst.get hmE g w hS hD)
        rintro a' w' ⟨hS', v, rfl, hv, hk⟩
        refine ⟨.inr hS', by simpa using hz, fun k hk => getD_set_true (ht k hk), .inr ⟨?_, upG g i' v, rfl, hS', fun j hj hjd hjc => ?_⟩⟩
        · rw [getD_set_ne false (by simpa using he'.1.1.1)]; exact h1
        · by_cases hji : j = i'
          · subst hji; exact hv
          · rw [getD_set_ne false (Ne.symm hji)] at hjd
            exact hk j hji (fun hm => by have := hjc _ hm; rw [hset] at this; cases this) (fun hm => by
              have := waits_listed hc ops.size j (hB _ hm) (.inl hjd)
              rw [this] at hun; cases hun) (hP j hj hjd (fun c hcm => by
              have h7 := hjc c hcm
              by_cases hci : c = i'
              · subst hci; rw [hset] at h7; cases h7
              · rwa [getD_set_ne false (Ne.symm hci)] at h7))
  · rintro l a w hc h0 ⟨hz, ht, h⟩
    rcases h with ⟨_, h⟩ | ⟨h1, _⟩
    · exact h
    · exfalso
      -- the first that is not done is ready
      have hall : ∀ n, n < ops.size → l.getD n false = true := by
        intro n
        induction n using Nat.strongRecOn with
        | _ n ih =>
          intro hn
          cases hh : l.getD n false with
          | true => rfl
          | false =>
            exfalso
            have hlo := hlow n hn
            cases ho : ops[n]? with
            | none => simp [ho] at hlo
            | some o =>
              simp only [ho, Array.all_eq_true, Bool.or_eq_true, Bool.not_eq_true', decide_eq_true_eq] at hlo
              have hr : n ∈ Region.ready .any ops l := mem_ready.2 ⟨by
                have hz' : n < l.size := by omega
                simp [hz'] at hh ⊢; exact hh, o, ho, fun e he hb => by
                obtain ⟨x, hx, rfl⟩ := Array.mem_iff_getElem.1 he
                rcases hlo x hx with h2 | h2
                · rw [h2] at hb; cases hb
                · exact ih _ h2 (by omega)⟩
              rw [h0] at hr
              cases hr
      rw [hall fin hf] at h1
      cases h1
  · cases hh : l.getD fin false with
    | false => rfl
    | true => exact absurd ((htk fin).1 hh) hft
/-- THE BEGINNING. -/
theorem reg_invG {id : Nat} {a : Act} {w : World} {l : List Oper} (S : World → Prop) (fin : Nat) (tk : List Nat) (E : List (Nat × List Nat)) (hm : P.follows .mixedOrders = true) (hs : Region.noSelect l.toArray = true) (hp : permTk l.toArray fin tk (Array.replicate l.toArray.size false) = true) (hi : permG C B l.toArray fin tk E = true)
    (ht : (takenB l.toArray.size tk && (tk.all fun k => decide (k < l.toArray.size)) && decide ((setAll (Array.replicate l.toArray.size false) tk).toList.countP (fun b => !b) + tk.length = l.toArray.size)) = true)
    (h : wpTk P l.toArray S (InvG C B P l.toArray (NoPanic Q) S fin E) tk a w.drew) : (Code.region id l.toArray true).wp P Q a w := by
  simp only [Bool.and_eq_true, decide_eq_true_eq, takenB, List.all_eq_true, List.mem_range, beq_iff_eq] at ht
  obtain ⟨⟨ht1, ht2⟩, ht3⟩ := ht
  have hc : Closed l.toArray (Array.replicate l.toArray.size false) := fun k o _ hk => by
    exfalso
    rw [Array.getD_eq_getD_getElem?, Array.getElem?_replicate] at hk
    split at hk <;> cases hk
  have h2 := wpAnyF_of_tk (Q := NoPanic Q) (fin := fin) (m := (setAll (Array.replicate l.toArray.size false) tk).toList.countP (fun b => !b)) hs (fun _ _ _ _ _ h => h) tk _ a _ hp hc (fun a w hc' hR => wpAnyF_of_invG hi hc' (Nat.le_refl _) (by rw [setAll_size]; simp) (fun k => by
    by_cases hk : k < l.toArray.size
    · rw [ht1 k hk]; simp
    · constructor
      · intro hh
        rw [Array.getD_eq_getD_getElem?, Array.getElem?_eq_none (by rw [setAll_size]; simpa using hk)] at hh
        cases hh
      · intro hh; exact absurd (ht2 k hh) hk) hR) h
  rw [ht3] at h2
  exact wp_region_noPanic (wp_region_any hm (wpAny_of_F _ _ _ _ h2))
theorem invG_op {i : Nat} {a : Act} {w : World} {o : Oper} {A : (Nat → Value) → Act} {Pd : Nat → (Nat → Value) → World → Prop} {g : Nat → Value} (ho : ops[i]? = some o) (hg : o.guard = none)
    (h : ∀ K : Act → World → Prop, (∀ v w', S w' → Pd i (upG g i v) w' → (∀ j, j ≠ i → (j, i) ∉ C → (j, i) ∉ B → Pd j g w → Pd j (upG g i v) w') → K (A (upG g i v)) w') → o.wp P a w K Q) : wpOp P ops Q i (fun a' w' => S w' ∧ ∃ v, a' = A (upG g i v) ∧ Pd i (upG g i v) w' ∧ ∀ j, j ≠ i → (j, i) ∉ C → (j, i) ∉ B → Pd j g w → Pd j (upG g i v) w') a w := by
  unfold wpOp
  simp only [ho, Region.wanted, hg, if_true]
  exact .inl (h _ fun v w' h1 h2 h3 => ⟨h1, v, rfl, h2, h3⟩)
end

end Go.Proofs.YtahfpadaoobkfaaGreatDoor
