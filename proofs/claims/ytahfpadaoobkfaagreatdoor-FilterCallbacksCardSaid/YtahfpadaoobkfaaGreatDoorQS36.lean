/-
  Arguments of dialtonelaw26, opened.
-/
import Derived.Test.YtahfpadaoobkfaaGreatDoorQS29
import Derived.Test.YtahfpadaoobkfaaGreatDoorQS25
import Derived.Lib.SmallJoins
import Derived.Test.YtahfpadaoobkfaaGreatDoorQS34
import Derived.Test.YtahfpadaoobkfaaGreatDoorQS03
import Derived.Deep.CutBlock
import Derived.Deep.DeepCutAuto
namespace Go.Proofs.YtahfpadaoobkfaaGreatDoor
open Go.ChangeShapes Go.WideShapes Go.ChangeAt Go.RowKit Go.Deep Go.Lib

theorem sl_of_trod {P : Program} {H : Type} {enc : TypeId × Value → H} {W : World} {t e : TypeId} {k fuel : Nat} {v : Value} {x : DataW H × List MemPlace} (Q : List Value → Prop) (ht : P.underlying t = some (.slice e)) (hk : P.cellsOf e = k) (hp : 0 < k)
    (hq : ∀ f cs y, cs.length = k → DataW.trod enc P W 0 (fun _ => true) true f e cs = some y → Q cs) (h : DataW.trod enc P W 0 (fun _ => true) true fuel t [v] = some x) :
    ∃ L : List (List Value), (∀ cs, cs ∈ L → cs.length = k ∧ Q cs) ∧ L.flatten.length = L.length * k ∧ Sl W v L.length L.flatten := by
  rcases open_slice ht h with ⟨hcs, _⟩ | ⟨a, len, cap, m, f, D, Pl, hcs, _, hl, hm, hmm, _, hel⟩
  · simp only [List.cons.injEq, and_true] at hcs
    subst hcs
    exact ⟨[], by simp, by simp, Sl.nil _⟩
  · simp only [List.cons.injEq, and_true] at hcs
    subst hcs
    simp only [if_true] at hmm
    have key : ∀ n, n ≤ len → ∃ L : List (List Value), L.length = n ∧ L.flatten.length = n * k ∧ (∀ cs, cs ∈ L → cs.length = k ∧ Q cs) ∧ ∀ j u, L.flatten[j]? = some u → W.cell? (a.add j) = some u := by
      intro n
      induction n with
      | zero => exact fun _ => ⟨[], by simp, by simp, by simp, by simp⟩
      | succ n ih =>
        intro hn
        obtain ⟨L, h0, h1, h2, h3⟩ := ih (by omega)
        obtain ⟨cs, hcs, htr⟩ := hel n (by omega)
        rw [hk] at hcs
        obtain ⟨_, hcl, hat⟩ := World.cells?_some hcs
        refine ⟨L ++ [cs], by simp [h0], by rw [List.flatten_append, List.length_append, h1]; simp [hcl, Nat.succ_mul], fun c hc => ?_, fun j u hu => ?_⟩
        · rcases List.mem_append.1 hc with hc | hc
          · exact h2 c hc
          · rw [List.mem_singleton] at hc; subst hc; exact ⟨hcl, hq _ _ _ hcl htr⟩
        · rw [List.flatten_append, List.flatten_singleton] at hu
          rcases Nat.lt_or_ge j L.flatten.length with hj | hj
          · rw [List.getElem?_append_left hj] at hu
            exact h3 j u hu
          · rw [List.getElem?_append_right hj] at hu
            have hjk : j - L.flatten.length < k := by
              have := (List.getElem?_eq_some_iff.1 hu).1
              omega
            have h4 := hat (j - L.flatten.length) hjk
            rw [Go.Deep.add_add] at h4
            rw [hu, h1, show n * k + (j - n * k) = j by omega] at h4
            exact h4
    obtain ⟨L, h0, h1, h2, h3⟩ := key len (Nat.le_refl _)
    refine ⟨L, h2, by rw [h1, h0], ⟨_, cap, by rw [h0], by omega, hm, fun hn => ?_⟩⟩
    have hpos : 0 < L.flatten.length := by rw [h1]; exact Nat.mul_pos (by omega) hp
    have hu0 := h3 0 L.flatten[0] (by simp)
    have ha : a.add 0 = a := by simp [Addr.add]
    rw [ha] at hu0
    have hs := cell_spot hu0
    obtain ⟨b, off, sp⟩ := a
    simp only at hs
    subst hs
    exact ⟨b, off, rfl, fun j u hu => by rw [← addr_add]; exact h3 j u hu⟩

theorem ints_of_array2 {P : Program} {H : Type} {enc : TypeId × Value → H} {W : World} {t e i : TypeId} {n m fuel : Nat} {cs : List Value} {x : DataW H × List MemPlace} (ht : P.underlying t = some (.array n e)) (he : P.underlying e = some (.array m i)) (hi : P.underlying i = some (.int .i64)) (hc : P.cellsOf i = 1) (hm : P.cellsOf e = m) (hn : P.cellsOf t = n * m) (hp : 0 < m)
    (h : DataW.trod enc P W 0 (fun _ => true) true fuel t cs = some x) : ∃ zs : List Int, cs = intC zs ∧ zs.length = n * m ∧ ∀ z, z ∈ zs → I64 z := by
  obtain ⟨xs, f, _, _, hl, hx, hel⟩ := DataW.trod_array ht h
  rw [hn] at hl
  obtain ⟨zs, rfl, hz⟩ := ints_list (cs := cs) (fun u hu => by
    obtain ⟨j, hj, rfl⟩ := List.getElem_of_mem hu
    have hq : j / m < n := by
      rw [Nat.div_lt_iff_lt_mul hp]; omega
    have h1 := hel (j / m) (by omega)
    rw [hm, List.getElem?_eq_getElem (by omega)] at h1
    obtain ⟨zs, e1, e2, e3⟩ := ints_of_array he hi hc hm h1
    have hr : j % m < m := Nat.mod_lt _ hp
    have e4 : ((cs.drop (j / m * m)).take m)[j % m]? = some cs[j] := by
      rw [List.getElem?_take_of_lt hr, List.getElem?_drop, Nat.div_add_mod' j m]
      simp [hj]
    rw [e1, intC, List.getElem?_map] at e4
    rw [List.getElem?_eq_getElem (by omega)] at e4
    simp only [Option.map_some, Option.some.injEq] at e4
    exact ⟨_, e4.symm, e3 _ (List.getElem_mem _)⟩)
  exact ⟨zs, rfl, by simpa using hl, hz⟩

theorem lists_ints {k : Nat} : ∀ {L : List (List Value)}, (∀ cs, cs ∈ L → cs.length = k ∧ ∃ zs : List Int, cs = intC zs ∧ ∀ z, z ∈ zs → I64 z) → ∃ zs : List Int, L.flatten = intC zs ∧ ∀ z, z ∈ zs → I64 z
  | [], _ => ⟨[], rfl, by simp⟩
  | cs :: L, h => by
    obtain ⟨zs, h1, h2⟩ := lists_ints (L := L) (fun c hc => h c (by simp [hc]))
    obtain ⟨_, ys, rfl, h3⟩ := h cs (by simp)
    refine ⟨ys ++ zs, by rw [List.flatten_cons, h1, intC, intC, intC, List.map_append], fun z hz => ?_⟩
    rcases List.mem_append.1 hz with hz | hz
    · exact h3 z hz
    · exact h2 z hz

set_option maxRecDepth 100000 in
theorem x3s_of_trod {H : Type} {enc : TypeId × Value → H} {W : World} {v : Value} {fuel : Nat} {x : DataW H × List MemPlace} (h : DataW.trod enc Tryz.prog W 0 (fun _ => true) true fuel 79 [v] = some x) : ∃ n is, NumAt W v n 12 is := by
  obtain ⟨L, h1, h2, h3⟩ := sl_of_trod (k := 12) (fun cs => ∃ zs : List Int, cs = intC zs ∧ ∀ z, z ∈ zs → I64 z) Tryz.underlying79 (by kernel_rfl) (by omega) (fun f cs y _ hy => by
    obtain ⟨zs, e1, _, e3⟩ := ints_of_array2 (n := 3) (m := 4) Tryz.underlying139 Tryz.underlying22 Tryz.underlying3 (by kernel_rfl) (by kernel_rfl) (by kernel_rfl) (by omega) hy
    exact ⟨zs, e1, e3⟩) h
  obtain ⟨zs, e1, e2⟩ := lists_ints h1
  refine ⟨L.length, zs, by rw [← e1]; exact h3, ?_, e2⟩
  rw [← h2, e1]
  simp
set_option maxRecDepth 100000 in
theorem intsAt_of_trod {H : Type} {enc : TypeId × Value → H} {W : World} {v : Value} {fuel : Nat} {x : DataW H × List MemPlace} (h : DataW.trod enc Tryz.prog W 0 (fun _ => true) true fuel 23 [v] = some x) : ∃ l : List Int, IntsAt W v l ∧ ∀ z, z ∈ l → I64 z := by
  obtain ⟨L, h1, h2, h3⟩ := sl_of_trod (k := 1) (fun cs => ∃ zs : List Int, cs = intC zs ∧ ∀ z, z ∈ zs → I64 z) Tryz.underlying23 (by kernel_rfl) (by omega) (fun f cs y hl hy => by
    match cs, hl with
    | [u], _ =>
      obtain ⟨k, rfl, e2⟩ := trod_i64 (t := 3) Tryz.underlying3 hy
      exact ⟨[k], rfl, fun z hz => by rw [List.mem_singleton] at hz; subst hz; exact e2⟩) h
  obtain ⟨zs, e1, e2⟩ := lists_ints h1
  refine ⟨zs, ?_, e2⟩
  have e3 : zs.length = L.length := by
    have := congrArg List.length e1
    rw [h2, List.length_map] at this
    omega
  show Sl W v zs.length (intC zs)
  rw [e3, ← e1]
  exact h3
set_option maxRecDepth 100000 in
theorem open_x3s {H : Type} {enc : TypeId × Value → H} {W : World} {base : Nat} {v : Value} {d : DataW H} {p : List MemPlace} (k : Value.okWide Tryz.prog W .any base 79 v) (h : DataW.Trod enc Tryz.prog W 0 (fun _ => true) true 79 v d p) : ∃ n is, NumAt W v n 12 is := by
  obtain ⟨a, len, cap, rfl⟩ := okWide_slice Tryz.underlying79 k
  obtain ⟨fuel, hf⟩ := h
  exact x3s_of_trod hf
set_option maxRecDepth 100000 in
theorem open_ints {H : Type} {enc : TypeId × Value → H} {W : World} {base : Nat} {v : Value} {d : DataW H} {p : List MemPlace} (k : Value.okWide Tryz.prog W .any base 23 v) (h : DataW.Trod enc Tryz.prog W 0 (fun _ => true) true 23 v d p) : ∃ l : List Int, IntsAt W v l ∧ ∀ z, z ∈ l → I64 z := by
  obtain ⟨a, len, cap, rfl⟩ := okWide_slice Tryz.underlying23 k
  obtain ⟨fuel, hf⟩ := h
  exact intsAt_of_trod hf
end Go.Proofs.YtahfpadaoobkfaaGreatDoor

/-
  dialtonelaw26: example; dialtoneref26: Like.
-/
namespace Go.Proofs.YtahfpadaoobkfaaGreatDoor
open Go.RowKit Go.Lib

def exF : Fl := ⟨[⟨[⟨1, 0, 1, false⟩, ⟨2, 500, 600, false⟩], 4⟩, ⟨[⟨3, 79200, 21600, false⟩, ⟨1, 3, 3, true⟩], 3⟩], 1⟩
def rb0 : Rb := ⟨[], [], []⟩
theorem rb0_at (w : World) : RbAt w (.slice none 0 0) (.slice none 0 0) (.slice none 0 0) [] rb0 :=
  ⟨rfl, ⟨Sl.nil _, fun y hy => (by cases hy), fun y hy => (by cases hy)⟩, Sl.nil _, Sl.nil _, ⟨fun x hx => (by cases hx), fun x hx => (by cases hx), fun x hx => (by cases hx)⟩⟩

set_option maxRecDepth 100000 in
set_option maxHeartbeats 2000000 in
theorem example26_c (w : World) : Calls Tryz.prog 21 #[] w fun e w' => Fr [] w w' ∧ ∃ ad ys, e = .returned (flV (.slice (some ad) 2 2) 1) ∧ FlAt w' (.slice (some ad) 2 2) ys exF := by
  go_enter Tryz.func21, Tryz.ntmps21
  go_wp2_with fail
  go_returns
  have HA := allocs_at [.cells #[.slice (some ⟨w.heap.size + 1 + 1 + 1, 0, none⟩) 2 2, .int .i64 1] 69, .cells #[.int .i64 1, .int .i64 0, .int .i64 1, .bool false, .int .i64 2, .int .i64 500, .int .i64 600, .bool false] 62, .cells #[.int .i64 3, .int .i64 79200, .int .i64 21600, .bool false, .int .i64 1, .int .i64 3, .int .i64 3, .bool true] 62, .cells #[.slice (some ⟨w.heap.size + 1, 0, none⟩) 2 2, .int .i64 4, .slice (some ⟨w.heap.size + 1 + 1, 0, none⟩) 2 2, .int .i64 3] 66] w
  have h1 := HA 1 (by simp); have h2 := HA 2 (by simp); have h3 := HA 3 (by simp)
  refine ⟨((((Fr.alloc _ _ _).trans (Fr.alloc _ _ _)).trans (Fr.alloc _ _ _)).trans (Fr.alloc _ _ _)), ⟨w.heap.size + 1 + 1 + 1, 0, none⟩, [⟨⟨[⟨1, 0, 1, false⟩, ⟨2, 500, 600, false⟩], 4⟩, .slice (some ⟨w.heap.size + 1, 0, none⟩) 2 2⟩, ⟨⟨[⟨3, 79200, 21600, false⟩, ⟨1, 3, 3, true⟩], 3⟩, .slice (some ⟨w.heap.size + 1 + 1, 0, none⟩) 2 2⟩], rfl, rfl, sl_blk h3 rfl (by omega) (by omega), fun y hy => ?_, fun y hy => ?_, by constructor <;> simp [exF]⟩
  · simp only [List.mem_cons, List.not_mem_nil, or_false] at hy
    rcases hy with rfl | rfl
    · exact sl_blk h1 rfl (by omega) (by omega)
    · exact sl_blk h2 rfl (by omega) (by omega)
  · simp only [List.mem_cons, List.not_mem_nil, or_false] at hy
    rcases hy with rfl | rfl
    · refine ⟨by constructor <;> simp, fun x hx => ?_⟩
      simp only [List.mem_cons, List.not_mem_nil, or_false] at hx
      rcases hx with rfl | rfl <;> (constructor <;> simp [I64])
    · refine ⟨by constructor <;> simp, fun x hx => ?_⟩
      simp only [List.mem_cons, List.not_mem_nil, or_false] at hx
      rcases hx with rfl | rfl <;> (constructor <;> simp [I64])

set_option maxRecDepth 100000 in
set_option maxHeartbeats 2000000 in
theorem like26_c (aa ar ba br : Int) (vF vF' : Value) (F F' : List Int) (p p' : Option Addr) (n n' m m' : Nat) (w : World) (hF : IntsAt w vF F) (hF' : IntsAt w vF' F') :
    Calls Tryz.prog 63 #[dnV aa ar vF (.slice p n m), dnV ba br vF' (.slice p' n' m')] w fun e w' => e = .returned (.bool (decide (aa = ba) && decide (ar = br) && decide (F = F') && decide (n = n'))) ∧ Fr [] w w' := by
  obtain ⟨af, pf, rfl⟩ := hF.val
  obtain ⟨af', pf', rfl⟩ := hF'.val
  have FA : Hid (Fr [] w ((w.alloc (.cells #[.int .i64 aa, .int .i64 ar, .slice af F.length pf, .slice p n m] 75)).alloc (.cells #[.int .i64 ba, .int .i64 br, .slice af' F'.length pf', .slice p' n' m'] 75))) := Lib.hid ((Fr.alloc _ _ _).trans (Fr.alloc _ _ _))
  have HA := Lib.hid (alloc2' w (.cells #[.int .i64 aa, .int .i64 ar, .slice af F.length pf, .slice p n m] 75) (.cells #[.int .i64 ba, .int .i64 br, .slice af' F'.length pf', .slice p' n' m'] 75))
  have CI := Lib.hid (ints26_c _ _ _ _ _ (hF.same FA.out) (hF'.same FA.out))
  clear hF hF'
  by_cases h1 : aa = ba
  · by_cases h2 : ar = br
    · by_cases h3 : F = F'
      · subst h1 h2 h3
        have HN : Hid (((n : Int) == n') = decide (n = n')) := Lib.hid (by
          by_cases h : n = n'
          · subst h; simp
          · have : ¬ (n : Int) = n' := by omega
            rw [decide_eq_false h]; simpa using this)
        simp only [decide_true, Bool.true_and] at CI ⊢
        go_enter Tryz.func63, Tryz.ntmps63
        go_wp2_with fail
        refine CI.out.mono ?_
        rintro e w1 ⟨rfl, f1⟩
        have c3 : w1.cell? ⟨w.heap.size, 3, none⟩ = some (.slice p n m) := cell_of_blk (f1.keep HA.out.1 (by simp)) 3
        have d3 : w1.cell? ⟨w.heap.size + 1, 3, none⟩ = some (.slice p' n' m') := cell_of_blk (f1.keep HA.out.2 (by simp)) 3
        go_wp2_with fail
        go_ret
        exact ⟨by rw [← HN.out]; rfl, FA.out.trans f1⟩
      · subst h1 h2
        have HD : Hid (decide (F = F') = false) := Lib.hid (decide_eq_false h3)
        rw [HD.out] at CI ⊢
        simp only [decide_true, Bool.true_and, Bool.false_and]
        clear h3
        go_enter Tryz.func63, Tryz.ntmps63
        go_wp2_with fail
        refine CI.out.mono ?_
        rintro e w1 ⟨rfl, f1⟩
        go_wp2_with fail
        go_ret
        exact ⟨rfl, FA.out.trans f1⟩
    · subst h1
      have hb : (ar == br) = false := by simpa using h2
      rw [decide_eq_false h2]
      simp only [decide_true, Bool.true_and, Bool.false_and]
      go_enter Tryz.func63, Tryz.ntmps63
      go_wp2_with fail
      go_ret
      exact ⟨rfl, FA.out⟩
  · have hb : (aa == ba) = false := by simpa using h1
    rw [decide_eq_false h1]
    simp only [Bool.false_and]
    go_enter Tryz.func63, Tryz.ntmps63
    go_wp2_with fail
    go_ret
    exact ⟨rfl, FA.out⟩

end Go.Proofs.YtahfpadaoobkfaaGreatDoor

/-
  dialtonelaw26: decides.
-/
namespace Go.Proofs.YtahfpadaoobkfaaGreatDoor
open Go.RowKit Go.Lib

theorem noPanic_normal {Q : Exit → Act → World → Prop} {a : Act} {w : World} (h : Q .normal a w) : NoPanic Q .normal a w := h
theorem decided26 {c : Ca} {act rule : Int} {F : List Int} (hc : CaOk c) (hg : goodF exF rb0 c = true) (hd : decF exF rb0 c = ⟨act, rule, F, []⟩) (v : Value) (ys : List RuV) (w : World) (h : FlAt w v ys exF) :
    Calls Tryz.prog 17 #[flV v 1, .agg #[.slice none 0 0, .slice none 0 0, .slice none 0 0], .agg #[.int .i64 c.caller, .int .i64 c.called, .int .i64 c.at_, .int .i64 c.level, .int .i64 c.fwd, .bool c.back]] w fun e w' => Fr [] w w' ∧ ∃ aF' pF' aP' pP', e = .returned (.tuple #[.agg #[.int .i64 act, .int .i64 rule, .slice aF' F.length pF', .slice aP' 0 pP'], .int .i64 0]) ∧ w'.ownsRow 0 3 1 (.slice aF' F.length pF') F.length (intC F) := by
  refine (fDecide_c v ys exF _ _ _ [] rb0 c w h (rb0_at _) hc).mono ?_
  rintro r w3 ⟨f3, h3⟩
  obtain ⟨_, vF', vP', zs, he, h4⟩ := h3.resolve_left (fun hh => by rw [hg] at hh; cases hh.1)
  clear h3
  rw [hd] at h4 he
  have hzl : zs = [] := List.map_eq_nil_iff.1 h4.eq
  subst hzl
  obtain ⟨aF', pF', rfl⟩ := (sl_of_row h4.fails).val
  obtain ⟨aP', pP', rfl⟩ := (sl_of_row h4.own.row).val
  exact ⟨f3, aF', pF', aP', pP', he, h4.fails⟩

theorem checked26 {c : Ca} {act rule : Int} {F : List Int} (hc : CaOk c) (hg : goodF exF rb0 c = true) (hk : checkF exF rb0 c ⟨act, rule, F, []⟩ = true) (v : Value) (ys : List RuV) (w : World) (h : FlAt w v ys exF) (af : Option Addr) (pf : Nat) (hF : IntsAt w (.slice af F.length pf) F) (hl : F.length ≤ 100) :
    Calls Tryz.prog 20 #[flV v 1, .agg #[.slice none 0 0, .slice none 0 0, .slice none 0 0], .agg #[.int .i64 c.caller, .int .i64 c.called, .int .i64 c.at_, .int .i64 c.level, .int .i64 c.fwd, .bool c.back], .agg #[.int .i64 act, .int .i64 rule, .slice af F.length pf, .slice none 0 0]] w fun e w' => e = .returned (.bool true) ∧ Fr [] w w' := by
  refine (fCheck_c v ys exF _ _ _ [] rb0 c (.slice af F.length pf) (.slice none 0 0) ⟨act, rule, F, []⟩ [] w h (rb0_at _) hc hF (PrOwn.nil _).at_ rfl ⟨by show F.length ≤ 1000000; omega, by simp⟩).mono ?_
  rintro r w3 h3
  rw [hg, hk] at h3
  exact h3

set_option maxRecDepth 100000 in
set_option maxHeartbeats 4000000 in
theorem decides26_c (c : Ca) (act rule : Int) (vF : Value) (F : List Int) (w : World) (hF : IntsAt w vF F) (hc : CaOk c) (hg : goodF exF rb0 c = true) (hd : decF exF rb0 c = ⟨act, rule, F, []⟩) (hk : checkF exF rb0 c ⟨act, rule, F, []⟩ = true) (hl : F.length ≤ 100) :
    Calls Tryz.prog 22 #[caV c, .int .i64 act, .int .i64 rule, vF] w fun e w' => e = .returned (.bool true) ∧ Fr [] w w' := by
  obtain ⟨af, pf, rfl⟩ := hF.val
  have HF := Lib.hid hF; have HC := Lib.hid hc; have HG := Lib.hid hg; have HD := Lib.hid hd; have HK := Lib.hid hk
  clear hF hc hg hd hk
  have CDD := Lib.hid (decided26 HC.out HG.out HD.out)
  obtain ⟨ca, cd, at_, lv, fw, bk⟩ := c
  simp only at CDD
  go_enter Tryz.func22, Tryz.ntmps22
  go_upto_region 2 with fail
  go_cut [10, 11] (fun s10 s11 W => ∃ (g : Nat) (aF' aP' : Option Addr) (pF' pP' : Nat), s10 = .pointer (some ⟨g, 0, none⟩) ∧ s11 = .int .i64 0 ∧ Hid (Fr [] w W ∧ (W.heap[w.heap.size]? = some (.cells #[.int .i64 ca, .int .i64 cd, .int .i64 at_, .int .i64 lv, .int .i64 fw, .bool bk] 54) ∧ W.heap[w.heap.size + 1]? = some (.cells #[.int .i64 act, .int .i64 rule, .slice af F.length pf, .slice none 0 0] 75)) ∧ W.heap[g]? = some (.cells #[.int .i64 act, .int .i64 rule, .slice aF' F.length pF', .slice aP' 0 pP'] 75)) ∧ Hid (IntsAt W (.slice aF' F.length pF') F))
  case first =>
    refine reg_tree (fun W => W.heap[w.heap.size]? = some (.cells #[.int .i64 ca, .int .i64 cd, .int .i64 at_, .int .i64 lv, .int .i64 fw, .bool bk] 54)) 9 (.take 1 (.take 2 (.two 0 7 (.two 3 7 (.take 4 (.take 5 (.take 6 (.one 7 (.one 8 (.one 9 .nil)))))) (.one 3 (.take 4 (.take 5 (.take 6 (.one 8 (.one 9 .nil))))))) (.one 0 (.one 3 (.take 4 (.take 5 (.take 6 (.one 8 (.one 9 .nil)))))))))) (by kernel_rfl) (by kernel_rfl) (by kernel_rfl) rfl ?_
    have AA := alloc2' w (.cells #[.int .i64 ca, .int .i64 cd, .int .i64 at_, .int .i64 lv, .int .i64 fw, .bool bk] 54) (.cells #[.int .i64 act, .int .i64 rule, .slice af F.length pf, .slice none 0 0] 75)
    have fd := (Fr.alloc [] w (.cells #[.int .i64 ca, .int .i64 cd, .int .i64 at_, .int .i64 lv, .int .i64 fw, .bool bk] 54)).trans (Fr.alloc [] _ (.cells #[.int .i64 act, .int .i64 rule, .slice af F.length pf, .slice none 0 0] 75))
    generalize (w.alloc (.cells #[.int .i64 ca, .int .i64 cd, .int .i64 at_, .int .i64 lv, .int .i64 fw, .bool bk] 54)).alloc (.cells #[.int .i64 act, .int .i64 rule, .slice af F.length pf, .slice none 0 0] 75) = W0 at AA fd ⊢
    have HAA := Lib.hid (And.intro fd AA)
    have hw0 : w.heap.size + 1 < W0.heap.size := blk_lt AA.2
    have S0 := (Fr.drew [] W0).keep AA.1 (by simp)
    have FW := Lib.hid (Fr.drew [] W0)
    generalize W0.drew = WD at S0 FW ⊢
    clear AA fd
    have hl0 : W0.heap.size ≤ WD.heap.size := FW.out.size
    refine tree_take (v := ?_) rfl rfl rfl S0 (fun w hS => ?_) ?_
    rotate_left
    (focus (go_simp; rfl))
    simp only [List.setIfInBounds_toArray, List.set_cons_succ, List.set_cons_zero]
    refine tree_take (v := ?_) rfl rfl rfl S0 (fun w hS => ?_) ?_
    rotate_left
    (focus (have s0 := cell_of_blk hS 0; have s1 := cell_of_blk hS 1; have s2 := cell_of_blk hS 2; have s3 := cell_of_blk hS 3; have s4 := cell_of_blk hS 4; have s5 := cell_of_blk hS 5; go_simp; rfl))
    simp only [List.setIfInBounds_toArray, List.set_cons_succ, List.set_cons_zero]
    refine ⟨?_, ?_⟩
    · refine tree_op rfl rfl (fun K hK => ?_)
      go_simp
      refine (example26_c _).mono ?_
      rintro r w2 ⟨f2, av, ys, rfl, hv⟩
      refine hK _ _ (f2.keep S0 (by simp)) ?_
      replace S0 := f2.keep S0 (by simp)
      replace FW := Lib.hid (FW.out.trans f2)
      have HV := Lib.hid hv
      have hl2 : W0.heap.size ≤ w2.heap.size := FW.out.size
      clear f2 hv
      clear hK K
      try simp only [Act.put, List.setIfInBounds_toArray, List.set_cons_succ, List.set_cons_zero]
      refine ⟨?_, ?_⟩
      · refine tree_op rfl rfl (fun K hK => ?_)
        go_simp
        refine (CDD.out _ ys _ HV.out).mono ?_
        rintro r w3 ⟨f3, aF', pF', aP', pP', rfl, h3⟩
        have HF3 : Hid (w3.ownsRow 0 3 1 (.slice aF' F.length pF') F.length (intC F)) := Lib.hid h3
        refine hK _ _ (f3.keep S0 (by simp)) ?_
        replace S0 := f3.keep S0 (by simp)
        replace FW := Lib.hid (FW.out.trans f3)
        have hl3 : W0.heap.size ≤ w3.heap.size := FW.out.size
        clear f3 h3
        clear hK K
        try simp only [Act.put, List.setIfInBounds_toArray, List.set_cons_succ, List.set_cons_zero]
        refine tree_take (v := ?_) rfl rfl rfl S0 (fun w hS => ?_) ?_
        rotate_left
        (focus (go_simp; rfl))
        simp only [List.setIfInBounds_toArray, List.set_cons_succ, List.set_cons_zero]
        refine tree_take (v := ?_) rfl rfl rfl S0 (fun w hS => ?_) ?_
        rotate_left
        (focus (go_simp; rfl))
        simp only [List.setIfInBounds_toArray, List.set_cons_succ, List.set_cons_zero]
        refine tree_take (v := ?_) rfl rfl rfl S0 (fun w hS => ?_) ?_
        rotate_left
        (focus (go_simp; rfl))
        simp only [List.setIfInBounds_toArray, List.set_cons_succ, List.set_cons_zero]
        refine tree_one rfl rfl (fun K hK => ?_)
        go_simp
        have fa := Fr.alloc [] w3 (.cells #[.int .i64 0, .int .i64 0, .slice none 0 0, .slice none 0 0] 75)
        have BA := heap_alloc_new w3 (.cells #[.int .i64 0, .int .i64 0, .slice none 0 0, .slice none 0 0] 75)
        refine hK _ _ (fa.keep S0 (by simp)) ?_
        replace S0 := fa.keep S0 (by simp)
        replace FW := Lib.hid (FW.out.trans fa)
        replace HF3 := Lib.hid (row_fr HF3.out fa (by simp))
        clear fa
        clear hK K
        try simp only [Act.put, List.setIfInBounds_toArray, List.set_cons_succ, List.set_cons_zero]
        generalize w3.alloc (.cells #[.int .i64 0, .int .i64 0, .slice none 0 0, .slice none 0 0] 75) = WA at *
        generalize w3.heap.size = gA at *
        refine tree_one rfl rfl (fun K hK => ?_)
        have t0 := cell_of_blk BA 0; have t1 := cell_of_blk BA 1; have t2 := cell_of_blk BA 2; have t3 := cell_of_blk BA 3
        have u0 := free_of_blk BA 0; have u1 := free_of_blk BA 1; have u2 := free_of_blk BA 2; have u3 := free_of_blk BA 3
        go_simp
        try go_upon
        try go_simp
        obtain ⟨KS, FS⟩ := set4 BA (.int .i64 act) (.int .i64 rule) (.slice aF' F.length pF') (.slice aP' 0 pP')
        have SZ := FS.keep S0 (by simp; omega)
        refine hK _ _ SZ ?_
        clear t0 t1 t2 t3 u0 u1 u2 u3 S0
        have HKS := Lib.hid KS
        have FZ := Lib.hid (FW.out.step FS (fun i hi => by simp at hi; exact .inr (by omega)))
        have HFZ := Lib.hid (sl_of_row (row_fr HF3.out FS (fun g hg hm => by rw [List.mem_singleton] at hm; subst hm; exact row_box HF3.out BA (by decide) hg)))
        clear hK K
        try simp only [Act.put, List.setIfInBounds_toArray, List.set_cons_succ, List.set_cons_zero]
        refine tree_last rfl rfl (fun K hK => ?_)
        go_simp
        refine hK _ _ ?_
        clear hK K
        refine noPanic_normal ?_
        go_wp2_with fail
        go_meet
        case rel => exact ⟨_, aF', aP', pF', pP', rfl, rfl, Lib.hid ⟨HAA.out.1.trans FZ.out, ⟨FZ.out.keep HAA.out.2.1 (by simp), FZ.out.keep HAA.out.2.2 (by simp)⟩, HKS.out⟩, HFZ⟩
      · refine tree_op rfl rfl (fun K hK => ?_)
        go_simp
        have fa := Fr.alloc [] w2 (.cells #[.int .i64 0, .int .i64 0, .slice none 0 0, .slice none 0 0] 75)
        have BA := heap_alloc_new w2 (.cells #[.int .i64 0, .int .i64 0, .slice none 0 0, .slice none 0 0] 75)
        refine hK _ _ (fa.keep S0 (by simp)) ?_
        replace S0 := fa.keep S0 (by simp)
        replace FW := Lib.hid (FW.out.trans fa)
        replace HV := Lib.hid (HV.out.same fa)
        clear fa
        clear hK K
        try simp only [Act.put, List.setIfInBounds_toArray, List.set_cons_succ, List.set_cons_zero]
        generalize w2.alloc (.cells #[.int .i64 0, .int .i64 0, .slice none 0 0, .slice none 0 0] 75) = WA at *
        generalize w2.heap.size = gA at *
        refine tree_one rfl rfl (fun K hK => ?_)
        go_simp
        refine (CDD.out _ ys _ HV.out).mono ?_
        rintro r w3 ⟨f3, aF', pF', aP', pP', rfl, h3⟩
        have HF3 : Hid (w3.ownsRow 0 3 1 (.slice aF' F.length pF') F.length (intC F)) := Lib.hid h3
        refine hK _ _ (f3.keep S0 (by simp)) ?_
        replace S0 := f3.keep S0 (by simp)
        replace FW := Lib.hid (FW.out.trans f3)
        replace BA := f3.keep BA (by simp)
        clear f3 h3
        clear hK K
        try simp only [Act.put, List.setIfInBounds_toArray, List.set_cons_succ, List.set_cons_zero]
        refine tree_take (v := ?_) rfl rfl rfl S0 (fun w hS => ?_) ?_
        rotate_left
        (focus (go_simp; rfl))
        simp only [List.setIfInBounds_toArray, List.set_cons_succ, List.set_cons_zero]
        refine tree_take (v := ?_) rfl rfl rfl S0 (fun w hS => ?_) ?_
        rotate_left
        (focus (go_simp; rfl))
        simp only [List.setIfInBounds_toArray, List.set_cons_succ, List.set_cons_zero]
        refine tree_take (v := ?_) rfl rfl rfl S0 (fun w hS => ?_) ?_
        rotate_left
        (focus (go_simp; rfl))
        simp only [List.setIfInBounds_toArray, List.set_cons_succ, List.set_cons_zero]
        refine tree_one rfl rfl (fun K hK => ?_)
        have t0 := cell_of_blk BA 0; have t1 := cell_of_blk BA 1; have t2 := cell_of_blk BA 2; have t3 := cell_of_blk BA 3
        have u0 := free_of_blk BA 0; have u1 := free_of_blk BA 1; have u2 := free_of_blk BA 2; have u3 := free_of_blk BA 3
        go_simp
        try go_upon
        try go_simp
        obtain ⟨KS, FS⟩ := set4 BA (.int .i64 act) (.int .i64 rule) (.slice aF' F.length pF') (.slice aP' 0 pP')
        have SZ := FS.keep S0 (by simp; omega)
        refine hK _ _ SZ ?_
        clear t0 t1 t2 t3 u0 u1 u2 u3 S0
        have HKS := Lib.hid KS
        have FZ := Lib.hid (FW.out.step FS (fun i hi => by simp at hi; exact .inr (by omega)))
        have HFZ := Lib.hid (sl_of_row (row_fr HF3.out FS (fun g hg hm => by rw [List.mem_singleton] at hm; subst hm; exact row_box HF3.out BA (by decide) hg)))
        clear hK K
        try simp only [Act.put, List.setIfInBounds_toArray, List.set_cons_succ, List.set_cons_zero]
        refine tree_last rfl rfl (fun K hK => ?_)
        go_simp
        refine hK _ _ ?_
        clear hK K
        refine noPanic_normal ?_
        go_wp2_with fail
        go_meet
        case rel => exact ⟨_, aF', aP', pF', pP', rfl, rfl, Lib.hid ⟨HAA.out.1.trans FZ.out, ⟨FZ.out.keep HAA.out.2.1 (by simp), FZ.out.keep HAA.out.2.2 (by simp)⟩, HKS.out⟩, HFZ⟩
    · refine tree_op rfl rfl (fun K hK => ?_)
      go_simp
      have fa := Fr.alloc [] WD (.cells #[.int .i64 0, .int .i64 0, .slice none 0 0, .slice none 0 0] 75)
      have BA := heap_alloc_new WD (.cells #[.int .i64 0, .int .i64 0, .slice none 0 0, .slice none 0 0] 75)
      refine hK _ _ (fa.keep S0 (by simp)) ?_
      replace S0 := fa.keep S0 (by simp)
      replace FW := Lib.hid (FW.out.trans fa)
      clear fa
      clear hK K
      try simp only [Act.put, List.setIfInBounds_toArray, List.set_cons_succ, List.set_cons_zero]
      generalize WD.alloc (.cells #[.int .i64 0, .int .i64 0, .slice none 0 0, .slice none 0 0] 75) = WA at *
      generalize WD.heap.size = gA at *
      refine tree_one rfl rfl (fun K hK => ?_)
      go_simp
      refine (example26_c _).mono ?_
      rintro r w2 ⟨f2, av, ys, rfl, hv⟩
      refine hK _ _ (f2.keep S0 (by simp)) ?_
      replace S0 := f2.keep S0 (by simp)
      replace FW := Lib.hid (FW.out.trans f2)
      have HV := Lib.hid hv
      replace BA := f2.keep BA (by simp)
      clear f2 hv
      clear hK K
      try simp only [Act.put, List.setIfInBounds_toArray, List.set_cons_succ, List.set_cons_zero]
      refine tree_one rfl rfl (fun K hK => ?_)
      go_simp
      refine (CDD.out _ ys _ HV.out).mono ?_
      rintro r w3 ⟨f3, aF', pF', aP', pP', rfl, h3⟩
      have HF3 : Hid (w3.ownsRow 0 3 1 (.slice aF' F.length pF') F.length (intC F)) := Lib.hid h3
      refine hK _ _ (f3.keep S0 (by simp)) ?_
      replace S0 := f3.keep S0 (by simp)
      replace FW := Lib.hid (FW.out.trans f3)
      replace BA := f3.keep BA (by simp)
      clear f3 h3
      clear hK K
      try simp only [Act.put, List.setIfInBounds_toArray, List.set_cons_succ, List.set_cons_zero]
      refine tree_take (v := ?_) rfl rfl rfl S0 (fun w hS => ?_) ?_
      rotate_left
      (focus (go_simp; rfl))
      simp only [List.setIfInBounds_toArray, List.set_cons_succ, List.set_cons_zero]
      refine tree_take (v := ?_) rfl rfl rfl S0 (fun w hS => ?_) ?_
      rotate_left
      (focus (go_simp; rfl))
      simp only [List.setIfInBounds_toArray, List.set_cons_succ, List.set_cons_zero]
      refine tree_take (v := ?_) rfl rfl rfl S0 (fun w hS => ?_) ?_
      rotate_left
      (focus (go_simp; rfl))
      simp only [List.setIfInBounds_toArray, List.set_cons_succ, List.set_cons_zero]
      refine tree_one rfl rfl (fun K hK => ?_)
      have t0 := cell_of_blk BA 0; have t1 := cell_of_blk BA 1; have t2 := cell_of_blk BA 2; have t3 := cell_of_blk BA 3
      have u0 := free_of_blk BA 0; have u1 := free_of_blk BA 1; have u2 := free_of_blk BA 2; have u3 := free_of_blk BA 3
      go_simp
      try go_upon
      try go_simp
      obtain ⟨KS, FS⟩ := set4 BA (.int .i64 act) (.int .i64 rule) (.slice aF' F.length pF') (.slice aP' 0 pP')
      have SZ := FS.keep S0 (by simp; omega)
      refine hK _ _ SZ ?_
      clear t0 t1 t2 t3 u0 u1 u2 u3 S0
      have HKS := Lib.hid KS
      have FZ := Lib.hid (FW.out.step FS (fun i hi => by simp at hi; exact .inr (by omega)))
      have HFZ := Lib.hid (sl_of_row (row_fr HF3.out FS (fun g hg hm => by rw [List.mem_singleton] at hm; subst hm; exact row_box HF3.out BA (by decide) hg)))
      clear hK K
      try simp only [Act.put, List.setIfInBounds_toArray, List.set_cons_succ, List.set_cons_zero]
      refine tree_last rfl rfl (fun K hK => ?_)
      go_simp
      refine hK _ _ ?_
      clear hK K
      refine noPanic_normal ?_
      go_wp2_with fail
      go_meet
      case rel => exact ⟨_, aF', aP', pF', pP', rfl, rfl, Lib.hid ⟨HAA.out.1.trans FZ.out, ⟨FZ.out.keep HAA.out.2.1 (by simp), FZ.out.keep HAA.out.2.2 (by simp)⟩, HKS.out⟩, HFZ⟩
  case rest =>
    obtain ⟨g, aF', aP', pF', pP', rfl, rfl, HB, HF'⟩ := hcut
    have CC : Hid (∀ W, Fr [] wc W → (W.heap[w.heap.size]? = some (.cells #[.int .i64 ca, .int .i64 cd, .int .i64 at_, .int .i64 lv, .int .i64 fw, .bool bk] 54) ∧ W.heap[w.heap.size + 1]? = some (.cells #[.int .i64 act, .int .i64 rule, .slice af F.length pf, .slice none 0 0] 75)) ∧ W.heap[g]? = some (.cells #[.int .i64 act, .int .i64 rule, .slice aF' F.length pF', .slice aP' 0 pP'] 75)) := Lib.hid fun W hf => ⟨⟨hf.keep HB.out.2.1.1 (by simp), hf.keep HB.out.2.1.2 (by simp)⟩, hf.keep HB.out.2.2 (by simp)⟩
    have CL : Hid (∀ W, Fr [] wc W → Calls Tryz.prog 63 #[dnV act rule (.slice aF' F.length pF') (.slice aP' 0 pP'), dnV act rule (.slice af F.length pf) (.slice none 0 0)] W fun e w' => e = .returned (.bool true) ∧ Fr [] W w') := Lib.hid fun W hf => by
      have := like26_c act rule act rule (.slice aF' F.length pF') (.slice af F.length pf) F F aP' none 0 0 pP' 0 W (HF'.out.same hf) (HF.out.same (HB.out.1.trans hf))
      simpa using this
    have CK : Hid (∀ W (av : Addr) (ys : List RuV), Fr [] wc W → FlAt W (.slice (some av) 2 2) ys exF → _) := Lib.hid fun W av ys hf hv => checked26 HC.out HG.out HK.out (.slice (some av) 2 2) ys W hv af pf (HF.out.same (HB.out.1.trans hf)) hl
    go_wp2_with fail
    refine reg_mix (Fr [] wc) [0, 1, 2, 3, 4, 5, 6, 7, 9, 10, 11, 8, 12, 13, 14] (by kernel_rfl) (by kernel_rfl) (by kernel_rfl) rfl (Fr.drew _ _) ?_
    have FC : Fr [] wc wc.drew := Fr.drew _ _
    generalize wc.drew = WC at FC ⊢
    iterate 3 (refine mix_take1 (v := ?_) rfl rfl rfl rfl (fun w hS => ?_) ?_; rotate_left; (focus (have hS := CC.out _ hS; have s0 := cell_of_blk hS.1.1 0; have s1 := cell_of_blk hS.1.1 1; have s2 := cell_of_blk hS.1.1 2; have s3 := cell_of_blk hS.1.1 3; have s4 := cell_of_blk hS.1.1 4; have s5 := cell_of_blk hS.1.1 5; have t0 := cell_of_blk hS.1.2 0; have t1 := cell_of_blk hS.1.2 1; have t2 := cell_of_blk hS.1.2 2; have t3 := cell_of_blk hS.1.2 3; have v0 := cell_of_blk hS.2 0; have v1 := cell_of_blk hS.2 1; have v2 := cell_of_blk hS.2 2; have v3 := cell_of_blk hS.2 3; clear hS; go_simp; rfl)); simp only [List.setIfInBounds_toArray, List.set_cons_succ, List.set_cons_zero])
    iterate 2 (refine mix_takeg (v := ?_) rfl rfl rfl rfl rfl rfl (fun w hS => ?_) ?_; rotate_left; (focus (have hS := CC.out _ hS; have s0 := cell_of_blk hS.1.1 0; have s1 := cell_of_blk hS.1.1 1; have s2 := cell_of_blk hS.1.1 2; have s3 := cell_of_blk hS.1.1 3; have s4 := cell_of_blk hS.1.1 4; have s5 := cell_of_blk hS.1.1 5; have t0 := cell_of_blk hS.1.2 0; have t1 := cell_of_blk hS.1.2 1; have t2 := cell_of_blk hS.1.2 2; have t3 := cell_of_blk hS.1.2 3; have v0 := cell_of_blk hS.2 0; have v1 := cell_of_blk hS.2 1; have v2 := cell_of_blk hS.2 2; have v3 := cell_of_blk hS.2 3; clear hS; go_simp; rfl)); simp only [List.setIfInBounds_toArray, List.set_cons_succ, List.set_cons_zero])
    refine mix_dog rfl rfl rfl rfl rfl (fun K hK => ?_)
    go_simp
    refine (CL.out _ FC).mono ?_
    rintro e wq ⟨rfl, fq⟩
    have FC := FC.trans fq
    refine hK _ _ FC ?_
    clear hK K
    try simp only [Act.put, List.setIfInBounds_toArray, List.set_cons_succ, List.set_cons_zero]
    iterate 2 (refine mix_take1 (v := ?_) rfl rfl rfl rfl (fun w hS => ?_) ?_; rotate_left; (focus (have hS := CC.out _ hS; have s0 := cell_of_blk hS.1.1 0; have s1 := cell_of_blk hS.1.1 1; have s2 := cell_of_blk hS.1.1 2; have s3 := cell_of_blk hS.1.1 3; have s4 := cell_of_blk hS.1.1 4; have s5 := cell_of_blk hS.1.1 5; have t0 := cell_of_blk hS.1.2 0; have t1 := cell_of_blk hS.1.2 1; have t2 := cell_of_blk hS.1.2 2; have t3 := cell_of_blk hS.1.2 3; have v0 := cell_of_blk hS.2 0; have v1 := cell_of_blk hS.2 1; have v2 := cell_of_blk hS.2 2; have v3 := cell_of_blk hS.2 3; clear hS; go_simp; rfl)); simp only [List.setIfInBounds_toArray, List.set_cons_succ, List.set_cons_zero])
    iterate 3 (refine mix_takeg (v := ?_) rfl rfl rfl rfl rfl rfl (fun w hS => ?_) ?_; rotate_left; (focus (have hS := CC.out _ hS; have s0 := cell_of_blk hS.1.1 0; have s1 := cell_of_blk hS.1.1 1; have s2 := cell_of_blk hS.1.1 2; have s3 := cell_of_blk hS.1.1 3; have s4 := cell_of_blk hS.1.1 4; have s5 := cell_of_blk hS.1.1 5; have t0 := cell_of_blk hS.1.2 0; have t1 := cell_of_blk hS.1.2 1; have t2 := cell_of_blk hS.1.2 2; have t3 := cell_of_blk hS.1.2 3; have v0 := cell_of_blk hS.2 0; have v1 := cell_of_blk hS.2 1; have v2 := cell_of_blk hS.2 2; have v3 := cell_of_blk hS.2 3; clear hS; go_simp; rfl)); simp only [List.setIfInBounds_toArray, List.set_cons_succ, List.set_cons_zero])
    refine mix_dog rfl rfl rfl rfl rfl (fun K hK => ?_)
    go_simp
    refine (example26_c _).mono ?_
    rintro e wq ⟨fq, av, ys, rfl, hv⟩
    have FC := FC.trans fq
    have HV := Lib.hid hv
    clear hv
    refine hK _ _ FC ?_
    clear hK K
    try simp only [Act.put, List.setIfInBounds_toArray, List.set_cons_succ, List.set_cons_zero]
    refine mix_dog rfl rfl rfl rfl rfl (fun K hK => ?_)
    go_simp
    refine (CK.out _ _ _ FC HV.out).mono ?_
    rintro e wq ⟨rfl, fq⟩
    have FC := FC.trans fq
    refine hK _ _ FC ?_
    clear hK K
    try simp only [Act.put, List.setIfInBounds_toArray, List.set_cons_succ, List.set_cons_zero]
    iterate 2 (refine mix_take1 (v := ?_) rfl rfl rfl rfl (fun w hS => ?_) ?_; rotate_left; (focus (have hS := CC.out _ hS; have s0 := cell_of_blk hS.1.1 0; have s1 := cell_of_blk hS.1.1 1; have s2 := cell_of_blk hS.1.1 2; have s3 := cell_of_blk hS.1.1 3; have s4 := cell_of_blk hS.1.1 4; have s5 := cell_of_blk hS.1.1 5; have t0 := cell_of_blk hS.1.2 0; have t1 := cell_of_blk hS.1.2 1; have t2 := cell_of_blk hS.1.2 2; have t3 := cell_of_blk hS.1.2 3; have v0 := cell_of_blk hS.2 0; have v1 := cell_of_blk hS.2 1; have v2 := cell_of_blk hS.2 2; have v3 := cell_of_blk hS.2 3; clear hS; go_simp; rfl)); simp only [List.setIfInBounds_toArray, List.set_cons_succ, List.set_cons_zero])
    refine mix_end ?_
    go_wp2_with fail
    go_ret
    exact ⟨rfl, HB.out.1.trans FC⟩

end Go.Proofs.YtahfpadaoobkfaaGreatDoor
