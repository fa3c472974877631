/-
  dialtonelaw08: the reference's comparisons; the chapter's example.
-/
import Derived.Test.YtfidioedjmjddaaGreatQStU
import Derived.Handy
namespace Go.Proofs.YtfidioedjmjddaaGreat
open Go.RowKit Go.Lib

/-- A block that is known whole, as a slice. -/
theorem sl_blk {w : World} {b n cap : Nat} {c : Array Value} {e : TypeId} {f : Nat × Nat} {cs : List Value} (h : w.heap[b]? = some (.cells c e f)) (hc : c.toList = cs) (h1 : n ≤ cap) (h2 : cap ≤ 9223372036854775807) : Sl w (.slice (some ⟨b, 0, none⟩) n cap) n cs :=
  ⟨_, cap, rfl, h1, h2, fun _ => ⟨b, 0, rfl, fun j u hu => by
    rw [Nat.zero_add, cell_of_blk h]
    rw [← hc, Array.getElem?_toList] at hu
    exact hu⟩⟩
theorem alloc6 (w : World) (a b c d e f : Obj) : let W := (((((w.alloc a).alloc b).alloc c).alloc d).alloc e).alloc f
    W.heap[w.heap.size]? = some a ∧ W.heap[w.heap.size + 1]? = some b ∧ W.heap[w.heap.size + 1 + 1]? = some c ∧ W.heap[w.heap.size + 1 + 1 + 1]? = some d ∧ W.heap[w.heap.size + 1 + 1 + 1 + 1]? = some e ∧ W.heap[w.heap.size + 1 + 1 + 1 + 1 + 1]? = some f := by
  have hs : ∀ (w : World) (o : Obj), (w.alloc o).heap.size = w.heap.size + 1 := fun w o => Array.size_push ..
  refine ⟨?_, ?_, ?_, ?_, ?_, ?_⟩
  · exact heap_alloc_old _ (heap_alloc_old _ (heap_alloc_old _ (heap_alloc_old _ (heap_alloc_old _ (heap_alloc_new _ _)))))
  · have := heap_alloc_new (w.alloc a) b
    rw [hs] at this
    exact heap_alloc_old _ (heap_alloc_old _ (heap_alloc_old _ (heap_alloc_old _ this)))
  · have := heap_alloc_new ((w.alloc a).alloc b) c
    rw [hs, hs] at this
    exact heap_alloc_old _ (heap_alloc_old _ (heap_alloc_old _ this))
  · have := heap_alloc_new (((w.alloc a).alloc b).alloc c) d
    rw [hs, hs, hs] at this
    exact heap_alloc_old _ (heap_alloc_old _ this)
  · have := heap_alloc_new ((((w.alloc a).alloc b).alloc c).alloc d) e
    rw [hs, hs, hs, hs] at this
    exact heap_alloc_old _ this
  · have := heap_alloc_new (((((w.alloc a).alloc b).alloc c).alloc d).alloc e) f
    rw [hs, hs, hs, hs, hs] at this
    exact this

def exC : Rb := ⟨[⟨100, 200, 1000, [0], [2], 3⟩, ⟨300, 250, 1000, [1], [], 3⟩], [], [⟨7, 0, 0, 1000, 150, 1000⟩, ⟨7, 2, 500, 1000, 600, 1000⟩]⟩
def exR : Rb := ⟨exC.cls, [⟨0, 350, 300⟩], exC.fas⟩
def exQ : Qn := ⟨7, 3, 400, 400⟩
def exL : Qn := ⟨7, 3, 700, 650⟩
def ex1 : List Fd := [⟨0, true, 0, -1⟩, ⟨2, false, -1, -1⟩, ⟨3, true, -1, 0⟩]
def ex2 : List Fd := [⟨1, false, -1, -1⟩, ⟨2, true, 1, -1⟩, ⟨3, false, -1, -1⟩]
theorem ex_ok1 : okB exC exQ = true := by decide +kernel
theorem ex_ok2 : okB exC exL = true := by decide +kernel
theorem ex_ok3 : okB exC ⟨7, 3, 700, 550⟩ = true := by decide +kernel
theorem ex_ok4 : okB exC ⟨7, 3, 199, 650⟩ = true := by decide +kernel
theorem ex_ok5 : okB exC ⟨7, 3, 400, 120⟩ = true := by decide +kernel
theorem ex_ok6 : okB exR exQ = true := by decide +kernel
theorem ex_a1 : decideA exC exQ = true := by decide +kernel
theorem ex_a2 : decideA exC exL = false := by decide +kernel
theorem ex_a3 : decideA exC ⟨7, 3, 700, 550⟩ = true := by decide +kernel
theorem ex_a4 : decideA exC ⟨7, 3, 199, 650⟩ = false := by decide +kernel
theorem ex_a5 : decideA exC ⟨7, 3, 400, 120⟩ = false := by decide +kernel
theorem ex_a6 : decideA exR exQ = false := by decide +kernel
theorem ex_l1 : decideL exC exQ = ex1 := by decide +kernel
theorem ex_l2 : decideL exC exL = ex2 := by decide +kernel
theorem ex_l4 : decideL exC ⟨7, 3, 199, 650⟩ = [⟨3, false, -1, -1⟩] := by decide +kernel
theorem ex_u : usesB exC exL ex2 = true := by decide +kernel
theorem ex_uf : useF ex2 = [1] := by decide +kernel
theorem ex_uc : useC exC (clausesOf exC exL) ex2 = [0, 1] := by decide +kernel
theorem ex_f : factsOf exC exQ = [0] := by decide +kernel
theorem ex_c : clausesOf exC exQ = [0, 1] := by decide +kernel
theorem ex_k1 : checkB exC exQ true ex1 = true := by decide +kernel
theorem ex_k2 : checkB exC exQ false ex1 = false := by decide +kernel
theorem ex_k3 : checkB exC exL true ex1 = false := by decide +kernel
theorem ex_k4 : checkB exC exL false ex2 = true := by decide +kernel
theorem ex_v : validB exC = true := by decide +kernel
theorem ex_v0 : validB ⟨[⟨0, 0, 0, [], [], 0⟩], [], []⟩ = false := by decide +kernel
theorem ex_q : asksB exQ = true := by decide +kernel
theorem ex_q0 : asksB ⟨0, 0, -1, 0⟩ = false := by decide +kernel

set_option maxRecDepth 100000 in
set_option maxHeartbeats 2000000 in
theorem ints_c (va vb : Value) (la lb : List Int) (w : World) (ha : IntsAt w va la) (hb : IntsAt w vb lb) : Calls Tryz.prog 17 #[va, vb] w fun e w' => e = .returned (.bool (decide (la = lb))) ∧ Fr [] w w' := by
  obtain ⟨aa, pa, rfl⟩ := ha.val
  obtain ⟨ab, pb, rfl⟩ := hb.val
  have hal := ha.len
  have hbl := hb.len
  have HA := Lib.hid ha; have HB := Lib.hid hb; clear ha hb
  by_cases hll : la.length = lb.length
  · go_enter Tryz.func17, Tryz.ntmps17
    go_wp2_with fail
    go_loopw [5] (fun i wr => ∃ k : Nat, k ≤ la.length ∧ i = .int .i64 k ∧ Hid (la.take k = lb.take k ∧ Fr [] w wr)) (fun i _ => la.length - (intOf i).toNat)
    case atStart => exact ⟨0, Nat.zero_le _, rfl, Lib.hid ⟨rfl, Fr.refl _ _⟩⟩
    case round =>
      obtain ⟨k, hk, rfl, H⟩ := hrel
      by_cases hlt : k < la.length
      · obtain ⟨ba, oa, rfl, hca⟩ := HA.out.at_ (by omega)
        obtain ⟨bb, ob, rfl, hcb⟩ := HB.out.at_ (by omega)
        have hlb : k < lb.length := by omega
        have e1 : wr.cell? ⟨ba, oa + k, none⟩ = some (.int .i64 la[k]) := (World.cell?_of_block (H.out.2.block ba (World.block_lt_of_cell? w _ (hca k (.int .i64 la[k]) (by simp [hlt]))) (by simp))).trans (hca k _ (by simp [hlt]))
        have e2 : wr.cell? ⟨bb, ob + k, none⟩ = some (.int .i64 lb[k]) := (World.cell?_of_block (H.out.2.block bb (World.block_lt_of_cell? w _ (hcb k (.int .i64 lb[k]) (by simp [hlb]))) (by simp))).trans (hcb k _ (by simp [hlb]))
        have HT : Hid (la.take (k + 1) = la.take k ++ [la[k]] ∧ lb.take (k + 1) = lb.take k ++ [lb[k]]) := Lib.hid ⟨List.take_succ_eq_append_getElem hlt, List.take_succ_eq_append_getElem hlb⟩
        by_cases he : la[k] = lb[k]
        · have HE : Hid (la[k] = lb[k]) := Lib.hid he
          rw [← he] at e2
          generalize la[k] = x at *
          clear he hca hcb
          go_wp2_with (first | go_quiet (fail) | fail)
          refine ⟨⟨k + 1, by omega, by go_num, Lib.hid ⟨by rw [HT.out.1, HT.out.2, H.out.1, HE.out], H.out.2.trans (Fr.drewN _ _ _)⟩⟩, ?_⟩
          simp [intOf]; omega
        · have hne : la ≠ lb := fun h => he (by subst h; rfl)
          have hd : decide (la = lb) = false := by simp [hne]
          have he1 : (la[k] == lb[k]) = false := by simp [he]
          have he2 : (la[k] != lb[k]) = true := by simp [he]
          have HD := Lib.hid hd
          generalize la[k] = x at *
          generalize lb[k] = y at *
          clear he hca hcb hne hd
          go_wp2_with (first | go_quiet (fail) | fail)
          go_ret
          exact ⟨by rw [HD.out]; rfl, H.out.2.trans (Fr.drewN _ _ _)⟩
      · obtain rfl : k = la.length := by omega
        go_wp2_with fail
        go_ret
        have h1 := H.out.1
        rw [List.take_length, hll, List.take_length] at h1
        exact ⟨by simp [h1], H.out.2⟩
  · have hne : la ≠ lb := fun h => hll (by rw [h])
    have hd : decide (la = lb) = false := by simp [hne]
    have HD := Lib.hid hd
    have h2 : ¬ (la.length : Int) = lb.length := by omega
    have h3 : ((la.length : Int) == lb.length) = false := by simpa using h2
    have h4 : ((la.length : Int) != lb.length) = true := by simpa using h2
    clear hne hd
    go_enter Tryz.func17, Tryz.ntmps17
    go_wp2_with fail
    go_ret
    exact ⟨by rw [HD.out]; rfl, Fr.refl _ _⟩

set_option maxRecDepth 100000 in
set_option maxHeartbeats 2000000 in
theorem same_c (va vb : Value) (l : List Fd) (w : World) (ha : Sl w va l.length (l.flatMap fdC)) (hb : Sl w vb l.length (l.flatMap fdC)) : Calls Tryz.prog 24 #[va, vb] w fun e w' => e = .returned (.bool true) ∧ Fr [] w w' := by
  obtain ⟨aa, pa, rfl⟩ := ha.val
  obtain ⟨ab, pb, rfl⟩ := hb.val
  have hal := ha.len
  have HA := Lib.hid ha; have HB := Lib.hid hb; clear ha hb
  go_enter Tryz.func24, Tryz.ntmps24
  go_wp2_with fail
  go_loopw [5] (fun i wr => ∃ k : Nat, k ≤ l.length ∧ i = .int .i64 k ∧ Hid (Fr [] w wr)) (fun i _ => l.length - (intOf i).toNat)
  case atStart => exact ⟨0, Nat.zero_le _, rfl, Lib.hid (Fr.refl _ _)⟩
  case round =>
    obtain ⟨k, hk, rfl, H⟩ := hrel
    by_cases hlt : k < l.length
    · obtain ⟨ba, oa, ea, hca⟩ := (HA.out.same H.out).at_ (by omega)
      subst ea
      obtain ⟨bb, ob, eb, hcb⟩ := (HB.out.same H.out).at_ (by omega)
      subst eb
      have d0 := hca (k * 4 + 0) _ ((flat_get (enc := fdC) (k := 4) (fun _ => rfl) l k hlt 0 (by omega)).trans rfl)
      have d1 := hca (k * 4 + 1) _ ((flat_get (enc := fdC) (k := 4) (fun _ => rfl) l k hlt 1 (by omega)).trans rfl)
      have d2 := hca (k * 4 + 2) _ ((flat_get (enc := fdC) (k := 4) (fun _ => rfl) l k hlt 2 (by omega)).trans rfl)
      have d3 := hca (k * 4 + 3) _ ((flat_get (enc := fdC) (k := 4) (fun _ => rfl) l k hlt 3 (by omega)).trans rfl)
      have g0 := hcb (k * 4 + 0) _ ((flat_get (enc := fdC) (k := 4) (fun _ => rfl) l k hlt 0 (by omega)).trans rfl)
      have g1 := hcb (k * 4 + 1) _ ((flat_get (enc := fdC) (k := 4) (fun _ => rfl) l k hlt 1 (by omega)).trans rfl)
      have g2 := hcb (k * 4 + 2) _ ((flat_get (enc := fdC) (k := 4) (fun _ => rfl) l k hlt 2 (by omega)).trans rfl)
      have g3 := hcb (k * 4 + 3) _ ((flat_get (enc := fdC) (k := 4) (fun _ => rfl) l k hlt 3 (by omega)).trans rfl)
      simp only [Nat.add_zero, ← Nat.add_assoc] at d0 d1 d2 d3 g0 g1 g2 g3
      generalize l[k] = x at *
      obtain ⟨x0, x1, x2, x3⟩ := x
      simp only at d0 d1 d2 d3 g0 g1 g2 g3
      clear hca hcb
      go_wp2_with (first | go_quiet (fail) | fail)
      refine ⟨⟨k + 1, by omega, by go_num, Lib.hid (H.out.trans (Fr.drewN _ _ _))⟩, ?_⟩
      simp [intOf]; omega
    · obtain rfl : k = l.length := by omega
      go_wp2_with fail
      go_ret
      exact ⟨rfl, H.out⟩

set_option maxRecDepth 100000 in
set_option maxHeartbeats 2000000 in
theorem example_c (w : World) : Calls Tryz.prog 23 #[] w fun e w' => Fr [] w w' ∧ ∃ ac af ys, e = .returned (rbV (.slice (some ⟨ac, 0, none⟩) 2 2) (.slice none 0 0) (.slice (some ⟨af, 0, none⟩) 2 2)) ∧ ys.length = 2 ∧ RbAt w' (.slice (some ⟨ac, 0, none⟩) 2 2) (.slice none 0 0) (.slice (some ⟨af, 0, none⟩) 2 2) ys exC := by
  go_enter Tryz.func23, Tryz.ntmps23
  go_wp2_with fail
  go_returns
  have A6 := alloc6 w (.cells #[.slice (some ⟨w.heap.size + 1 + 1 + 1 + 1, 0, none⟩) 2 2, .slice none 0 0, .slice (some ⟨w.heap.size + 1 + 1 + 1 + 1 + 1, 0, none⟩) 2 2] 30) (.cells #[.int .i64 0] 3) (.cells #[.int .i64 2] 3) (.cells #[.int .i64 1] 3)
    (.cells #[.int .i64 100, .int .i64 200, .int .i64 1000, .slice (some ⟨w.heap.size + 1, 0, none⟩) 1 1, .slice (some ⟨w.heap.size + 1 + 1, 0, none⟩) 1 1, .int .i64 3, .int .i64 300, .int .i64 250, .int .i64 1000, .slice (some ⟨w.heap.size + 1 + 1 + 1, 0, none⟩) 1 1, .slice none 0 0, .int .i64 3] 67)
    (.cells #[.int .i64 7, .int .i64 0, .int .i64 0, .int .i64 1000, .int .i64 150, .int .i64 1000, .int .i64 7, .int .i64 2, .int .i64 500, .int .i64 1000, .int .i64 600, .int .i64 1000] 74)
  refine ⟨(((((Fr.alloc _ _ _).trans (Fr.alloc _ _ _)).trans (Fr.alloc _ _ _)).trans (Fr.alloc _ _ _)).trans (Fr.alloc _ _ _)).trans (Fr.alloc _ _ _), w.heap.size + 1 + 1 + 1 + 1, w.heap.size + 1 + 1 + 1 + 1 + 1, [⟨⟨100, 200, 1000, [0], [2], 3⟩, .slice (some ⟨w.heap.size + 1, 0, none⟩) 1 1, .slice (some ⟨w.heap.size + 1 + 1, 0, none⟩) 1 1⟩, ⟨⟨300, 250, 1000, [1], [], 3⟩, .slice (some ⟨w.heap.size + 1 + 1 + 1, 0, none⟩) 1 1, .slice none 0 0⟩], rfl, rfl, rfl, ⟨sl_blk A6.2.2.2.2.1 rfl (by omega) (by omega), fun y hy => ?_, fun y hy => ?_⟩, Sl.nil _, sl_blk A6.2.2.2.2.2 rfl (by omega) (by omega), ?_⟩
  · simp only [List.mem_cons, List.not_mem_nil, or_false] at hy
    rcases hy with rfl | rfl
    · exact sl_blk A6.2.1 rfl (by omega) (by omega)
    · exact sl_blk A6.2.2.2.1 rfl (by omega) (by omega)
  · simp only [List.mem_cons, List.not_mem_nil, or_false] at hy
    rcases hy with rfl | rfl
    · exact sl_blk A6.2.2.1 rfl (by omega) (by omega)
    · exact Sl.nil _
  · refine ⟨fun x hx => ?_, fun x hx => ?_, fun x hx => ?_⟩
    · simp only [exC, List.mem_cons, List.not_mem_nil, or_false] at hx
      rcases hx with rfl | rfl <;> (constructor <;> simp [I64])
    · simp [exC] at hx
    · simp only [exC, List.mem_cons, List.not_mem_nil, or_false] at hx
      rcases hx with rfl | rfl <;> (constructor <;> simp [I64])

end Go.Proofs.YtfidioedjmjddaaGreat
