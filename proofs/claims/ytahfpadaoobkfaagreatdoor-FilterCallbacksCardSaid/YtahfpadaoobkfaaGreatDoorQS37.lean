/-
  dialtonelaw26: sane.
-/
import Derived.Test.YtahfpadaoobkfaaGreatDoorQS36
import Derived.Test.YtahfpadaoobkfaaGreatDoorQS02
import Derived.Test.YtahfpadaoobkfaaGreatDoorQS25
import Derived.Test.YtahfpadaoobkfaaGreatDoorQS35
namespace Go.Proofs.YtahfpadaoobkfaaGreatDoor
open Go.RowKit Go.Lib

def c1S : Ca := ⟨550, 0, 40000, 1, 0, false⟩
def c2S : Ca := ⟨550, 0, 40000, 2, 0, false⟩
def c3S : Ca := ⟨700, 0, 80000, 1, 0, false⟩
def c4S : Ca := ⟨700, 0, 80000, 3, 0, false⟩
def c5S : Ca := ⟨550, 0, 0, 0, 0, true⟩
def bS : Rb := ⟨[], [], [⟨7, 2, 0, 100, 10, 100⟩]⟩
def gS : Fl := ⟨[⟨[⟨5, 2, 0, false⟩], 4⟩], 1⟩
theorem s_ok {a b c d e : Int} {f : Bool} (ha : 0 ≤ a ∧ a ≤ 1000000) (hb : 0 ≤ b ∧ b ≤ 1000000) (hc : 0 ≤ c ∧ c ≤ 1000000) (hd : 0 ≤ d ∧ d ≤ 1000000) (he : 0 ≤ e ∧ e ≤ 1000000) : CaOk ⟨a, b, c, d, e, f⟩ := by
  constructor <;> (constructor <;> simp only <;> omega)
theorem s_g1 : goodF exF rb0 c1S = true := by decide +kernel
theorem s_g2 : goodF exF rb0 c2S = true := by decide +kernel
theorem s_g3 : goodF exF rb0 c3S = true := by decide +kernel
theorem s_g4 : goodF exF rb0 c4S = true := by decide +kernel
theorem s_g5 : goodF exF rb0 c5S = true := by decide +kernel
theorem s_d1 : decF exF rb0 c1S = ⟨4, 0, [], []⟩ := by kernel_rfl
theorem s_d2 : decF exF rb0 c2S = ⟨1, -1, [0, 0], []⟩ := by kernel_rfl
theorem s_d3 : decF exF rb0 c3S = ⟨3, 1, [1], []⟩ := by kernel_rfl
theorem s_d4 : decF exF rb0 c4S = ⟨1, -1, [0, 1], []⟩ := by kernel_rfl
theorem s_d5 : decF exF rb0 c5S = ⟨1, -2, [], []⟩ := by kernel_rfl
theorem s_k1 : checkF exF rb0 c1S ⟨4, 0, [], []⟩ = true := by decide +kernel
theorem s_k2 : checkF exF rb0 c2S ⟨1, -1, [0, 0], []⟩ = true := by decide +kernel
theorem s_k3 : checkF exF rb0 c3S ⟨3, 1, [1], []⟩ = true := by decide +kernel
theorem s_k4 : checkF exF rb0 c4S ⟨1, -1, [0, 1], []⟩ = true := by decide +kernel
theorem s_k5 : checkF exF rb0 c5S ⟨1, -2, [], []⟩ = true := by decide +kernel
theorem s_g6 : goodF gS bS ⟨7, 0, 10, 0, 0, false⟩ = true := by decide +kernel
theorem s_g7 : goodF gS bS ⟨7, 0, 9, 0, 0, false⟩ = true := by decide +kernel
theorem s_g8 : goodF exF bS ⟨550, 0, 0, 1, 0, false⟩ = true := by decide +kernel
theorem s_g9 : goodF exF bS ⟨550, 0, 0, 2, 0, false⟩ = true := by decide +kernel
theorem s_g10 : goodF exF bS ⟨0, 0, 0, 4, 0, false⟩ = false := by decide +kernel
theorem s_g11 : goodF exF bS ⟨700, 0, 0, 0, 0, false⟩ = true := by decide +kernel
theorem s_d6 : decF gS bS ⟨7, 0, 10, 0, 0, false⟩ = ⟨4, 0, [], [[⟨2, true, 0, -1⟩]]⟩ := by kernel_rfl
theorem s_d7 : decF gS bS ⟨7, 0, 9, 0, 0, false⟩ = ⟨1, -1, [0], [[⟨2, false, -1, -1⟩]]⟩ := by kernel_rfl
theorem s_m8 : mB bS ⟨550, 0, 0, 1, 0, false⟩ ⟨[⟨1, 0, 1, false⟩, ⟨2, 500, 600, false⟩], 4⟩ = true := by decide +kernel
theorem s_m9 : matchI bS ⟨550, 0, 0, 2, 0, false⟩ [⟨1, 0, 1, false⟩, ⟨2, 500, 600, false⟩] = 0 := by decide +kernel
theorem s_k11 : checkF exF bS ⟨700, 0, 0, 0, 0, false⟩ ⟨4, 0, [], []⟩ = false := by decide +kernel
theorem s_v : flB exF = true := by decide +kernel
theorem s_v0 : flB ⟨[], 0⟩ = false := by decide +kernel

theorem dec1_c (w : World) : Calls Tryz.prog 22 #[.agg #[.int .i64 550, .int .i64 0, .int .i64 40000, .int .i64 1, .int .i64 0, .bool false], .int .i64 4, .int .i64 0, .slice none 0 0] w fun e w' => e = .returned (.bool true) ∧ Fr [] w w' :=
  decides26_c c1S 4 0 (.slice none 0 0) [] w (Sl.nil _) (s_ok (by omega) (by omega) (by omega) (by omega) (by omega)) s_g1 s_d1 s_k1 (by simp)
theorem dec2_c (w : World) (b : Nat) (h : w.heap[b]? = some (.cells #[.int .i64 0, .int .i64 0] 3 (0, 0))) : Calls Tryz.prog 22 #[.agg #[.int .i64 550, .int .i64 0, .int .i64 40000, .int .i64 2, .int .i64 0, .bool false], .int .i64 1, .int .i64 (-1), .slice (some ⟨b, 0, none⟩) 2 2] w fun e w' => e = .returned (.bool true) ∧ Fr [] w w' :=
  decides26_c c2S 1 (-1) (.slice (some ⟨b, 0, none⟩) 2 2) [0, 0] w (sl_blk h rfl (by omega) (by omega)) (s_ok (by omega) (by omega) (by omega) (by omega) (by omega)) s_g2 s_d2 s_k2 (by simp)
theorem dec3_c (w : World) (b : Nat) (h : w.heap[b]? = some (.cells #[.int .i64 1] 3 (0, 0))) : Calls Tryz.prog 22 #[.agg #[.int .i64 700, .int .i64 0, .int .i64 80000, .int .i64 1, .int .i64 0, .bool false], .int .i64 3, .int .i64 1, .slice (some ⟨b, 0, none⟩) 1 1] w fun e w' => e = .returned (.bool true) ∧ Fr [] w w' :=
  decides26_c c3S 3 1 (.slice (some ⟨b, 0, none⟩) 1 1) [1] w (sl_blk h rfl (by omega) (by omega)) (s_ok (by omega) (by omega) (by omega) (by omega) (by omega)) s_g3 s_d3 s_k3 (by simp)
theorem dec4_c (w : World) (b : Nat) (h : w.heap[b]? = some (.cells #[.int .i64 0, .int .i64 1] 3 (0, 0))) : Calls Tryz.prog 22 #[.agg #[.int .i64 700, .int .i64 0, .int .i64 80000, .int .i64 3, .int .i64 0, .bool false], .int .i64 1, .int .i64 (-1), .slice (some ⟨b, 0, none⟩) 2 2] w fun e w' => e = .returned (.bool true) ∧ Fr [] w w' :=
  decides26_c c4S 1 (-1) (.slice (some ⟨b, 0, none⟩) 2 2) [0, 1] w (sl_blk h rfl (by omega) (by omega)) (s_ok (by omega) (by omega) (by omega) (by omega) (by omega)) s_g4 s_d4 s_k4 (by simp)
theorem dec5_c (w : World) : Calls Tryz.prog 22 #[.agg #[.int .i64 550, .int .i64 0, .int .i64 0, .int .i64 0, .int .i64 0, .bool true], .int .i64 1, .int .i64 (-2), .slice none 0 0] w fun e w' => e = .returned (.bool true) ∧ Fr [] w w' :=
  decides26_c c5S 1 (-2) (.slice none 0 0) [] w (Sl.nil _) (s_ok (by omega) (by omega) (by omega) (by omega) (by omega)) s_g5 s_d5 s_k5 (by simp)

/-- The rulebook, and the filter of one rule. -/
theorem bS_at {w : World} {b : Nat} (h : w.heap[b]? = some (.cells #[.int .i64 7, .int .i64 2, .int .i64 0, .int .i64 100, .int .i64 10, .int .i64 100] 93 (0, 0))) : RbAt w (.slice none 0 0) (.slice none 0 0) (.slice (some ⟨b, 0, none⟩) 1 1) [] bS :=
  ⟨rfl, ⟨Sl.nil _, fun y hy => (by cases hy), fun y hy => (by cases hy)⟩, Sl.nil _, sl_blk h rfl (by omega) (by omega), ⟨fun x hx => (by cases hx), fun x hx => (by cases hx), fun x hx => by
    simp only [bS, List.mem_cons, List.not_mem_nil, or_false] at hx
    subst hx
    constructor <;> simp [I64]⟩⟩
theorem gS_at {w : World} {bc br : Nat} (h : w.heap[bc]? = some (.cells #[.int .i64 5, .int .i64 2, .int .i64 0, .bool false] 62 (0, 0))) (h2 : w.heap[br]? = some (.cells #[.slice (some ⟨bc, 0, none⟩) 1 1, .int .i64 4] 66 (0, 0))) : FlAt w (.slice (some ⟨br, 0, none⟩) 1 1) [⟨⟨[⟨5, 2, 0, false⟩], 4⟩, .slice (some ⟨bc, 0, none⟩) 1 1⟩] gS := by
  refine ⟨rfl, sl_blk h2 rfl (by omega) (by omega), fun y hy => ?_, fun y hy => ?_, by constructor <;> simp [gS]⟩
  · rw [List.mem_singleton] at hy; subst hy
    exact sl_blk h rfl (by omega) (by omega)
  · rw [List.mem_singleton] at hy; subst hy
    refine ⟨by constructor <;> simp, fun x hx => ?_⟩
    simp only [List.mem_cons, List.not_mem_nil, or_false] at hx
    subst hx
    constructor <;> simp [I64]
/-- What Decide returns for a good filter, a rulebook and a call. -/
theorem decF_c {v : Value} {ys : List RuV} {f : Fl} {vc vp vf : Value} {zs : List ClV} {b : Rb} {c : Ca} {w : World} {D : Dn} (h : FlAt w v ys f) (hb : RbAt w vc vp vf zs b) (hc : CaOk c) (hg : goodF f b c = true) (hd : decF f b c = D) :
    Calls Tryz.prog 17 #[flV v f.dfl, rbV vc vp vf, caV c] w fun e w' => Fr [] w w' ∧ ∃ aF pF aP pP zp, e = .returned (.tuple #[.agg #[.int .i64 D.act, .int .i64 D.rule, .slice aF D.fails.length pF, .slice aP D.prfs.length pP], .int .i64 0]) ∧ DnOwn w w' (.slice aF D.fails.length pF) (.slice aP D.prfs.length pP) D zp := by
  refine (fDecide_c v ys f vc vp vf zs b c w h hb hc).mono ?_
  rintro r w3 ⟨f3, h3⟩
  obtain ⟨_, vF', vP', zp, he, h4⟩ := h3.resolve_left (fun hh => by rw [hg] at hh; cases hh.1)
  clear h3
  rw [hd] at h4 he
  have hl : zp.length = D.prfs.length := by have := congrArg List.length h4.eq; rwa [List.length_map] at this
  obtain ⟨aF', pF', rfl⟩ := (sl_of_row h4.fails).val
  obtain ⟨aP', pP', hv⟩ := (sl_of_row h4.own.row).val
  rw [hl] at hv
  subst hv
  exact ⟨f3, aF', pF', aP', pP', zp, he, h4⟩

end Go.Proofs.YtahfpadaoobkfaaGreatDoor

/-
  dialtonelaw26: sane, the walk.
-/
namespace Go.Proofs.YtahfpadaoobkfaaGreatDoor
open Go.RowKit Go.Lib

theorem pr1_cells {W : World} {aP : Option Addr} {pP : Nat} {zp : List PrV} {x : Fd} (h : PrAt W (.slice aP 1 pP) zp) (hz : zp.map (·.l) = [[x]]) :
    ∃ b o b2 o2 p2, aP = some ⟨b, o, none⟩ ∧ ∀ W', Fr [] W W' → W'.cell? ⟨b, o, none⟩ = some (.slice (some ⟨b2, o2, none⟩) 1 p2) ∧ (W'.cell? ⟨b2, o2, none⟩ = some (.int .i64 x.says) ∧ W'.cell? ⟨b2, o2 + 1, none⟩ = some (.bool x.holds) ∧ W'.cell? ⟨b2, o2 + 2, none⟩ = some (.int .i64 x.fact) ∧ W'.cell? ⟨b2, o2 + 3, none⟩ = some (.int .i64 x.cl)) := by
  obtain ⟨v, rfl⟩ : ∃ v, zp = [⟨[x], v⟩] := by
    match zp, hz with
    | [z], hz =>
      obtain ⟨l, v⟩ := z
      simp only [List.map_cons, List.map_nil, List.cons.injEq, and_true] at hz
      exact ⟨v, by rw [hz]⟩
  have hf := h.fds _ (List.mem_singleton.2 rfl)
  obtain ⟨a2, p2, hv⟩ := hf.val
  simp only at hv
  subst hv
  obtain ⟨b, o, rfl, hc⟩ := h.sl.at_ (by simp)
  obtain ⟨b2, o2, rfl, hc2⟩ := hf.at_ (by simp)
  have e0 := hc 0 _ rfl
  have g0 := hc2 0 _ rfl; have g1 := hc2 1 _ rfl; have g2 := hc2 2 _ rfl; have g3 := hc2 3 _ rfl
  simp only [Nat.add_zero] at e0 g0
  have l1 := World.block_lt_of_cell? W _ e0
  have l2 := World.block_lt_of_cell? W _ g0
  refine ⟨b, o, b2, o2, p2, rfl, fun W' hf => ?_⟩
  have k1 := hf.block b l1 (by simp)
  have k2 := hf.block b2 l2 (by simp)
  exact ⟨(World.cell?_of_block k1).trans e0, (World.cell?_of_block k2).trans g0, (World.cell?_of_block k2).trans g1, (World.cell?_of_block k2).trans g2, (World.cell?_of_block k2).trans g3⟩

/-- What lies behind the rulebook's making. -/
abbrev snW (w : World) : World := ((((w.alloc (.cells #[.int .i64 7, .int .i64 2, .int .i64 0, .int .i64 100, .int .i64 10, .int .i64 100] 93)).alloc (.cells #[.slice none 0 0, .slice none 0 0, .slice (some ⟨w.heap.size, 0, none⟩) 1 1] 36)).alloc (.cells #[.int .i64 5, .int .i64 2, .int .i64 0, .bool false] 62)).alloc (.cells #[.slice (some ⟨w.heap.size + 1 + 1, 0, none⟩) 1 1, .int .i64 4] 66)).alloc (.cells #[.slice (some ⟨w.heap.size + 1 + 1 + 1, 0, none⟩) 1 1, .int .i64 1] 69)
theorem snW_at (w : World) : (snW w).heap[w.heap.size]? = some (.cells #[.int .i64 7, .int .i64 2, .int .i64 0, .int .i64 100, .int .i64 10, .int .i64 100] 93 (0, 0)) ∧ (snW w).heap[w.heap.size + 1]? = some (.cells #[.slice none 0 0, .slice none 0 0, .slice (some ⟨w.heap.size, 0, none⟩) 1 1] 36 (0, 0)) ∧ (snW w).heap[w.heap.size + 1 + 1]? = some (.cells #[.int .i64 5, .int .i64 2, .int .i64 0, .bool false] 62 (0, 0)) ∧
    (snW w).heap[w.heap.size + 1 + 1 + 1]? = some (.cells #[.slice (some ⟨w.heap.size + 1 + 1, 0, none⟩) 1 1, .int .i64 4] 66 (0, 0)) ∧ (snW w).heap[w.heap.size + 1 + 1 + 1 + 1]? = some (.cells #[.slice (some ⟨w.heap.size + 1 + 1 + 1, 0, none⟩) 1 1, .int .i64 1] 69 (0, 0)) ∧ Fr [] w (snW w) := by
  have h := allocs_at [.cells #[.int .i64 7, .int .i64 2, .int .i64 0, .int .i64 100, .int .i64 10, .int .i64 100] 93, .cells #[.slice none 0 0, .slice none 0 0, .slice (some ⟨w.heap.size, 0, none⟩) 1 1] 36, .cells #[.int .i64 5, .int .i64 2, .int .i64 0, .bool false] 62, .cells #[.slice (some ⟨w.heap.size + 1 + 1, 0, none⟩) 1 1, .int .i64 4] 66, .cells #[.slice (some ⟨w.heap.size + 1 + 1 + 1, 0, none⟩) 1 1, .int .i64 1] 69] w
  have hf := allocs_fr [.cells #[.int .i64 7, .int .i64 2, .int .i64 0, .int .i64 100, .int .i64 10, .int .i64 100] 93, .cells #[.slice none 0 0, .slice none 0 0, .slice (some ⟨w.heap.size, 0, none⟩) 1 1] 36, .cells #[.int .i64 5, .int .i64 2, .int .i64 0, .bool false] 62, .cells #[.slice (some ⟨w.heap.size + 1 + 1, 0, none⟩) 1 1, .int .i64 4] 66, .cells #[.slice (some ⟨w.heap.size + 1 + 1 + 1, 0, none⟩) 1 1, .int .i64 1] 69] w
  exact ⟨h 0 (by simp), h 1 (by simp), h 2 (by simp), h 3 (by simp), h 4 (by simp), hf⟩
structure SnAt (ad : Addr) (ys : List RuV) (E n : Nat) (W : World) : Prop where
  ex : W.heap[E]? = some (.cells #[.slice (some ad) 2 2, .int .i64 1] 69 (0, 0))
  fl : FlAt W (.slice (some ad) 2 2) ys exF
  rb : W.heap[n + 1]? = some (.cells #[.slice none 0 0, .slice none 0 0, .slice (some ⟨n, 0, none⟩) 1 1] 36 (0, 0))
  fb : W.heap[n + 1 + 1 + 1 + 1]? = some (.cells #[.slice (some ⟨n + 1 + 1 + 1, 0, none⟩) 1 1, .int .i64 1] 69 (0, 0))
  rbA : RbAt W (.slice none 0 0) (.slice none 0 0) (.slice (some ⟨n, 0, none⟩) 1 1) [] bS
  gA : FlAt W (.slice (some ⟨n + 1 + 1 + 1, 0, none⟩) 1 1) [⟨⟨[⟨5, 2, 0, false⟩], 4⟩, .slice (some ⟨n + 1 + 1, 0, none⟩) 1 1⟩] gS
theorem SnAt.same {ad : Addr} {ys : List RuV} {E n : Nat} {W W' : World} (h : SnAt ad ys E n W) (hf : Fr [] W W') : SnAt ad ys E n W' := ⟨hf.keep h.ex (by simp), h.fl.same hf, hf.keep h.rb (by simp), hf.keep h.fb (by simp), h.rbA.same hf, h.gA.same hf⟩
theorem SnAt.cells {ad : Addr} {ys : List RuV} {E n : Nat} {W : World} (h : SnAt ad ys E n W) : (W.cell? ⟨E, 0, none⟩ = some (.slice (some ad) 2 2) ∧ W.cell? ⟨E, 1, none⟩ = some (.int .i64 1)) ∧ (W.cell? ⟨n + 1, 0, none⟩ = some (.slice none 0 0) ∧ W.cell? ⟨n + 1, 1, none⟩ = some (.slice none 0 0) ∧ W.cell? ⟨n + 1, 2, none⟩ = some (.slice (some ⟨n, 0, none⟩) 1 1)) ∧ W.cell? ⟨n + 1 + 1 + 1 + 1, 0, none⟩ = some (.slice (some ⟨n + 1 + 1 + 1, 0, none⟩) 1 1) ∧ W.cell? ⟨n + 1 + 1 + 1 + 1, 1, none⟩ = some (.int .i64 1) :=
  ⟨⟨cell_of_blk h.ex 0, cell_of_blk h.ex 1⟩, ⟨cell_of_blk h.rb 0, cell_of_blk h.rb 1, cell_of_blk h.rb 2⟩, cell_of_blk h.fb 0, cell_of_blk h.fb 1⟩

theorem exF_ys {W : World} {v : Value} {ys : List RuV} (h : FlAt W v ys exF) : ∃ u0 u1, ys = [⟨⟨[⟨1, 0, 1, false⟩, ⟨2, 500, 600, false⟩], 4⟩, u0⟩, ⟨⟨[⟨3, 79200, 21600, false⟩, ⟨1, 3, 3, true⟩], 3⟩, u1⟩] := by
  have he := h.eq
  clear h
  have hl : ys.length = 2 := by have := congrArg List.length he; simpa [exF] using this.symm
  obtain ⟨y0, y1, rfl⟩ : ∃ y0 y1, ys = [y0, y1] := by
    match ys, hl with
    | [y0, y1], _ => exact ⟨y0, y1, rfl⟩
  obtain ⟨x0, u0⟩ := y0
  obtain ⟨x1, u1⟩ := y1
  simp only [exF, List.map_cons, List.map_nil, List.cons.injEq, and_true] at he
  obtain ⟨rfl, rfl⟩ := he
  exact ⟨u0, u1, rfl⟩
theorem exM_c {W : World} {v vf : Value} {ys : List RuV} (h : FlAt W v ys exF) (hb : RbAt W (.slice none 0 0) (.slice none 0 0) vf [] bS) : Calls Tryz.prog 16 #[.agg #[v, .int .i64 1], .agg #[.slice none 0 0, .slice none 0 0, vf], .agg #[.int .i64 550, .int .i64 0, .int .i64 0, .int .i64 1, .int .i64 0, .bool false], .int .i64 0] W fun e w' => e = .returned (.tuple #[.bool true, .int .i64 0]) ∧ Fr [] W w' := by
  obtain ⟨u0, u1, rfl⟩ := exF_ys h
  have := fMatches_c v _ exF _ _ vf [] bS ⟨550, 0, 0, 1, 0, false⟩ 0 (by simp) W h hb (s_ok (by omega) (by omega) (by omega) (by omega) (by omega)) s_g8
  simp only [List.getElem_cons_zero, s_m8] at this
  exact this
theorem exW_c {W : World} {v vf : Value} {ys : List RuV} (h : FlAt W v ys exF) (hb : RbAt W (.slice none 0 0) (.slice none 0 0) vf [] bS) : Calls Tryz.prog 23 #[.agg #[v, .int .i64 1], .agg #[.slice none 0 0, .slice none 0 0, vf], .agg #[.int .i64 550, .int .i64 0, .int .i64 0, .int .i64 2, .int .i64 0, .bool false], .int .i64 0] W fun e w' => e = .returned (.tuple #[.int .i64 0, .bool true]) ∧ Fr [] W w' := by
  obtain ⟨u0, u1, rfl⟩ := exF_ys h
  have := fWhy_c v _ exF _ _ vf [] bS ⟨550, 0, 0, 2, 0, false⟩ 0 (by simp) W h hb (s_ok (by omega) (by omega) (by omega) (by omega) (by omega)) s_g9
  simp only [List.getElem_cons_zero, s_m9] at this
  exact this
theorem exD_c {W : World} {v vf : Value} {ys : List RuV} (h : FlAt W v ys exF) (hb : RbAt W (.slice none 0 0) (.slice none 0 0) vf [] bS) : Calls Tryz.prog 17 #[.agg #[v, .int .i64 1], .agg #[.slice none 0 0, .slice none 0 0, vf], .agg #[.int .i64 0, .int .i64 0, .int .i64 0, .int .i64 4, .int .i64 0, .bool false]] W fun e w' => e = .returned (.tuple #[.agg #[.int .i64 0, .int .i64 0, .slice none 0 0, .slice none 0 0], .int .i64 260]) ∧ Fr [] W w' := by
  refine (fDecide_c v ys exF _ _ vf [] bS ⟨0, 0, 0, 4, 0, false⟩ W h hb (s_ok (by omega) (by omega) (by omega) (by omega) (by omega))).mono ?_
  rintro e w3 ⟨f3, h3⟩
  rcases h3 with ⟨_, he⟩ | ⟨h4, _⟩
  · exact ⟨he, f3⟩
  · rw [s_g10] at h4; cases h4
theorem exV_c {W : World} {v : Value} {ys : List RuV} (h : FlAt W v ys exF) : Calls Tryz.prog 25 #[.agg #[v, .int .i64 1]] W fun e w' => e = .returned (.bool true) ∧ Fr [] W w' := by
  have := fValid_c v ys exF W h
  rw [s_v] at this
  exact this
theorem exV0_c (W : World) : Calls Tryz.prog 25 #[.agg #[.slice none 0 0, .int .i64 0]] W fun e w' => e = .returned (.bool false) ∧ Fr [] W w' := by
  have := fValid_c (.slice none 0 0) [] ⟨[], 0⟩ W ⟨rfl, Sl.nil _, fun y hy => (by cases hy), fun y hy => (by cases hy), by constructor <;> simp⟩
  rw [s_v0] at this
  exact this
theorem exK_c {W : World} {v vf : Value} {ys : List RuV} (h : FlAt W v ys exF) (hb : RbAt W (.slice none 0 0) (.slice none 0 0) vf [] bS) : Calls Tryz.prog 20 #[.agg #[v, .int .i64 1], .agg #[.slice none 0 0, .slice none 0 0, vf], .agg #[.int .i64 700, .int .i64 0, .int .i64 0, .int .i64 0, .int .i64 0, .bool false], .agg #[.int .i64 4, .int .i64 0, .slice none 0 0, .slice none 0 0]] W fun e w' => e = .returned (.bool false) ∧ Fr [] W w' := by
  have := fCheck_c v ys exF _ _ vf [] bS ⟨700, 0, 0, 0, 0, false⟩ (.slice none 0 0) (.slice none 0 0) ⟨4, 0, [], []⟩ [] W h hb (s_ok (by omega) (by omega) (by omega) (by omega) (by omega)) (Sl.nil _) (PrOwn.nil _).at_ rfl ⟨by simp, by simp⟩
  rw [s_g11, s_k11] at this
  exact this

set_option maxRecDepth 1000000 in
set_option maxHeartbeats 4000000 in
theorem sane26_c (w : World) : Calls Tryz.prog 5 #[] w fun e w' => e = .returned (.bool true) ∧ Fr [] w w' := by
  go_enter Tryz.func5, Tryz.ntmps5
  go_wp2_with fail
  refine (example26_c w).mono ?_
  rintro e w1 ⟨f1, ad, ys, rfl, hE⟩
  have F1 := Lib.hid (f1.trans (Fr.alloc [] w1 (.cells #[.slice (some ad) 2 2, .int .i64 1] 69)))
  have HE := Lib.hid (hE.same (Fr.alloc [] w1 (.cells #[.slice (some ad) 2 2, .int .i64 1] 69)))
  have HB := Lib.hid (heap_alloc_new w1 (.cells #[.slice (some ad) 2 2, .int .i64 1] 69))
  clear f1 hE
  go_wp2_with fail
  refine (dec1_c _).mono ?_
  rintro e w2 ⟨rfl, f2⟩
  have G2 := Lib.hid f2; clear f2
  go_wp2_with fail
  refine (dec2_c _ _ (heap_alloc_new _ _)).mono ?_
  rintro e w3 ⟨rfl, f3⟩
  have G3 := Lib.hid ((G2.out.trans (Fr.alloc _ _ _)).trans f3); clear f3 G2
  go_wp2_with fail
  refine (dec3_c _ _ (heap_alloc_new _ _)).mono ?_
  rintro e w4 ⟨rfl, f4⟩
  have G4 := Lib.hid ((G3.out.trans (Fr.alloc _ _ _)).trans f4); clear f4 G3
  go_wp2_with fail
  refine (dec4_c _ _ (heap_alloc_new _ _)).mono ?_
  rintro e w5 ⟨rfl, f5⟩
  have G5 := Lib.hid ((G4.out.trans (Fr.alloc _ _ _)).trans f5); clear f5 G4
  go_wp2_with fail
  refine (dec5_c _).mono ?_
  rintro e w6 ⟨rfl, f6⟩
  have G6 := Lib.hid (G5.out.trans f6); clear f6 G5
  obtain ⟨h0, h1, h2, h3, h4, hF⟩ := snW_at w6
  have S0 : Hid (SnAt ad ys w1.heap.size w6.heap.size (snW w6)) := Lib.hid ⟨hF.keep (G6.out.keep HB.out (by simp)) (by simp), (HE.out.same G6.out).same hF, h1, h4, bS_at h0, gS_at h2 h3⟩
  have FF := Lib.hid ((F1.out.trans G6.out).trans hF)
  clear h0 h1 h2 h3 h4 hF G6 HB HE F1
  have CD := Lib.hid (decF_c S0.out.gA S0.out.rbA (c := ⟨7, 0, 10, 0, 0, false⟩) (s_ok (by omega) (by omega) (by omega) (by omega) (by omega)) s_g6 s_d6)
  unfold flV rbV caV snW at CD
  simp only [List.length_nil, List.length_cons, Nat.zero_add, gS] at CD
  have S0c := S0.out.cells
  unfold snW at S0c
  obtain ⟨⟨a0, a1⟩, ⟨a2, a3, a4⟩, a5, a6⟩ := S0c
  go_wp2_with fail
  clear a0 a1 a2 a3 a4 a5 a6
  refine CD.out.mono ?_
  rintro e w7 ⟨f7, aF1, pF1, aP1, pP1, zp1, rfl, h7⟩
  have hc1 := pr1_cells (h7.own.at_) h7.eq
  obtain ⟨b1, o1, b2, o2, p2, rfl, hc1⟩ := hc1
  have D1 : Hid (∀ W, Fr [] (w7.alloc (.cells #[.int .i64 4, .int .i64 0, .slice aF1 0 pF1, .slice (some ⟨b1, o1, none⟩) 1 pP1] 75)) W → _ ∧ _) := Lib.hid fun W hf => And.intro (hf.keep (heap_alloc_new w7 (.cells #[.int .i64 4, .int .i64 0, .slice aF1 0 pF1, .slice (some ⟨b1, o1, none⟩) 1 pP1] 75)) (by simp)) (hc1 W ((Fr.alloc _ _ _).trans hf))
  have S1 := Lib.hid ((S0.out.same f7).same (Fr.alloc [] w7 (.cells #[.int .i64 4, .int .i64 0, .slice aF1 0 pF1, .slice (some ⟨b1, o1, none⟩) 1 pP1] 75)))
  replace FF := Lib.hid ((FF.out.trans f7).trans (Fr.alloc [] w7 (.cells #[.int .i64 4, .int .i64 0, .slice aF1 0 pF1, .slice (some ⟨b1, o1, none⟩) 1 pP1] 75)))
  replace CD := Lib.hid (decF_c S1.out.gA S1.out.rbA (c := ⟨7, 0, 9, 0, 0, false⟩) (s_ok (by omega) (by omega) (by omega) (by omega) (by omega)) s_g7 s_d7)
  unfold flV rbV caV at CD
  simp only [List.length_nil, List.length_cons, Nat.zero_add, gS] at CD
  obtain ⟨⟨a0, a1⟩, ⟨a2, a3, a4⟩, a5, a6⟩ := S1.out.cells
  clear f7 h7 hc1 S0
  go_wp2_with fail
  clear a0 a1 a2 a3 a4 a5 a6
  refine CD.out.mono ?_
  rintro e w8 ⟨f8, aF2, pF2, aP2, pP2, zp2, rfl, h8⟩
  have D2 : Hid (∀ W, Fr [] (w8.alloc (.cells #[.int .i64 1, .int .i64 (-1), .slice aF2 1 pF2, .slice aP2 1 pP2] 75)) W → _ ∧ IntsAt W (.slice aF2 1 pF2) [0]) := Lib.hid fun W hf => And.intro (hf.keep (heap_alloc_new w8 (.cells #[.int .i64 1, .int .i64 (-1), .slice aF2 1 pF2, .slice aP2 1 pP2] 75)) (by simp)) (sl_of_row (row_fr h8.fails ((Fr.alloc _ _ _).trans hf) (by simp)))
  have S2 := Lib.hid ((S1.out.same f8).same (Fr.alloc [] w8 (.cells #[.int .i64 1, .int .i64 (-1), .slice aF2 1 pF2, .slice aP2 1 pP2] 75)))
  replace FF := Lib.hid ((FF.out.trans f8).trans (Fr.alloc [] w8 (.cells #[.int .i64 1, .int .i64 (-1), .slice aF2 1 pF2, .slice aP2 1 pP2] 75)))
  have GA := Lib.hid (f8.trans (Fr.alloc [] w8 (.cells #[.int .i64 1, .int .i64 (-1), .slice aF2 1 pF2, .slice aP2 1 pP2] 75)))
  have CM := Lib.hid (exM_c S2.out.fl S2.out.rbA)
  obtain ⟨⟨a0, a1⟩, ⟨a2, a3, a4⟩, a5, a6⟩ := S2.out.cells
  clear f8 h8 S1 CD a5 a6
  go_wp2_with fail
  clear a0 a1 a2 a3 a4
  refine CM.out.mono ?_
  rintro e w9 ⟨rfl, f9⟩
  have S3 := Lib.hid (S2.out.same f9)
  have G9 := Lib.hid f9
  have CW := Lib.hid (exW_c S3.out.fl S3.out.rbA)
  obtain ⟨⟨a0, a1⟩, ⟨a2, a3, a4⟩, a5, a6⟩ := S3.out.cells
  clear f9 S2 CM a5 a6
  go_wp2_with fail
  clear a0 a1 a2 a3 a4
  refine CW.out.mono ?_
  rintro e w10 ⟨rfl, f10⟩
  have S4 := Lib.hid (S3.out.same f10)
  have G10 := Lib.hid (G9.out.trans f10)
  have CW := Lib.hid (exD_c S4.out.fl S4.out.rbA)
  obtain ⟨⟨a0, a1⟩, ⟨a2, a3, a4⟩, a5, a6⟩ := S4.out.cells
  clear f10 S3 G9 a5 a6
  go_wp2_with fail
  clear a0 a1 a2 a3 a4
  refine CW.out.mono ?_
  rintro e w11 ⟨rfl, f11⟩
  have f11' := f11.trans (Fr.alloc [] w11 (.cells #[.int .i64 0, .int .i64 0, .slice none 0 0, .slice none 0 0] 75))
  have S5 := Lib.hid (S4.out.same f11')
  have G11 := Lib.hid (G10.out.trans f11')
  obtain ⟨k1, ⟨q0, r0, r1, r2, r3⟩⟩ := D1.out _ (GA.out.trans G11.out)
  obtain ⟨k2, I2⟩ := D2.out _ G11.out
  have HI2 := Lib.hid I2
  have d0 := cell_of_blk k1 0; have d1 := cell_of_blk k1 1; have d3 := cell_of_blk k1 3
  have e1 := cell_of_blk k2 1; have e2 := cell_of_blk k2 2; have e3 := cell_of_blk k2 3
  have A2 := alloc2' w11 (.cells #[.int .i64 0, .int .i64 0, .slice none 0 0, .slice none 0 0] 75) (.cells #[.int .i64 0] 3)
  have fa := Fr.alloc [] (w11.alloc (.cells #[.int .i64 0, .int .i64 0, .slice none 0 0, .slice none 0 0] 75)) (.cells #[.int .i64 0] 3)
  have CI := Lib.hid (ints26_c _ (.slice (some ⟨w11.heap.size + 1, 0, none⟩) 1 1) [0] [0] _ (HI2.out.same fa) (sl_blk A2.2 rfl (Nat.le_refl 1) (by omega)))
  have S6 := Lib.hid (S5.out.same fa)
  have GF := Lib.hid ((FF.out.trans G11.out).trans fa)
  clear A2 fa S5 G11 FF
  clear f11 f11' S4 G10 CW k1 k2 I2
  go_wp2_with fail
  clear d0 d1 d3 e1 e2 e3 q0 r0 r1 r2 r3
  refine CI.out.mono ?_
  rintro e w12 ⟨rfl, f12⟩
  have S7 := Lib.hid (S6.out.same f12)
  have GG := Lib.hid (GF.out.trans f12)
  have CV := Lib.hid (exV_c S7.out.fl)
  obtain ⟨⟨a0, a1⟩, _⟩ := S7.out.cells
  clear f12 S6 CI GF
  go_wp2_with fail
  clear a0 a1
  refine CV.out.mono ?_
  rintro e w13 ⟨rfl, f13⟩
  have S8 := Lib.hid (S7.out.same f13)
  have G13 := Lib.hid (GG.out.trans f13)
  clear f13 S7 CV GG
  go_wp2_with fail
  refine (exV0_c _).mono ?_
  rintro e w14 ⟨rfl, f14⟩
  have S9 := Lib.hid (S8.out.same f14)
  have G14 := Lib.hid (G13.out.trans f14)
  have CK := Lib.hid (exK_c S9.out.fl S9.out.rbA)
  obtain ⟨⟨a0, a1⟩, ⟨a2, a3, a4⟩, a5, a6⟩ := S9.out.cells
  clear f14 S8 G13 a5 a6
  go_wp2_with fail
  clear a0 a1 a2 a3 a4
  refine CK.out.mono ?_
  rintro e w15 ⟨rfl, f15⟩
  go_wp2_with fail
  go_ret
  exact ⟨rfl, G14.out.trans f15⟩

end Go.Proofs.YtahfpadaoobkfaaGreatDoor

/-
  The plain law of chapter 8, further: what is out of question changes nothing; exceptions that are not so change nothing.
-/
namespace Go.Proofs.YtahfpadaoobkfaaGreatDoor

theorem pickN_ext {p p' : Nat → Bool} (n m : Nat) (h1 : ∀ i, i < n → p' i = p i) (h2 : ∀ i, n ≤ i → i < n + m → p' i = false) : pickN p' (n + m) = pickN p n := by
  unfold pickN
  congr 1
  rw [List.range_add, List.filter_append]
  have e1 : (List.range n).filter p' = (List.range n).filter p := List.filter_congr fun i hi => h1 i (by simpa using hi)
  have e2 : ((List.range m).map (n + ·)).filter p' = [] := by
    rw [List.filter_eq_nil_iff]
    intro i hi
    simp only [List.mem_map, List.mem_range] at hi
    obtain ⟨j, hj, rfl⟩ := hi
    rw [h2 (n + j) (by omega) (by omega)]
    simp
  rw [e1, e2, List.append_nil]
theorem pickN_congr {p p' : Nat → Bool} (n : Nat) (h1 : ∀ i, i < n → p' i = p i) : pickN p' n = pickN p n := by
  have := pickN_ext (p := p) (p' := p') n 0 h1 (by omega)
  simpa using this

theorem getD_left {α : Type} [Inhabited α] {l E : List α} {i : Nat} (h : i < l.length) : (l ++ E).getD i default = l.getD i default := by
  simp [List.getD_eq_getElem?_getD, List.getElem?_append_left h]
theorem getD_right {α : Type} [Inhabited α] {l E : List α} {i : Nat} (h : l.length ≤ i) (h2 : i < l.length + E.length) : (l ++ E).getD i default ∈ E := by
  rw [List.getD_eq_getElem?_getD, List.getElem?_append_right h, List.getElem?_eq_getElem (by omega)]
  simp

/-- Rules with more behind them, which is out of question. -/
structure PastExt (c c' : Rb) (q : Qn) : Prop where
  cls : ∃ E, c'.cls = c.cls ++ E ∧ ∀ x, x ∈ E → q.known < x.pub ∨ hasB x.f x.t q.at_ = false
  rps : ∃ E, c'.rps = c.rps ++ E ∧ ∀ r, r ∈ E → (q.known < r.pub ∨ q.at_ < r.frm)
  fas : ∃ E, c'.fas = c.fas ++ E ∧ ∀ x, x ∈ E → statesB x q = false

theorem PastExt.facts {c c' : Rb} {q : Qn} (h : PastExt c c' q) : factsOf c' q = factsOf c q := by
  obtain ⟨E, h1, h2⟩ := h.fas
  unfold factsOf
  rw [h1, List.length_append]
  refine pickN_ext _ _ (fun i hi => ?_) (fun i hi hi2 => ?_)
  · rw [getD_left hi]
  · exact h2 _ (getD_right hi hi2)
theorem PastExt.reps {c c' : Rb} {q : Qn} (h : PastExt c c' q) (i : Int) : c'.rps.any (repB i q) = c.rps.any (repB i q) := by
  obtain ⟨E, h1, h2⟩ := h.rps
  rw [h1, List.any_append]
  have : E.any (repB i q) = false := by
    rw [List.any_eq_false]
    intro r hr
    have := h2 r hr
    simp only [repB, Bool.and_eq_true, decide_eq_true_eq]
    omega
  rw [this, Bool.or_false]
theorem PastExt.clauses {c c' : Rb} {q : Qn} (h : PastExt c c' q) : clausesOf c' q = clausesOf c q := by
  obtain ⟨E, h1, h2⟩ := h.cls
  unfold clausesOf
  have key : ∀ i, rulesB c' q i = (let x := c'.cls.getD i default; decide (x.pub ≤ q.known) && hasB x.f x.t q.at_ && !c.rps.any (repB i q)) := fun i => by
    unfold rulesB
    rw [h.reps]
  rw [h1, List.length_append]
  refine pickN_ext _ _ (fun i hi => ?_) (fun i hi hi2 => ?_)
  · rw [key, h1, getD_left hi]
    rfl
  · rw [key, h1]
    have hx := h2 _ (getD_right hi hi2)
    generalize (c.cls ++ E).getD i default = x at hx
    rcases hx with hh | hh
    · have : ¬ x.pub ≤ q.known := by omega
      simp [this]
    · simp [hh]

section
variable {c c' : Rb} {fs cs : List Int}
theorem barredB_congr {l : List Fd} {i : Int} (h : c'.cl i = c.cl i) : barredB c' l i = barredB c l i := by
  unfold barredB; rw [h]
theorem rightB_congr (hf : ∀ i, i ∈ fs → (c'.fa i).says = (c.fa i).says) (hc : ∀ i, i ∈ cs → c'.cl i = c.cl i) (x : Fd) (l : List Fd) : rightB c' fs cs x l = rightB c fs cs x l := by
  unfold rightB
  split
  · by_cases hm : x.fact ∈ fs
    · rw [hf _ hm]
    · simp [hm]
  · split
    · by_cases hm : x.cl ∈ cs
      · rw [hc _ hm]
      · simp [hm]
    · rw [any_congr' (l := fs) (fun i hi => by rw [hf i hi]), any_congr' (l := cs) (fun i hi => by rw [hc i hi, barredB_congr (hc i hi)])]
theorem provesGo_congr (hf : ∀ i, i ∈ fs → (c'.fa i).says = (c.fa i).says) (hc : ∀ i, i ∈ cs → c'.cl i = c.cl i) (l : List Fd) : ∀ (r : List Fd) (last : Int), provesGo c' fs cs l last r = provesGo c fs cs l last r
  | [], _ => rfl
  | x :: r, last => by
    simp only [provesGo]
    rw [rightB_congr hf hc, provesGo_congr hf hc l r]
theorem provesB_congr (hf : ∀ i, i ∈ fs → (c'.fa i).says = (c.fa i).says) (hc : ∀ i, i ∈ cs → c'.cl i = c.cl i) (n : Int) (h : Bool) (l : List Fd) : provesB c' fs cs n h l = provesB c fs cs n h l := by
  unfold provesB
  rw [provesGo_congr hf hc]

/-- What is so is the one thing that the rules say of itself. -/
theorem soB_unique (hG : Good c fs cs) {so : Int → Bool} (h : ∀ n, 0 ≤ n → so n = (fs.any (fun i => decide ((c.fa i).says = n)) || cs.any (givesB c so n))) : ∀ n, 0 ≤ n → soB c fs cs n = so n := by
  have key : ∀ (k : Nat) (j : Nat), j < k → soB c fs cs j = so j := by
    intro k
    induction k with
    | zero => intro j hj; omega
    | succ k ih =>
      intro j hj
      rw [soB_eq hG j (by omega), h j (by omega)]
      rw [any_congr' (l := cs) (fun i hi => givesB_congr hG hi (so' := so) fun m h1 h2 => ?_)]
      obtain ⟨i', rfl⟩ := Int.eq_ofNat_of_zero_le h1
      exact ih i' (by omega)
  intro n hn
  obtain ⟨k, rfl⟩ := Int.eq_ofNat_of_zero_le hn
  exact key (k + 1) k (by omega)
end

theorem PastExt.fa {c c' : Rb} {q : Qn} (h : PastExt c c' q) : ∀ i, i ∈ factsOf c q → (c'.fa i).says = (c.fa i).says := fun i hi => by
  obtain ⟨j, hj, _, rfl⟩ := pickN_mem.1 hi
  obtain ⟨E, h1, _⟩ := h.fas
  simp only [Rb.fa, Int.toNat_natCast, h1, getD_left hj]
theorem PastExt.cl {c c' : Rb} {q : Qn} (h : PastExt c c' q) : ∀ i, i ∈ clausesOf c q → c'.cl i = c.cl i := fun i hi => by
  obtain ⟨j, hj, _, rfl⟩ := pickN_mem.1 hi
  obtain ⟨E, h1, _⟩ := h.cls
  simp only [Rb.cl, Int.toNat_natCast, h1, getD_left hj]
theorem PastExt.check {c c' : Rb} {q : Qn} (h : PastExt c c' q) (h1 : okB c q = true) (h2 : okB c' q = true) (a : Bool) (l : List Fd) : checkB c' q a l = checkB c q a l := by
  unfold checkB
  rw [h1, h2, h.facts, h.clauses, provesB_congr h.fa h.cl]
theorem PastExt.decided {c c' : Rb} {q : Qn} (h : PastExt c c' q) (h1 : okB c q = true) (h2 : okB c' q = true) : decideA c' q = decideA c q := by
  have h3 := decide_checks h1
  rw [← h.check h1 h2] at h3
  exact (check_one h3).symm

/-- Further needs that are so, further bars that are not so: of one clause. -/
structure ExcExt (so : Int → Bool) (c c' : Rb) : Prop where
  len : c'.cls.length = c.cls.length
  rps : c'.rps = c.rps
  fas : c'.fas = c.fas
  pub : ∀ i, (c'.cls.getD i default).pub = (c.cls.getD i default).pub
  f : ∀ i, (c'.cls.getD i default).f = (c.cls.getD i default).f
  t : ∀ i, (c'.cls.getD i default).t = (c.cls.getD i default).t
  gives : ∀ i, (c'.cls.getD i default).gives = (c.cls.getD i default).gives
  needs : ∀ i, (c'.cls.getD i default).needs.all so = (c.cls.getD i default).needs.all so
  bars : ∀ i, (c'.cls.getD i default).bars.any so = (c.cls.getD i default).bars.any so

theorem ExcExt.facts {so : Int → Bool} {c c' : Rb} (h : ExcExt so c c') (q : Qn) : factsOf c' q = factsOf c q := by
  unfold factsOf; rw [h.fas]
theorem ExcExt.clauses {so : Int → Bool} {c c' : Rb} (h : ExcExt so c c') (q : Qn) : clausesOf c' q = clausesOf c q := by
  unfold clausesOf
  rw [h.len]
  refine pickN_congr _ fun i _ => ?_
  unfold rulesB
  simp only [h.pub, h.f, h.t, h.rps]
theorem ExcExt.decided {c c' : Rb} {q : Qn} (h : ExcExt (soB c (factsOf c q) (clausesOf c q)) c c') (h1 : okB c q = true) (h2 : okB c' q = true) : decideA c' q = decideA c q := by
  have v1 : validB c = true := by simp only [okB, Bool.and_eq_true] at h1; exact h1.1
  have v2 : validB c' = true := by simp only [okB, Bool.and_eq_true] at h2; exact h2.1
  have ha : 0 ≤ q.says := by
    simp only [okB, asksB, Bool.and_eq_true, isInB_iff] at h1; exact h1.2.1.1.2.1
  unfold decideA
  rw [h.facts, h.clauses]
  have g2 := good_of_valid (q := q) v2
  rw [h.facts, h.clauses] at g2
  refine soB_unique g2 (fun n hn => ?_) _ ha
  rw [soB_eq (good_of_valid v1) n hn]
  congr 1
  · refine any_congr' fun i _ => ?_
    simp only [Rb.fa, h.fas]
    rfl
  · refine any_congr' fun i _ => ?_
    unfold givesB
    simp only [Rb.cl, h.gives, h.needs, h.bars]
    rfl

end Go.Proofs.YtahfpadaoobkfaaGreatDoor

/-
  The plain law of chapter 26: what changes nothing.
-/
namespace Go.Proofs.YtahfpadaoobkfaaGreatDoor

/-- No condition of the filter asks the rulebook. -/
def Mute (f : Fl) : Prop := ∀ r, r ∈ f.rus → ∀ x, x ∈ r.cds → x.kind ≠ 5
section
variable {b : Rb} {c : Ca}
end
end Go.Proofs.YtahfpadaoobkfaaGreatDoor

/-
  The laws of chapter 26: a filter, a rulebook and a call in their boxes.
-/
namespace Go.Proofs.YtahfpadaoobkfaaGreatDoor
open Go.RowKit Go.Lib

abbrev flOf (ys : List RuV) (dfl : Int) : Fl := ⟨ys.map (·.x), dfl⟩
structure LwS (w : World) (bF bR bC : Nat) (v : Value) (ys : List RuV) (dfl : Int) (vc vr vf : Value) (zs : List ClV) (b : Rb) (c : Ca) (W : World) : Prop where
  fr : Fr [] w W
  fbox : W.heap[bF]? = some (.cells #[v, .int .i64 dfl] 69 (0, 0))
  rbox : W.heap[bR]? = some (.cells #[vc, vr, vf] 36 (0, 0))
  cbox : W.heap[bC]? = some (.cells #[.int .i64 c.caller, .int .i64 c.called, .int .i64 c.at_, .int .i64 c.level, .int .i64 c.fwd, .bool c.back] 54 (0, 0))
  own : FlOwn w.heap.size W v ys
  ok : RusOk ys
  len : ys.length ≤ 8
  adfl : actB dfl = true
  rown : RbOwn w.heap.size W vc vr vf zs b
  made : MadeOk b
  cok : CaOk c
  cb : caB c = true
  back : c.back = false
section
variable {w W W' : World} {bF bR bC : Nat} {v vc vr vf : Value} {ys : List RuV} {dfl : Int} {zs : List ClV} {b : Rb} {c : Ca}
theorem LwS.same (h : LwS w bF bR bC v ys dfl vc vr vf zs b c W) (hf : Fr [] W W') : LwS w bF bR bC v ys dfl vc vr vf zs b c W' :=
  ⟨h.fr.trans hf, hf.keep h.fbox (by simp), hf.keep h.rbox (by simp), hf.keep h.cbox (by simp), h.own.same hf, h.ok, h.len, h.adfl, h.rown.same hf, h.made, h.cok, h.cb, h.back⟩
theorem LwS.cells (h : LwS w bF bR bC v ys dfl vc vr vf zs b c W) : (W.cell? ⟨bF, 0, none⟩ = some v ∧ W.cell? ⟨bF, 1, none⟩ = some (.int .i64 dfl)) ∧ (W.cell? ⟨bR, 0, none⟩ = some vc ∧ W.cell? ⟨bR, 1, none⟩ = some vr ∧ W.cell? ⟨bR, 2, none⟩ = some vf) ∧
    (W.cell? ⟨bC, 0, none⟩ = some (.int .i64 c.caller) ∧ W.cell? ⟨bC, 1, none⟩ = some (.int .i64 c.called) ∧ W.cell? ⟨bC, 2, none⟩ = some (.int .i64 c.at_) ∧ W.cell? ⟨bC, 3, none⟩ = some (.int .i64 c.level) ∧ W.cell? ⟨bC, 4, none⟩ = some (.int .i64 c.fwd) ∧ W.cell? ⟨bC, 5, none⟩ = some (.bool c.back)) :=
  ⟨⟨cell_of_blk h.fbox 0, cell_of_blk h.fbox 1⟩, ⟨cell_of_blk h.rbox 0, cell_of_blk h.rbox 1, cell_of_blk h.rbox 2⟩, cell_of_blk h.cbox 0, cell_of_blk h.cbox 1, cell_of_blk h.cbox 2, cell_of_blk h.cbox 3, cell_of_blk h.cbox 4, cell_of_blk h.cbox 5⟩
end
theorem goodF_of {f : Fl} {b : Rb} {c : Ca} (h1 : flB f = true) (h2 : MadeOk b) (h3 : caB c = true) : goodF f b c = true := by
  unfold goodF
  rw [h1, h2.valid, h3]
  rfl
end Go.Proofs.YtahfpadaoobkfaaGreatDoor
