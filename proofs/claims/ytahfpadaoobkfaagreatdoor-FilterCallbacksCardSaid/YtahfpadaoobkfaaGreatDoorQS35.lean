/-
  A filter that a call has made.
-/
import Derived.Test.YtahfpadaoobkfaaGreatDoorQS34
import Derived.Test.YtahfpadaoobkfaaGreatDoorQS27
import Derived.Test.YtahfpadaoobkfaaGreatDoorQS28
import Derived.Deep.CutBlock
import Derived.Deep.DeepCutAuto
namespace Go.Proofs.YtahfpadaoobkfaaGreatDoor
open Go.RowKit Go.Lib

theorem infoCd : (Tryz.prog.info? 62).map (fun i => (i.zero, i.size, i.bytes)) = some (some (.agg #[.int .i64 0, .int .i64 0, .int .i64 0, .bool false]), 4, 32) := by kernel_rfl
theorem infoRu : (Tryz.prog.info? 66).map (fun i => (i.zero, i.size, i.bytes)) = some (some (.agg #[.slice none 0 0, .int .i64 0]), 2, 32) := by kernel_rfl

abbrev CdRow (W : World) (v : Value) (l : List Cd) : Prop := W.ownsRow 0 62 4 v l.length (l.flatMap cdC)
/-- A filter's rules, in blocks of their own. -/
structure FlOwn (N : Nat) (W : World) (v : Value) (ys : List RuV) : Prop where
  row : W.ownsRow 0 66 2 v ys.length (ys.flatMap ruC)
  cds : ∀ y, y ∈ ys → CdRow W y.v y.x.cds
  newR : ∀ g, v.ownBlock = some g → N ≤ g
  newC : ∀ y, y ∈ ys → ∀ g, y.v.ownBlock = some g → N ≤ g
  apart : ys.Pairwise fun y z => ∀ g, y.v.ownBlock = some g → z.v.ownBlock ≠ some g
theorem FlOwn.start (N : Nat) (W : World) : FlOwn N W (.slice none 0 0) [] := ⟨⟨rfl, .inl ⟨rfl, rfl⟩⟩, fun y hy => (by cases hy), fun g hg => (by cases hg), fun y hy => (by cases hy), List.Pairwise.nil⟩
theorem FlOwn.fr {N : Nat} {W W' : World} {v : Value} {ys : List RuV} {S : List Nat} (h : FlOwn N W v ys) (hf : Fr S W W') (h1 : ∀ g, v.ownBlock = some g → g ∉ S) (h2 : ∀ y, y ∈ ys → ∀ g, y.v.ownBlock = some g → g ∉ S) : FlOwn N W' v ys :=
  ⟨row_fr h.row hf h1, fun y hy => row_fr (h.cds y hy) hf (h2 y hy), h.newR, h.newC, h.apart⟩
theorem FlOwn.same {N : Nat} {W W' : World} {v : Value} {ys : List RuV} (h : FlOwn N W v ys) (hf : Fr [] W W') : FlOwn N W' v ys := h.fr hf (by simp) (by simp)
theorem FlOwn.older {N N' : Nat} {W : World} {v : Value} {ys : List RuV} (h : FlOwn N W v ys) (hn : N' ≤ N) : FlOwn N' W v ys :=
  ⟨h.row, h.cds, fun g hg => Nat.le_trans hn (h.newR g hg), fun y hy g hg => Nat.le_trans hn (h.newC y hy g hg), h.apart⟩
/-- A block of another type is written. -/
theorem FlOwn.box {N : Nat} {W W' : World} {v : Value} {ys : List RuV} (h : FlOwn N W v ys) {b : Nat} {cs : Array Value} {fz : Nat × Nat} {e : TypeId} (hb : W.heap[b]? = some (.cells cs e fz)) (h1 : 66 ≠ e) (h2 : 62 ≠ e) (hf : Fr [b] W W') : FlOwn N W' v ys :=
  h.fr hf (fun g hg hm => by rw [List.mem_singleton] at hm; subst hm; exact row_box h.row hb h1 hg) (fun y hy g hg hm => by rw [List.mem_singleton] at hm; subst hm; exact row_box (h.cds y hy) hb h2 hg)
/-- What has been made is a good filter. -/
structure RusOk (ys : List RuV) : Prop where
  act : ∀ y, y ∈ ys → actB y.x.act = true
  cds : ∀ y, y ∈ ys → y.x.cds.length ≤ 4 ∧ ∀ x, x ∈ y.x.cds → cdB x = true ∧ CdOk x
theorem RusOk.nil : RusOk [] := ⟨fun y hy => (by cases hy), fun y hy => (by cases hy)⟩
theorem actB_i64 {n : Int} (h : actB n = true) : I64 n := by
  unfold actB at h
  rw [isInB_iff] at h
  constructor <;> omega
theorem RusOk.snoc {ys : List RuV} {y : RuV} (h : RusOk ys) (h1 : actB y.x.act = true) (h2 : y.x.cds.length ≤ 4) (h3 : ∀ x, x ∈ y.x.cds → cdB x = true ∧ CdOk x) : RusOk (ys ++ [y]) := by
  constructor
  · intro z hz
    rcases List.mem_append.1 hz with hz | hz
    · exact h.act z hz
    · rw [List.mem_singleton] at hz; subst hz; exact h1
  · intro z hz
    rcases List.mem_append.1 hz with hz | hz
    · exact h.cds z hz
    · rw [List.mem_singleton] at hz; subst hz; exact ⟨h2, h3⟩
theorem FlOwn.at_ {N : Nat} {W : World} {v : Value} {ys : List RuV} {dfl : Int} (h : FlOwn N W v ys) (ho : RusOk ys) (hd : I64 dfl) : FlAt W v ys ⟨ys.map (·.x), dfl⟩ :=
  ⟨rfl, sl_of_row h.row, fun y hy => sl_of_row (h.cds y hy), fun y hy => ⟨actB_i64 (ho.act y hy), fun x hx => ((ho.cds y hy).2 x hx).2⟩, hd⟩
theorem RusOk.flB {ys : List RuV} {dfl : Int} (h : RusOk ys) (hl : ys.length ≤ 20) (hd : actB dfl = true) : flB ⟨ys.map (·.x), dfl⟩ = true := by
  simp only [Go.Proofs.YtahfpadaoobkfaaGreatDoor.flB, List.length_map, Bool.and_eq_true, List.all_map, List.all_eq_true]
  refine ⟨⟨by apply decide_eq_true; omega, hd⟩, fun y hy => ?_⟩
  simp only [Function.comp, ruB, Bool.and_eq_true, List.all_eq_true]
  exact ⟨⟨by apply decide_eq_true; exact (h.cds y hy).1, h.act y hy⟩, fun x hx => ((h.cds y hy).2 x hx).1⟩
/-- A rule is added. -/
theorem FlOwn.add {N : Nat} {W W' : World} {v v' : Value} {ys : List RuV} {y : RuV} {n : Nat} {xs : List Value} (h : FlOwn N W v ys) (hN : N ≤ W.heap.size) (hr : W'.ownsRow 0 66 2 v' n xs) (hn : n = ys.length + 1) (hx : xs = ys.flatMap ruC ++ ruC y)
    (hf : Fr v.ownBlock.toList W W') (hb : v'.ownBlock = v.ownBlock ∨ v'.ownBlock = some W.heap.size) (hc : CdRow W y.v y.x.cds) (hy : ∀ g, y.v.ownBlock = some g → N ≤ g) (hd : ∀ z, z ∈ ys → ∀ g, z.v.ownBlock = some g → y.v.ownBlock ≠ some g) : FlOwn N W' v' (ys ++ [y]) where
  row := by
    subst hn hx
    rw [List.length_append, List.flatMap_append]
    simpa using hr
  cds := fun z hz => by
    have hz2 : CdRow W z.v z.x.cds := by
      rcases List.mem_append.1 hz with hz | hz
      · exact h.cds z hz
      · rw [List.mem_singleton] at hz; subst hz; exact hc
    exact row_fr hz2 hf (fun g hg hm => row_apart hz2 h.row (by decide) hg (by simpa using hm))
  newR := fun g hg => by
    rcases hb with hb | hb
    · exact h.newR g (hb ▸ hg)
    · rw [hb] at hg; cases hg; exact hN
  newC := fun z hz g hg => by
    rcases List.mem_append.1 hz with hz | hz
    · exact h.newC z hz g hg
    · rw [List.mem_singleton] at hz; subst hz; exact hy g hg
  apart := by
    rw [List.pairwise_append]
    refine ⟨h.apart, List.pairwise_singleton _ _, fun z hz u hu => ?_⟩
    rw [List.mem_singleton] at hu; subst hu
    exact hd z hz
/-- The elements of a filter that is made are older than what is allocated next. -/
theorem FlOwn.lt {N : Nat} {W : World} {v : Value} {ys : List RuV} (h : FlOwn N W v ys) {y : RuV} (hy : y ∈ ys) {g : Nat} (hg : y.v.ownBlock = some g) : g < W.heap.size := ownsRow_lt (h.cds y hy) hg

end Go.Proofs.YtahfpadaoobkfaaGreatDoor

/-
  dialtoneref26: Made.
-/
namespace Go.Proofs.YtahfpadaoobkfaaGreatDoor
open Go.RowKit Go.Lib

/-- The filter under way, in its box. -/
structure MfS (w : World) (dfl : Int) (v : Value) (ys : List RuV) (W : World) : Prop where
  fr : Fr [] w W
  res : W.heap[w.heap.size]? = some (.cells #[.slice none 0 0, .int .i64 0] 69 (0, 0))
  box : W.heap[w.heap.size + 1]? = some (.cells #[v, .int .i64 dfl] 69 (0, 0))
  own : FlOwn w.heap.size W v ys
  ok : RusOk ys
theorem MfS.same {w W W' : World} {dfl : Int} {v : Value} {ys : List RuV} (h : MfS w dfl v ys W) (hf : Fr [] W W') : MfS w dfl v ys W' :=
  ⟨h.fr.trans hf, hf.keep h.res (by simp), hf.keep h.box (by simp), h.own.same hf, h.ok⟩
theorem MfS.start (w : World) (dfl : Int) : MfS w dfl (.slice none 0 0) [] ((w.alloc (.cells #[.slice none 0 0, .int .i64 0] 69)).alloc (.cells #[.slice none 0 0, .int .i64 dfl] 69)) := by
  have h := alloc2' w (.cells #[.slice none 0 0, .int .i64 0] 69) (.cells #[.slice none 0 0, .int .i64 dfl] 69)
  exact ⟨(Fr.alloc _ _ _).trans (Fr.alloc _ _ _), h.1, h.2, FlOwn.start _ _, RusOk.nil⟩

/-- A rule under way, in its box. -/
structure MrS (w : World) (act : Int) (u : Value) (l : List Cd) (W : World) : Prop where
  fr : Fr [] w W
  box : W.heap[w.heap.size]? = some (.cells #[u, .int .i64 act] 66 (0, 0))
  row : CdRow W u l
  new : ∀ g, u.ownBlock = some g → w.heap.size ≤ g
  ok : ∀ x, x ∈ l → cdB x = true ∧ CdOk x
theorem MrS.same {w W W' : World} {act : Int} {u : Value} {l : List Cd} (h : MrS w act u l W) (hf : Fr [] W W') : MrS w act u l W' :=
  ⟨h.fr.trans hf, hf.keep h.box (by simp), row_fr h.row hf (by simp), h.new, h.ok⟩
theorem MrS.start (w : World) (act : Int) : MrS w act (.slice none 0 0) [] (w.alloc (.cells #[.slice none 0 0, .int .i64 act] 66)) :=
  ⟨Fr.alloc _ _ _, heap_alloc_new _ _, ⟨rfl, .inl ⟨rfl, rfl⟩⟩, fun g hg => (by cases hg), fun x hx => (by cases hx)⟩
/-- A condition is added to the rule, and the rule's slice is stored. -/
theorem MrS.add {w W W' : World} {act : Int} {u u' : Value} {l : List Cd} {x : Cd} {n : Nat} {xs : List Value} (h : MrS w act u l W) (hr : W'.ownsRow 0 62 4 u' n xs) (hn : n = l.length + 1) (hx : xs = l.flatMap cdC ++ cdC x)
    (hf : Fr u.ownBlock.toList W W') (hb : u'.ownBlock = u.ownBlock ∨ u'.ownBlock = some W.heap.size) (h1 : cdB x = true) (h2 : CdOk x) :
    W'.heap[w.heap.size]? = some (.cells #[u, .int .i64 act] 66 (0, 0)) ∧ MrS w act u' (l ++ [x]) (W'.setCell ⟨w.heap.size, 0, none⟩ u') := by
  have hbox : W'.heap[w.heap.size]? = some (.cells #[u, .int .i64 act] 66 (0, 0)) := hf.keep h.box (fun hm => row_box h.row h.box (by decide) (by simpa using hm))
  have hrow : CdRow W' u' (l ++ [x]) := by
    subst hn hx
    show W'.ownsRow 0 62 4 u' (l ++ [x]).length ((l ++ [x]).flatMap cdC)
    rw [List.length_append, List.flatMap_append]
    simpa using hr
  refine ⟨hbox, ?_⟩
  exact {
    fr := (h.fr.step hf (fun i hi => .inr (h.new i (by simpa using hi)))).step (Fr.setCell (fp := [w.heap.size]) _ _ (by simp)) (fun i hi => by simp at hi; exact .inr (by omega))
    box := heap_setCell_same _ hbox
    row := row_fr hrow (Fr.setCell (fp := [w.heap.size]) W' (p := ⟨w.heap.size, 0, none⟩) _ (by simp)) (fun g hg hm => by rw [List.mem_singleton] at hm; subst hm; exact row_box hrow hbox (by decide) hg)
    new := fun g hg => by
      rcases hb with hb | hb
      · exact h.new g (hb ▸ hg)
      · rw [hb] at hg; cases hg; exact h.fr.size
    ok := fun y hy => by
      rcases List.mem_append.1 hy with hy | hy
      · exact h.ok y hy
      · rw [List.mem_singleton] at hy; subst hy; exact ⟨h1, h2⟩ }
/-- The rule is added to the filter, and the filter's slice is stored. -/
theorem MfS.add {w wr W W' : World} {dfl act : Int} {v v' u : Value} {ys : List RuV} {l : List Cd} {n : Nat} {xs : List Value} (h : MfS w dfl v ys wr) (hm : MrS wr act u l W) (hr : W'.ownsRow 0 66 2 v' n xs) (hn : n = ys.length + 1) (hx : xs = ys.flatMap ruC ++ ruC ⟨⟨l, act⟩, u⟩)
    (hf : Fr v.ownBlock.toList W W') (hb : v'.ownBlock = v.ownBlock ∨ v'.ownBlock = some W.heap.size) (h1 : actB act = true) (h2 : l.length ≤ 4) :
    W'.heap[w.heap.size + 1]? = some (.cells #[v, .int .i64 dfl] 69 (0, 0)) ∧ MfS w dfl v' (ys ++ [⟨⟨l, act⟩, u⟩]) (W'.setCell ⟨w.heap.size + 1, 0, none⟩ v') := by
  have hW := h.same hm.fr
  have hbox : W'.heap[w.heap.size + 1]? = some (.cells #[v, .int .i64 dfl] 69 (0, 0)) := hf.keep hW.box (fun hq => row_box hW.own.row hW.box (by decide) (by simpa using hq))
  have hO : FlOwn w.heap.size W' v' (ys ++ [⟨⟨l, act⟩, u⟩]) := hW.own.add (y := ⟨⟨l, act⟩, u⟩) hW.fr.size hr hn hx hf hb hm.row (fun g hg => Nat.le_trans h.fr.size (hm.new g hg)) (fun z hz g hg hg' => by
    have h3 := h.own.lt hz hg
    have h4 := hm.new g hg'
    omega)
  refine ⟨hbox, ?_⟩
  exact {
    fr := (hW.fr.step hf (fun i hi => .inr (h.own.newR i (by simpa using hi)))).step (Fr.setCell (fp := [w.heap.size + 1]) _ _ (by simp)) (fun i hi => by simp at hi; exact .inr (by omega))
    res := heap_setCell_other _ (hf.keep hW.res (fun hq => row_box hW.own.row hW.res (by decide) (by simpa using hq))) (by simp)
    box := heap_setCell_same _ hbox
    own := hO.box hbox (by decide) (by decide) (Fr.setCell (fp := [w.heap.size + 1]) W' (p := ⟨w.heap.size + 1, 0, none⟩) _ (by simp))
    ok := h.ok.snoc h1 h2 hm.ok }

/-- The rule's box and the four integers of a condition, as they lie while a region draws. -/
structure MxS (B : Nat) (u : Value) (act : Int) (bx o : Nat) (x0 x1 x2 x3 : Int) (W : World) : Prop where
  box : W.heap[B]? = some (.cells #[u, .int .i64 act] 66 (0, 0))
  c0 : W.cell? ⟨bx, o, none⟩ = some (.int .i64 x0)
  c1 : W.cell? ⟨bx, o + 1, none⟩ = some (.int .i64 x1)
  c2 : W.cell? ⟨bx, o + 2, none⟩ = some (.int .i64 x2)
  c3 : W.cell? ⟨bx, o + 3, none⟩ = some (.int .i64 x3)
theorem MxS.fr {B : Nat} {u : Value} {act : Int} {bx o : Nat} {x0 x1 x2 x3 : Int} {W W' : World} {S : List Nat} (h : MxS B u act bx o x0 x1 x2 x3 W) (hf : Fr S W W') (h1 : B ∉ S) (h2 : bx ∉ S) : MxS B u act bx o x0 x1 x2 x3 W' := by
  have hk := hf.block bx (World.block_lt_of_cell? W _ h.c0) h2
  exact ⟨hf.keep h.box h1, (World.cell?_of_block hk).trans h.c0, (World.cell?_of_block hk).trans h.c1, (World.cell?_of_block hk).trans h.c2, (World.cell?_of_block hk).trans h.c3⟩
theorem tdiv4_i64 (c : Int) (hc : I64 c) : I64 (c.tdiv 4) := by
  obtain ⟨h1, h2⟩ := hc
  by_cases h : 0 ≤ c
  · rw [Int.tdiv_eq_ediv_of_nonneg h]
    constructor <;> omega
  · have e : c.tdiv 4 = -((-c) / 4) := by
      rw [← Int.tdiv_eq_ediv_of_nonneg (by omega : 0 ≤ -c), Int.neg_tdiv, Int.neg_neg]
    rw [e]
    constructor <;> omega
theorem act_b {p : Int} (h : 0 ≤ p ∧ p < 4) : actB (1 + p) = true := isInB_iff.2 ⟨by omega, by omega⟩

set_option maxRecDepth 100000 in
set_option maxHeartbeats 4000000 in
theorem made26_c (vx vm : Value) (nx : Nat) (xs ms : List Int) (fb : Int) (w : World) (hx : NumAt w vx nx 12 xs) (hm : IntsAt w vm ms) (hmi : ∀ z, z ∈ ms → I64 z) (hf : I64 fb) :
    Calls Tryz.prog 18 #[vx, vm, .int .i64 fb] w fun e w' => Fr [] w w' ∧ ∃ v ys dfl, e = .returned (flV v dfl) ∧ FlOwn w.heap.size w' v ys ∧ RusOk ys ∧ ys.length ≤ 8 ∧ actB dfl = true := by
  obtain ⟨ax, px, rfl⟩ := hx.sl.val
  obtain ⟨am, pm, rfl⟩ := hm.val
  have hxl := hx.sl.len; have hml := hm.len
  have HX := Lib.hid hx; have HM := Lib.hid hm; have HMI := Lib.hid hmi
  have CF := Lib.hid fun W => pick26_c fb 4 W hf (by omega) (by omega)
  have bf := pickI_bound fb 4 (by omega)
  generalize pickI fb 4 = pf at *
  clear hx hm hmi hf
  go_enter Tryz.func18, Tryz.ntmps18
  go_wp2_with fail
  refine (CF.out _).mono ?_
  rintro e w1 ⟨rfl, rfl⟩
  have S0 := Lib.hid (MfS.start w (1 + pf))
  go_upto_block 0 with fail
  go_cut [] (fun W => ∃ v ys, ys.length ≤ 8 ∧ Hid (MfS w (1 + pf) v ys W))
  case first =>
    go_wp2_with fail
    go_loopw [8] (fun s wr => ∃ (i : Nat) (v : Value) (ys : List RuV), i ≤ nx ∧ i ≤ 8 ∧ s = .int .i64 i ∧ ys.length = i ∧ Hid (MfS w (1 + pf) v ys wr)) (fun s _ => 8 - (intOf s).toNat)
    case atStart => exact ⟨0, _, [], Nat.zero_le _, by omega, rfl, rfl, S0⟩
    case round =>
      obtain ⟨i, v, ys, hi, hi8, rfl, hyl, H⟩ := hrel
      obtain ⟨w0, hw0⟩ : ∃ W : World, W = wr := ⟨_, rfl⟩
      subst hw0
      have HYL := Lib.hid hyl
      clear hyl
      obtain ⟨av, pv, rfl⟩ := (sl_of_row H.out.own.row).val
      by_cases hlt : i < nx
      · by_cases hlt8 : i < 8
        · have CI := Lib.hid fun W => pick26_c i 4 W ⟨by omega, by omega⟩ (by omega) (by omega)
          have bi := pickI_bound i 4 (by omega)
          generalize pickI i 4 = pi at *
          obtain ⟨bx, ox, hax, _⟩ := HX.out.sl.at_ (by omega)
          subst hax
          go_wp2_with fail
          refine (CI.out _).mono ?_
          rintro e w1 ⟨rfl, rfl⟩
          have M0 := Lib.hid (MrS.start w0 (1 + pi))
          go_upto_if 33 with fail
          go_cut [10] (fun s W => ∃ (k : Nat) (act : Int), k ≤ 3 ∧ s = .int .i64 k ∧ Hid (actB act = true) ∧ Hid (MrS w0 act (.slice none 0 0) [] W))
          case first =>
            by_cases hmm : i < ms.length
            · obtain ⟨bm, om, rfl, hcm⟩ := HM.out.at_ (by omega)
              have e0 : w0.cell? ⟨bm, om + i, none⟩ = some (.int .i64 ms[i]) := (World.cell?_of_block (H.out.fr.block bm (World.block_lt_of_cell? w _ (hcm i (.int .i64 ms[i]) (by simp [hmm]))) (by simp))).trans (hcm i _ (by simp [hmm]))
              have hbm := World.block_lt_of_cell? w0 _ e0
              have hI := HMI.out _ (List.getElem_mem hmm)
              generalize ms[i] = z at *
              have hq := tdiv4_i64 z hI
              have CA := Lib.hid fun W => pick26_c (z.tdiv 4) 4 W hq (by omega) (by omega)
              have CN := Lib.hid fun W => pick26_c z 4 W hI (by omega) (by omega)
              have ba := pickI_bound (z.tdiv 4) 4 (by omega)
              have bn := pickI_bound z 4 (by omega)
              have e1 : (w0.alloc (.cells #[.slice none 0 0, .int .i64 (1 + pi)] 66)).cell? ⟨bm, om + i, none⟩ = some (.int .i64 z) := (World.cell?_of_block (M0.out.fr.block bm hbm (by simp))).trans e0
              have b1 := cell_of_blk M0.out.box 1
              have b2 := free_of_blk M0.out.box 1
              have HB := Lib.hid (act_b ba)
              obtain ⟨hq1, hq2⟩ := hq
              obtain ⟨hI1, hI2⟩ := hI
              generalize pickI (z.tdiv 4) 4 = pa at *
              generalize pickI z 4 = pn at *
              clear hcm
              go_wp2_with fail
              refine (CA.out _).mono ?_
              rintro e w1 ⟨rfl, rfl⟩
              have M1 := Lib.hid (MrS.start w0 (1 + pa))
              have e2 : (w0.alloc (.cells #[.slice none 0 0, .int .i64 (1 + pa)] 66)).cell? ⟨bm, om + i, none⟩ = some (.int .i64 z) := (World.cell?_of_block (M1.out.fr.block bm hbm (by simp))).trans e0
              clear b1 b2 e0
              go_wp2_with fail
              refine (CN.out _).mono ?_
              rintro e w1 ⟨rfl, rfl⟩
              clear e1 e2
              go_wp2_with fail
              go_meet
              case rel => exact ⟨pn.toNat, 1 + pa, by omega, by go_num, HB, M1⟩
            · go_wp2_with fail
              go_meet
              case rel => exact ⟨2, 1 + pi, by omega, rfl, Lib.hid (act_b bi), M0⟩
          case rest =>
            obtain ⟨k, act, hk3, rfl, HA, HM0⟩ := hcut
            go_upto_block 2 with fail
            go_cut [] (fun W => ∃ (u : Value) (l : List Cd), l.length ≤ 4 ∧ Hid (MrS w0 act u l W))
            case first =>
              go_wp2_with fail
              go_loopw [11] (fun s w1 => ∃ (j : Nat) (u : Value) (l : List Cd), j ≤ k ∧ s = .int .i64 j ∧ l.length = j ∧ Hid (MrS w0 act u l w1)) (fun s _ => k - (intOf s).toNat)
              case atStart => exact ⟨0, _, [], Nat.zero_le _, rfl, rfl, HM0⟩
              case round =>
                obtain ⟨j, u, l, hj, rfl, hl, HR⟩ := hrel
                have HLJ := Lib.hid hl
                clear hl
                obtain ⟨au, pu, rfl⟩ := (sl_of_row HR.out.row).val
                by_cases hjk : j < k
                · have hl3 : l.length ≤ 4 := by have := HLJ.out; omega
                  have N := HX.out.same (H.out.fr.trans HR.out.fr)
                  obtain ⟨x0, d0, o0⟩ := N.cell hlt (show j * 4 < 12 by omega)
                  obtain ⟨x1, d1, o1⟩ := N.cell hlt (show j * 4 + 1 < 12 by omega)
                  obtain ⟨x2, d2, o2⟩ := N.cell hlt (show j * 4 + 2 < 12 by omega)
                  obtain ⟨x3, d3, o3⟩ := N.cell hlt (show j * 4 + 3 < 12 by omega)
                  simp only [← Nat.add_assoc] at d0 d1 d2 d3
                  have CC := Lib.hid fun W => cond26_c x0 x1 x2 x3 W o0 o1 o2 o3
                  have hbxw : bx < w.heap.size := by
                    obtain ⟨y, hy, _⟩ := HX.out.cell hlt (show 0 < 12 by omega)
                    exact World.block_lt_of_cell? w _ hy
                  have hws := H.out.fr.size
                  clear N o0 o1 o2 o3
                  go_wp2_with fail
                  refine reg_fin (MxS w0.heap.size (.slice au l.length pu) act bx (ox + i * 12 + j * 4) x0 x1 x2 x3) 12 [0, 1, 2, 3, 4, 5, 6, 7, 8, 9, 10, 11, 12] (by kernel_rfl) (by kernel_rfl) (by kernel_rfl) rfl ?_
                  have Y0 : MxS w0.heap.size (.slice au l.length pu) act bx (ox + i * 12 + j * 4) x0 x1 x2 x3 wr := ⟨HR.out.box, d0, d1, d2, d3⟩
                  have Y1 := Y0.fr (Fr.drew [] _) (by simp) (by simp)
                  have F1 : Fr [] wr wr.drew := Fr.drew _ _
                  generalize wr.drew = WD at Y1 F1 ⊢
                  clear Y0 d0 d1 d2 d3
                  iterate 8 (refine fin_take (v := ?_) rfl rfl rfl rfl Y1 (fun w hS => ?_) ?_; rotate_left; (focus (obtain ⟨s, y0, y1, y2, y3⟩ := hS; have s0 := cell_of_blk s 0; clear s; go_simp; first | rfl | (rw [if_pos (by omega)]))); simp only [List.setIfInBounds_toArray, List.set_cons_succ, List.set_cons_zero])
                  refine fin_do rfl rfl rfl (fun K hK => ?_)
                  go_simp
                  refine (CC.out _).mono ?_
                  rintro e w2 ⟨x, rfl, hxb, hxo, f2⟩
                  have Y2 := Y1.fr f2 (by simp) (by simp)
                  refine hK _ _ Y2 ?_
                  clear hK K
                  try simp only [Act.put, List.setIfInBounds_toArray, List.set_cons_succ, List.set_cons_zero]
                  refine fin_do rfl rfl rfl (fun K hK => ?_)
                  go_simp
                  have Y3 := Y2.fr (Fr.alloc [] w2 (.cells #[.int .i64 x.kind, .int .i64 x.lo, .int .i64 x.hi, .bool x.neg] 62)) (by simp) (by simp)
                  refine hK _ _ Y3 ?_
                  clear hK K
                  try simp only [Act.put, List.setIfInBounds_toArray, List.set_cons_succ, List.set_cons_zero]
                  have HSr := srcAt_new w2 #[.int .i64 x.kind, .int .i64 x.lo, .int .i64 x.hi, .bool x.neg] 62
                  have F3 : Fr [] wr (w2.alloc (.cells #[.int .i64 x.kind, .int .i64 x.lo, .int .i64 x.hi, .bool x.neg] 62)) := (F1.trans f2).trans (Fr.alloc _ _ _)
                  have R3 := HR.out.same F3
                  refine fin_do (o := ⟨some 62, _, _, _, _, _⟩) rfl rfl rfl (fun K hK => ?_)
                  refine wp_append_src (.tmp 53) (.tmp 61) 64 62 _ 4 32 rfl Tryz.underlying64 infoCd rfl (by decide) (.slice au l.length pu) l.length _ rfl R3.row (.slice (some ⟨w2.heap.size, 0, none⟩) 1 1) 1 (cdC x) rfl HSr rfl (by simp [cdC, Value.oneCell']) (by omega) (by omega) ?_
                  intro ga cap w' h1 h2 h3
                  have Y4 := Y3.fr h2 (fun hm => row_box R3.row R3.box (by decide) (by simpa using hm)) (fun hm => by have := R3.new _ (by simpa using hm); omega)
                  refine hK _ _ Y4 ?_
                  clear hK K
                  try simp only [Act.put, List.setIfInBounds_toArray, List.set_cons_succ, List.set_cons_zero]
                  refine fin_take (v := ?_) rfl rfl rfl rfl Y4 (fun w hS => ?_) ?_
                  rotate_left
                  (focus (go_simp; rfl))
                  try simp only [List.setIfInBounds_toArray, List.set_cons_succ, List.set_cons_zero]
                  obtain ⟨hbx2, hM⟩ := R3.add (x := x) h1 rfl rfl h2 h3 hxb hxo
                  have t0 := cell_of_blk hbx2 0
                  have t2 := free_of_blk hbx2 0
                  refine fin_last (o := ⟨none, _, _, _, _, _⟩) rfl rfl rfl (fun K hK => ?_)
                  have t1 : w'.cell? ⟨w0.heap.size, 0, none⟩ = some (.slice au l.length pu) := t0
                  go_simp
                  try go_upon
                  try go_simp
                  refine hK _ _ ?_
                  clear hK K
                  have HM2 := Lib.hid hM
                  clear t0 t1 t2 Y1 Y2 Y3 Y4 h1 h2 h3 HSr F3 F1 f2 R3 hM hbx2
                  go_wp2_with fail
                  go_roundw
                  case rel => exact ⟨j + 1, _, l ++ [x], by omega, by go_num, by simp [HLJ.out], by simpa using HM2⟩
                  case measure => simp [intOf]; omega
                · go_wp2_with fail
                  go_meet
                  case rel => exact ⟨_, l, by have := HLJ.out; omega, HR⟩
            case rest =>
              obtain ⟨u, l, hl4, HR⟩ := hcut
              obtain ⟨au, pu, rfl⟩ := (sl_of_row HR.out.row).val
              have HWc := Lib.hid (H.out.same HR.out.fr)
              have t0 := cell_of_blk HWc.out.box 0
              have r0 := cell_of_blk HR.out.box 0; have r1 := cell_of_blk HR.out.box 1
              go_wp2_with (first | ((with_reducible refine wpList_of_wp (o := ⟨some 68, _, _, _, _, _⟩) rfl (fun K hK => ?_)); apply stop_in; case _other => exact trivial))
              (refine stop_in ?_ ?_; rotate_left; exact trivial)
              have HSr := srcAt_new wc #[.slice au l.length pu, .int .i64 act] 66
              have R3 := HR.out.same (Fr.alloc [] wc (.cells #[.slice au l.length pu, .int .i64 act] 66))
              have H3 := H.out.same R3.fr
              refine wp_append_src (.tmp 65) (.tmp 67) 67 66 _ 2 32 rfl Tryz.underlying67 infoRu rfl (by decide) (.slice av ys.length pv) ys.length _ rfl H3.own.row (.slice (some ⟨wc.heap.size, 0, none⟩) 1 1) 1 (ruC ⟨⟨l, act⟩, .slice au l.length pu⟩) rfl HSr rfl (by simp [ruC, Value.oneCell']) (by have := HYL.out; omega) (by have := HYL.out; omega) ?_
              intro ga cap w' h1 h2 h3
              refine hK _ _ ?_
              clear hK K
              obtain ⟨hbx2, hM⟩ := H.out.add R3 h1 rfl rfl h2 h3 HA.out hl4
              clear t0 r0 r1
              have t1 : w'.cell? ⟨w.heap.size + 1, 0, none⟩ = some (.slice av ys.length pv) := cell_of_blk hbx2 0
              have t2 := free_of_blk hbx2 0
              have HM2 := Lib.hid hM
              clear h1 h2 h3 HSr R3 H3 hM hbx2
              go_wp2_with fail
              go_roundw
              case rel => exact ⟨i + 1, _, ys ++ [⟨⟨l, act⟩, .slice au l.length pu⟩], by omega, by omega, by go_num, by simp [HYL.out], by simpa using HM2⟩
              case measure => simp [intOf]; omega
        · go_wp2_with fail
          go_meet
          case rel => exact ⟨_, ys, by have := HYL.out; omega, H⟩
      · go_wp2_with fail
        go_meet
        case rel => exact ⟨_, ys, by have := HYL.out; omega, H⟩
  case rest =>
    obtain ⟨v, ys, hy8, H⟩ := hcut
    obtain ⟨av, pv, rfl⟩ := (sl_of_row H.out.own.row).val
    have t0 := cell_of_blk H.out.box 0; have t1 := cell_of_blk H.out.box 1
    have k0 := cell_of_blk H.out.res 0; have k1 := cell_of_blk H.out.res 1
    have z0 := free_of_blk H.out.res 0; have z1 := free_of_blk H.out.res 1
    go_wp2_with fail
    have hs1 := heap_setCell_same (i := 1) (.int .i64 (1 + pf)) (heap_setCell_same (i := 0) (.slice av ys.length pv) H.out.res)
    have FS : Fr [w.heap.size] wc ((wc.setCell ⟨w.heap.size, 0, none⟩ (.slice av ys.length pv)).setCell ⟨w.heap.size, 1, none⟩ (.int .i64 (1 + pf))) := (Fr.setCell _ _ (by simp)).trans (Fr.setCell _ _ (by simp))
    have HO := H.out.own.box H.out.res (by decide) (by decide) FS
    have FZ := H.out.fr.step FS (fun i hi => by simp at hi; exact .inr (by omega))
    generalize (wc.setCell ⟨w.heap.size, 0, none⟩ (.slice av ys.length pv)).setCell ⟨w.heap.size, 1, none⟩ (.int .i64 (1 + pf)) = W3 at *
    clear t0 t1 k0 k1 z0 z1
    have k0 : W3.cell? ⟨w.heap.size, 0, none⟩ = some (.slice av ys.length pv) := cell_of_blk hs1 0
    have k1 : W3.cell? ⟨w.heap.size, 1, none⟩ = some (.int .i64 (1 + pf)) := cell_of_blk hs1 1
    refine bodyPost_ret (by simp [results, Tryz.results18, go_sem, k0, k1]; try rfl) rfl ?_
    exact ⟨FZ, _, ys, _, rfl, HO, H.out.ok, hy8, act_b bf⟩

end Go.Proofs.YtahfpadaoobkfaaGreatDoor

/-
  dialtoneref26: Call.
-/
namespace Go.Proofs.YtahfpadaoobkfaaGreatDoor
open Go.RowKit Go.Lib

def callC (a b c d e : Int) : Ca := ⟨pickI a 10, 100 + pickI b 5, pickI c 100 + 3600 * pickI (c.tdiv 100) 48, pickI d 4, pickI e 6, false⟩
end Go.Proofs.YtahfpadaoobkfaaGreatDoor
