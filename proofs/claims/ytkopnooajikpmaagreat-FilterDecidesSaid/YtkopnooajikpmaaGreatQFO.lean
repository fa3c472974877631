/-
  A filter that a call has made.
-/
import Derived.Test.YtkopnooajikpmaaGreatQFlR2
import Derived.Test.YtkopnooajikpmaaGreatQL8d
import Derived.Test.YtkopnooajikpmaaGreatQL8
import Derived.Test.YtkopnooajikpmaaGreatQFB
import Derived.Lib.SmallJoins
namespace Go.Proofs.YtkopnooajikpmaaGreat
open Go.RowKit Go.Lib

theorem infoCd : (Tryz.prog.info? 93).map (fun i => (i.zero, i.size, i.bytes)) = some (some (.agg #[.int .i64 0, .int .i64 0, .int .i64 0, .bool false]), 4, 32) := by kernel_rfl
theorem infoRu : (Tryz.prog.info? 82).map (fun i => (i.zero, i.size, i.bytes)) = some (some (.agg #[.slice none 0 0, .int .i64 0]), 2, 32) := by kernel_rfl

abbrev CdRow (W : World) (v : Value) (l : List Cd) : Prop := W.ownsRow 0 93 4 v l.length (l.flatMap cdC)
/-- A filter's rules, in blocks of their own. -/
structure FlOwn (N : Nat) (W : World) (v : Value) (ys : List RuV) : Prop where
  row : W.ownsRow 0 82 2 v ys.length (ys.flatMap ruC)
  cds : ∀ y, y ∈ ys → CdRow W y.v y.x.cds
  newR : ∀ g, v.ownBlock = some g → N ≤ g
  newC : ∀ y, y ∈ ys → ∀ g, y.v.ownBlock = some g → N ≤ g
  apart : ys.Pairwise fun y z => ∀ g, y.v.ownBlock = some g → z.v.ownBlock ≠ some g
theorem FlOwn.start (N : Nat) (W : World) : FlOwn N W (.slice none 0 0) [] := ⟨⟨rfl, .inl ⟨rfl, rfl⟩⟩, fun y hy => (by cases hy), fun g hg => (by cases hg), fun y hy => (by cases hy), List.Pairwise.nil⟩
theorem FlOwn.fr {N : Nat} {W W' : World} {v : Value} {ys : List RuV} {S : List Nat} (h : FlOwn N W v ys) (hf : Fr S W W') (h1 : ∀ g, v.ownBlock = some g → g ∉ S) (h2 : ∀ y, y ∈ ys → ∀ g, y.v.ownBlock = some g → g ∉ S) : FlOwn N W' v ys :=
  ⟨row_fr h.row hf h1, fun y hy => row_fr (h.cds y hy) hf (h2 y hy), h.newR, h.newC, h.apart⟩
theorem FlOwn.same {N : Nat} {W W' : World} {v : Value} {ys : List RuV} (h : FlOwn N W v ys) (hf : Fr [] W W') : FlOwn N W' v ys := h.fr hf (by simp) (by simp)
theorem FlOwn.older {N N' : Nat} {W : World} {v : Value} {ys : List RuV} (h : FlOwn N W v ys) (hn : N' ≤ N) : FlOwn N' W v ys :=
  ⟨h.row, h.cds, fun g hg => Nat.le_trans hn (h.newR g hg), fun y hy g hg => Nat.le_trans hn (h.newC y hy g hg), h.apart⟩
/-- A block of another type is written. -/
theorem FlOwn.box {N : Nat} {W W' : World} {v : Value} {ys : List RuV} (h : FlOwn N W v ys) {b : Nat} {cs : Array Value} {fz : Nat × Nat} {e : TypeId} (hb : W.heap[b]? = some (.cells cs e fz)) (h1 : 82 ≠ e) (h2 : 93 ≠ e) (hf : Fr [b] W W') : FlOwn N W' v ys :=
  h.fr hf (fun g hg hm => by rw [List.mem_singleton] at hm; subst hm; exact row_box h.row hb h1 hg) (fun y hy g hg hm => by rw [List.mem_singleton] at hm; subst hm; exact row_box (h.cds y hy) hb h2 hg)
/-- What has been made is a good filter. -/
structure RusOk (ys : List RuV) : Prop where
  act : ∀ y, y ∈ ys → actB y.x.act = true
  cds : ∀ y, y ∈ ys → y.x.cds.length ≤ 4 ∧ ∀ x, x ∈ y.x.cds → cdB x = true ∧ CdOk x
theorem RusOk.nil : RusOk [] := ⟨fun y hy => (by cases hy), fun y hy => (by cases hy)⟩
theorem actB_i64 {n : Int} (h : actB n = true) : I64 n := by
  unfold actB at h
  rw [isInB_iff] at h
  constructor <;> omega
theorem RusOk.snoc {ys : List RuV} {y : RuV} (h : RusOk ys) (h1 : actB y.x.act = true) (h2 : y.x.cds.length ≤ 4) (h3 : ∀ x, x ∈ y.x.cds → cdB x = true ∧ CdOk x) : RusOk (ys ++ [y]) := by
  constructor
  · intro z hz
    rcases List.mem_append.1 hz with hz | hz
    · exact h.act z hz
    · rw [List.mem_singleton] at hz; subst hz; exact h1
  · intro z hz
    rcases List.mem_append.1 hz with hz | hz
    · exact h.cds z hz
    · rw [List.mem_singleton] at hz; subst hz; exact ⟨h2, h3⟩
theorem FlOwn.at_ {N : Nat} {W : World} {v : Value} {ys : List RuV} {dfl : Int} (h : FlOwn N W v ys) (ho : RusOk ys) (hd : I64 dfl) : FlAt W v ys ⟨ys.map (·.x), dfl⟩ :=
  ⟨rfl, sl_of_row h.row, fun y hy => sl_of_row (h.cds y hy), fun y hy => ⟨actB_i64 (ho.act y hy), fun x hx => ((ho.cds y hy).2 x hx).2⟩, hd⟩
theorem RusOk.flB {ys : List RuV} {dfl : Int} (h : RusOk ys) (hl : ys.length ≤ 20) (hd : actB dfl = true) : flB ⟨ys.map (·.x), dfl⟩ = true := by
  simp only [Go.Proofs.YtkopnooajikpmaaGreat.flB, List.length_map, Bool.and_eq_true, List.all_map, List.all_eq_true]
  refine ⟨⟨by apply decide_eq_true; omega, hd⟩, fun y hy => ?_⟩
  simp only [Function.comp, ruB, Bool.and_eq_true, List.all_eq_true]
  exact ⟨⟨by apply decide_eq_true; exact (h.cds y hy).1, h.act y hy⟩, fun x hx => ((h.cds y hy).2 x hx).1⟩
/-- A rule is added. -/
theorem FlOwn.add {N : Nat} {W W' : World} {v v' : Value} {ys : List RuV} {y : RuV} {n : Nat} {xs : List Value} (h : FlOwn N W v ys) (hN : N ≤ W.heap.size) (hr : W'.ownsRow 0 82 2 v' n xs) (hn : n = ys.length + 1) (hx : xs = ys.flatMap ruC ++ ruC y)
    (hf : Fr v.ownBlock.toList W W') (hb : v'.ownBlock = v.ownBlock ∨ v'.ownBlock = some W.heap.size) (hc : CdRow W y.v y.x.cds) (hy : ∀ g, y.v.ownBlock = some g → N ≤ g) (hd : ∀ z, z ∈ ys → ∀ g, z.v.ownBlock = some g → y.v.ownBlock ≠ some g) : FlOwn N W' v' (ys ++ [y]) where
  row := by
    subst hn hx
    rw [List.length_append, List.flatMap_append]
    simpa using hr
  cds := fun z hz => by
    have hz2 : CdRow W z.v z.x.cds := by
      rcases List.mem_append.1 hz with hz | hz
      · exact h.cds z hz
      · rw [List.mem_singleton] at hz; subst hz; exact hc
    exact row_fr hz2 hf (fun g hg hm => row_apart hz2 h.row (by decide) hg (by simpa using hm))
  newR := fun g hg => by
    rcases hb with hb | hb
    · exact h.newR g (hb ▸ hg)
    · rw [hb] at hg; cases hg; exact hN
  newC := fun z hz g hg => by
    rcases List.mem_append.1 hz with hz | hz
    · exact h.newC z hz g hg
    · rw [List.mem_singleton] at hz; subst hz; exact hy g hg
  apart := by
    rw [List.pairwise_append]
    refine ⟨h.apart, List.pairwise_singleton _ _, fun z hz u hu => ?_⟩
    rw [List.mem_singleton] at hu; subst hu
    exact hd z hz
/-- The elements of a filter that is made are older than what is allocated next. -/
theorem FlOwn.lt {N : Nat} {W : World} {v : Value} {ys : List RuV} (h : FlOwn N W v ys) {y : RuV} (hy : y ∈ ys) {g : Nat} (hg : y.v.ownBlock = some g) : g < W.heap.size := ownsRow_lt (h.cds y hy) hg

end Go.Proofs.YtkopnooajikpmaaGreat

/-
  Arguments of dialtonelaw26, opened.
-/
namespace Go.Proofs.YtkopnooajikpmaaGreat
open Go.ChangeShapes Go.WideShapes Go.ChangeAt Go.RowKit Go.Deep Go.Lib

theorem sl_of_trod {P : Program} {H : Type} {enc : TypeId × Value → H} {W : World} {t e : TypeId} {k fuel : Nat} {v : Value} {x : DataW H × List MemPlace} (Q : List Value → Prop) (ht : P.underlying t = some (.slice e)) (hk : P.cellsOf e = k) (hp : 0 < k)
    (hq : ∀ f cs y, cs.length = k → DataW.trod enc P W 0 (fun _ => true) true f e cs = some y → Q cs) (h : DataW.trod enc P W 0 (fun _ => true) true fuel t [v] = some x) :
    ∃ L : List (List Value), (∀ cs, cs ∈ L → cs.length = k ∧ Q cs) ∧ L.flatten.length = L.length * k ∧ Sl W v L.length L.flatten := by
  rcases open_slice ht h with ⟨hcs, _⟩ | ⟨a, len, cap, m, f, D, Pl, hcs, _, hl, hm, hmm, _, hel⟩
  · simp only [List.cons.injEq, and_true] at hcs
    subst hcs
    exact ⟨[], by simp, by simp, Sl.nil _⟩
  · simp only [List.cons.injEq, and_true] at hcs
    subst hcs
    simp only [if_true] at hmm
    have key : ∀ n, n ≤ len → ∃ L : List (List Value), L.length = n ∧ L.flatten.length = n * k ∧ (∀ cs, cs ∈ L → cs.length = k ∧ Q cs) ∧ ∀ j u, L.flatten[j]? = some u → W.cell? (a.add j) = some u := by
      intro n
      induction n with
      | zero => exact fun _ => ⟨[], by simp, by simp, by simp, by simp⟩
      | succ n ih =>
        intro hn
        obtain ⟨L, h0, h1, h2, h3⟩ := ih (by omega)
        obtain ⟨cs, hcs, htr⟩ := hel n (by omega)
        rw [hk] at hcs
        obtain ⟨_, hcl, hat⟩ := World.cells?_some hcs
        refine ⟨L ++ [cs], by simp [h0], by rw [List.flatten_append, List.length_append, h1]; simp [hcl, Nat.succ_mul], fun c hc => ?_, fun j u hu => ?_⟩
        · rcases List.mem_append.1 hc with hc | hc
          · exact h2 c hc
          · rw [List.mem_singleton] at hc; subst hc; exact ⟨hcl, hq _ _ _ hcl htr⟩
        · rw [List.flatten_append, List.flatten_singleton] at hu
          rcases Nat.lt_or_ge j L.flatten.length with hj | hj
          · rw [List.getElem?_append_left hj] at hu
            exact h3 j u hu
          · rw [List.getElem?_append_right hj] at hu
            have hjk : j - L.flatten.length < k := by
              have := (List.getElem?_eq_some_iff.1 hu).1
              omega
            have h4 := hat (j - L.flatten.length) hjk
            rw [Go.Deep.add_add] at h4
            rw [hu, h1, show n * k + (j - n * k) = j by omega] at h4
            exact h4
    obtain ⟨L, h0, h1, h2, h3⟩ := key len (Nat.le_refl _)
    refine ⟨L, h2, by rw [h1, h0], ⟨_, cap, by rw [h0], by omega, hm, fun hn => ?_⟩⟩
    have hpos : 0 < L.flatten.length := by rw [h1]; exact Nat.mul_pos (by omega) hp
    have hu0 := h3 0 L.flatten[0] (by simp)
    have ha : a.add 0 = a := by simp [Addr.add]
    rw [ha] at hu0
    have hs := cell_spot hu0
    obtain ⟨b, off, sp⟩ := a
    simp only at hs
    subst hs
    exact ⟨b, off, rfl, fun j u hu => by rw [← addr_add]; exact h3 j u hu⟩

theorem ints_of_array2 {P : Program} {H : Type} {enc : TypeId × Value → H} {W : World} {t e i : TypeId} {n m fuel : Nat} {cs : List Value} {x : DataW H × List MemPlace} (ht : P.underlying t = some (.array n e)) (he : P.underlying e = some (.array m i)) (hi : P.underlying i = some (.int .i64)) (hc : P.cellsOf i = 1) (hm : P.cellsOf e = m) (hn : P.cellsOf t = n * m) (hp : 0 < m)
    (h : DataW.trod enc P W 0 (fun _ => true) true fuel t cs = some x) : ∃ zs : List Int, cs = intC zs ∧ zs.length = n * m ∧ ∀ z, z ∈ zs → I64 z := by
  obtain ⟨xs, f, _, _, hl, hx, hel⟩ := DataW.trod_array ht h
  rw [hn] at hl
  obtain ⟨zs, rfl, hz⟩ := ints_list (cs := cs) (fun u hu => by
    obtain ⟨j, hj, rfl⟩ := List.getElem_of_mem hu
    have hq : j / m < n := by
      rw [Nat.div_lt_iff_lt_mul hp]; omega
    have h1 := hel (j / m) (by omega)
    rw [hm, List.getElem?_eq_getElem (by omega)] at h1
    obtain ⟨zs, e1, e2, e3⟩ := ints_of_array he hi hc hm h1
    have hr : j % m < m := Nat.mod_lt _ hp
    have e4 : ((cs.drop (j / m * m)).take m)[j % m]? = some cs[j] := by
      rw [List.getElem?_take_of_lt hr, List.getElem?_drop, Nat.div_add_mod' j m]
      simp [hj]
    rw [e1, intC, List.getElem?_map] at e4
    rw [List.getElem?_eq_getElem (by omega)] at e4
    simp only [Option.map_some, Option.some.injEq] at e4
    exact ⟨_, e4.symm, e3 _ (List.getElem_mem _)⟩)
  exact ⟨zs, rfl, by simpa using hl, hz⟩

theorem lists_ints {k : Nat} : ∀ {L : List (List Value)}, (∀ cs, cs ∈ L → cs.length = k ∧ ∃ zs : List Int, cs = intC zs ∧ ∀ z, z ∈ zs → I64 z) → ∃ zs : List Int, L.flatten = intC zs ∧ ∀ z, z ∈ zs → I64 z
  | [], _ => ⟨[], rfl, by simp⟩
  | cs :: L, h => by
    obtain ⟨zs, h1, h2⟩ := lists_ints (L := L) (fun c hc => h c (by simp [hc]))
    obtain ⟨_, ys, rfl, h3⟩ := h cs (by simp)
    refine ⟨ys ++ zs, by rw [List.flatten_cons, h1, intC, intC, intC, List.map_append], fun z hz => ?_⟩
    rcases List.mem_append.1 hz with hz | hz
    · exact h3 z hz
    · exact h2 z hz

set_option maxRecDepth 100000 in
theorem x3s_of_trod {H : Type} {enc : TypeId × Value → H} {W : World} {v : Value} {fuel : Nat} {x : DataW H × List MemPlace} (h : DataW.trod enc Tryz.prog W 0 (fun _ => true) true fuel 58 [v] = some x) : ∃ n is, NumAt W v n 12 is := by
  obtain ⟨L, h1, h2, h3⟩ := sl_of_trod (k := 12) (fun cs => ∃ zs : List Int, cs = intC zs ∧ ∀ z, z ∈ zs → I64 z) Tryz.underlying58 (by kernel_rfl) (by omega) (fun f cs y _ hy => by
    obtain ⟨zs, e1, _, e3⟩ := ints_of_array2 (n := 3) (m := 4) Tryz.underlying136 Tryz.underlying31 Tryz.underlying3 (by kernel_rfl) (by kernel_rfl) (by kernel_rfl) (by omega) hy
    exact ⟨zs, e1, e3⟩) h
  obtain ⟨zs, e1, e2⟩ := lists_ints h1
  refine ⟨L.length, zs, by rw [← e1]; exact h3, ?_, e2⟩
  rw [← h2, e1]
  simp
set_option maxRecDepth 100000 in
theorem intsAt_of_trod {H : Type} {enc : TypeId × Value → H} {W : World} {v : Value} {fuel : Nat} {x : DataW H × List MemPlace} (h : DataW.trod enc Tryz.prog W 0 (fun _ => true) true fuel 48 [v] = some x) : ∃ l : List Int, IntsAt W v l ∧ ∀ z, z ∈ l → I64 z := by
  obtain ⟨L, h1, h2, h3⟩ := sl_of_trod (k := 1) (fun cs => ∃ zs : List Int, cs = intC zs ∧ ∀ z, z ∈ zs → I64 z) Tryz.underlying48 (by kernel_rfl) (by omega) (fun f cs y hl hy => by
    match cs, hl with
    | [u], _ =>
      obtain ⟨k, rfl, e2⟩ := trod_i64 (t := 3) Tryz.underlying3 hy
      exact ⟨[k], rfl, fun z hz => by rw [List.mem_singleton] at hz; subst hz; exact e2⟩) h
  obtain ⟨zs, e1, e2⟩ := lists_ints h1
  refine ⟨zs, ?_, e2⟩
  have e3 : zs.length = L.length := by
    have := congrArg List.length e1
    rw [h2, List.length_map] at this
    omega
  show Sl W v zs.length (intC zs)
  rw [e3, ← e1]
  exact h3
theorem lists_prs {W : World} : ∀ {L : List (List Value)}, (∀ cs, cs ∈ L → cs.length = 1 ∧ ∃ (u : Value) (l : List Fd), cs = [u] ∧ FdsAt W u l) → ∃ zs : List PrV, L.flatten = zs.map (·.v) ∧ zs.length = L.length ∧ ∀ z, z ∈ zs → FdsAt W z.v z.l
  | [], _ => ⟨[], rfl, rfl, by simp⟩
  | cs :: L, h => by
    obtain ⟨zs, h1, h2, h3⟩ := lists_prs (L := L) (fun c hc => h c (by simp [hc]))
    obtain ⟨_, u, l, rfl, h4⟩ := h cs (by simp)
    refine ⟨⟨l, u⟩ :: zs, by rw [List.flatten_cons, h1]; rfl, by simp [h2], fun z hz => ?_⟩
    rcases List.mem_cons.1 hz with rfl | hz
    · exact h4
    · exact h3 z hz
set_option maxRecDepth 100000 in
theorem prAt_of_trod {H : Type} {enc : TypeId × Value → H} {W : World} {v : Value} {fuel : Nat} {x : DataW H × List MemPlace} (h : DataW.trod enc Tryz.prog W 0 (fun _ => true) true fuel 54 [v] = some x) : ∃ zs : List PrV, PrAt W v zs := by
  obtain ⟨L, h1, h2, h3⟩ := sl_of_trod (k := 1) (fun cs => ∃ (u : Value) (l : List Fd), cs = [u] ∧ FdsAt W u l) Tryz.underlying54 (by kernel_rfl) (by omega) (fun f cs y hl hy => by
    match cs, hl with
    | [u], _ =>
      obtain ⟨l, hl⟩ := fds_of_trod hy
      exact ⟨u, l, rfl, hl⟩) h
  obtain ⟨zs, e1, e2, e3⟩ := lists_prs h1
  exact ⟨zs, by rw [← e1, e2]; exact h3, e3⟩

set_option maxRecDepth 100000 in
theorem open_x3s {H : Type} {enc : TypeId × Value → H} {W : World} {base : Nat} {v : Value} {d : DataW H} {p : List MemPlace} (k : Value.okWide Tryz.prog W .any base 58 v) (h : DataW.Trod enc Tryz.prog W 0 (fun _ => true) true 58 v d p) : ∃ n is, NumAt W v n 12 is := by
  obtain ⟨a, len, cap, rfl⟩ := okWide_slice Tryz.underlying58 k
  obtain ⟨fuel, hf⟩ := h
  exact x3s_of_trod hf
set_option maxRecDepth 100000 in
theorem open_ints {H : Type} {enc : TypeId × Value → H} {W : World} {base : Nat} {v : Value} {d : DataW H} {p : List MemPlace} (k : Value.okWide Tryz.prog W .any base 48 v) (h : DataW.Trod enc Tryz.prog W 0 (fun _ => true) true 48 v d p) : ∃ l : List Int, IntsAt W v l ∧ ∀ z, z ∈ l → I64 z := by
  obtain ⟨a, len, cap, rfl⟩ := okWide_slice Tryz.underlying48 k
  obtain ⟨fuel, hf⟩ := h
  exact intsAt_of_trod hf
set_option maxRecDepth 100000 in
theorem open_x5 {H : Type} {enc : TypeId × Value → H} {W : World} {base : Nat} {v : Value} {d : DataW H} {p : List MemPlace} (k : Value.okWide Tryz.prog W .any base 59 v) (h : DataW.Trod enc Tryz.prog W 0 (fun _ => true) true 59 v d p) :
    ∃ a b c d e, v = .agg #[.int .i64 a, .int .i64 b, .int .i64 c, .int .i64 d, .int .i64 e] ∧ I64 a ∧ I64 b ∧ I64 c ∧ I64 d ∧ I64 e := by
  obtain ⟨cs, rfl⟩ : ∃ cs, v = .agg cs := by
    simp only [Value.okWide, Tryz.underlying59] at k
    obtain ⟨cs, h1, _⟩ := k
    exact ⟨cs, h1⟩
  obtain ⟨fuel, hf⟩ := agg_open h
  obtain ⟨zs, h1, h2, h3⟩ := ints_of_array (n := 5) Tryz.underlying59 Tryz.underlying3 (by kernel_rfl) (by kernel_rfl) hf
  obtain ⟨cs⟩ := cs
  simp only at h1
  subst h1
  match zs, h2 with
  | [a, b, c, d, e], _ => exact ⟨a, b, c, d, e, rfl, h3 a (by simp), h3 b (by simp), h3 c (by simp), h3 d (by simp), h3 e (by simp)⟩
set_option maxRecDepth 100000 in
theorem open_dec {H : Type} {enc : TypeId × Value → H} {W : World} {base : Nat} {v : Value} {d : DataW H} {p : List MemPlace} (k : Value.okWide Tryz.prog W .any base 62 v) (h : DataW.Trod enc Tryz.prog W 0 (fun _ => true) true 62 v d p) :
    ∃ (act rule : Int) (vF vP : Value) (F : List Int) (zs : List PrV), v = .agg #[.int .i64 act, .int .i64 rule, vF, vP] ∧ I64 act ∧ I64 rule ∧ IntsAt W vF F ∧ PrAt W vP zs := by
  obtain ⟨cs, rfl, hs⟩ := okWide_struct Tryz.underlying62 k
  have hs4 : cs.size = 4 := hs.trans (by kernel_rfl)
  obtain ⟨fuel, hf⟩ := agg_open h
  obtain ⟨y0, y1, y2, y3, n, _, _, g0, g1, g2, g3⟩ := Go.Joins.trod_struct4 Tryz.underlying62 hf
  match cs, hs4 with
  | ⟨[c0, c1, c2, c3]⟩, _ =>
    obtain ⟨a, rfl, ha⟩ := trod_i64 (t := 3) Tryz.underlying3 (show DataW.trod enc Tryz.prog W 0 (fun _ => true) true n 3 [c0] = some y0 from g0)
    obtain ⟨r, rfl, hr⟩ := trod_i64 (t := 3) Tryz.underlying3 (show DataW.trod enc Tryz.prog W 0 (fun _ => true) true n 3 [c1] = some y1 from g1)
    obtain ⟨F, hF, _⟩ := intsAt_of_trod (show DataW.trod enc Tryz.prog W 0 (fun _ => true) true n 48 [c2] = some y2 from g2)
    obtain ⟨zs, hz⟩ := prAt_of_trod (show DataW.trod enc Tryz.prog W 0 (fun _ => true) true n 54 [c3] = some y3 from g3)
    exact ⟨a, r, c2, c3, F, zs, rfl, ha, hr, hF, hz⟩

end Go.Proofs.YtkopnooajikpmaaGreat
