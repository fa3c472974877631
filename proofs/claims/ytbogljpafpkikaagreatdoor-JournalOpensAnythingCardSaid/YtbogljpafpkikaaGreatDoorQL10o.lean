/-
  The journal's laws: from the arguments and the laid variables to what the walks ask.
-/
import Derived.Test.YtbogljpafpkikaaGreatDoorQLS
import Derived.Test.YtbogljpafpkikaaGreatDoorQLw
import Derived.Stop.LaidErr
import Derived.Lib.LaidTab
import Derived.MakeChecks
import Derived.Stop.Joined
namespace Go.Proofs.YtbogljpafpkikaaGreatDoor
open Go.ChangeShapes Go.WideShapes Go.ChangeAt Go.RowKit Go.Deep Go.Lib

theorem addAt (b off j : Nat) : (⟨b, off, none⟩ : Addr).add j = ⟨b, off + j, none⟩ := by
  unfold Addr.add
  split
  · rename_i h; subst h; rfl
  · rfl
theorem slT {P : Program} {H : Type} {enc : TypeId × Value → H} {W : World} {t e : TypeId} {fuel : Nat} {v : Value} {x : DataW H × List MemPlace} (Q : Value → Prop) (ht : P.underlying t = some (.slice e)) (hk : P.cellsOf e = 1)
    (hq : ∀ f u y, DataW.trod enc P W 0 (fun _ => true) true f e [u] = some y → Q u) (h : DataW.trod enc P W 0 (fun _ => true) true fuel t [v] = some x) : ∃ L : List Value, (∀ u, u ∈ L → Q u) ∧ Sl W v L.length L := by
  rcases open_slice ht h with ⟨hcs, _⟩ | ⟨a, len, cap, m, f, D, Pl, hcs, _, hl, hm, hmm, _, hel⟩
  · simp only [List.cons.injEq, and_true] at hcs
    subst hcs
    exact ⟨[], by simp, Sl.nil _⟩
  · simp only [List.cons.injEq, and_true] at hcs
    subst hcs
    simp only [if_true] at hmm
    have key : ∀ n, n ≤ len → ∃ L : List Value, L.length = n ∧ (∀ u, u ∈ L → Q u) ∧ ∀ j u, L[j]? = some u → W.cell? (a.add j) = some u := by
      intro n
      induction n with
      | zero => exact fun _ => ⟨[], by simp, by simp, by simp⟩
      | succ n ih =>
        intro hn
        obtain ⟨L, h0, h2, h3⟩ := ih (by omega)
        obtain ⟨cs, hcs, htr⟩ := hel n (by omega)
        rw [hk, Nat.mul_one] at hcs
        obtain ⟨_, hcl, hat⟩ := World.cells?_some hcs
        obtain ⟨u, rfl⟩ : ∃ u, cs = [u] := by
          match cs, hcl with
          | [u], _ => exact ⟨u, rfl⟩
        have h4 := hat 0 (by omega)
        rw [Go.Deep.add_add, Nat.add_zero] at h4
        refine ⟨L ++ [u], by simp [h0], fun c hc => ?_, fun j c hc => ?_⟩
        · rcases List.mem_append.1 hc with hc | hc
          · exact h2 c hc
          · rw [List.mem_singleton] at hc; subst hc; exact hq _ _ _ htr
        · rcases Nat.lt_or_ge j L.length with hj | hj
          · rw [List.getElem?_append_left hj] at hc
            exact h3 j c hc
          · rw [List.getElem?_append_right hj] at hc
            have hj0 : j - L.length = 0 := by
              have := (List.getElem?_eq_some_iff.1 hc).1
              simp at this; omega
            rw [hj0] at hc
            have hjn : j = n := by omega
            subst hjn
            simp at hc
            subst hc
            simpa using h4
    obtain ⟨L, h0, h2, h3⟩ := key len (Nat.le_refl _)
    refine ⟨L, h2, _, cap, by rw [h0], by omega, hm, fun hn => ?_⟩
    have hu0 := h3 0 L[0] (by simp)
    have ha : a.add 0 = a := by simp [Addr.add]
    rw [ha] at hu0
    have hs := cell_spot hu0
    obtain ⟨b, off, sp⟩ := a
    simp only at hs
    subst hs
    exact ⟨b, off, rfl, fun j u hu => by rw [← addAt]; exact h3 j u hu⟩

theorem strs_list {Q : ByteArray → Prop} : ∀ {L : List Value}, (∀ u, u ∈ L → ∃ s, u = .string s ∧ Q s) → ∃ l : List ByteArray, L = l.map Value.string ∧ ∀ s, s ∈ l → Q s
  | [], _ => ⟨[], rfl, by simp⟩
  | u :: L, h => by
    obtain ⟨l, h1, h2⟩ := strs_list (L := L) (fun c hc => h c (by simp [hc]))
    obtain ⟨s, rfl, hs⟩ := h u (by simp)
    refine ⟨s :: l, by rw [h1]; rfl, fun x hx => ?_⟩
    rcases List.mem_cons.1 hx with rfl | hx
    · exact hs
    · exact h2 x hx
theorem gok_of_trod {H : Type} {enc : TypeId × Value → H} {W : World} {v : Value} {fuel : Nat} {x : DataW H × List MemPlace} (h : DataW.trod enc Tryz.prog W 0 (fun _ => true) true fuel 22 [v] = some x) : ∃ l, GOk W v l := by
  obtain ⟨L, h1, h2⟩ := slT (fun u => ∃ s : ByteArray, u = .string s ∧ s.size ≤ 9223372036854775807) Tryz.underlying22 (by kernel_rfl) (fun f u y hy => trod_str Tryz.underlying9 hy) h
  obtain ⟨l, rfl, h3⟩ := strs_list h1
  rw [List.length_map] at h2
  obtain ⟨a, c, rfl⟩ := h2.val
  exact ⟨l, a, c, rfl, h2, h3⟩
theorem goks_list {W : World} : ∀ {L : List Value}, (∀ u, u ∈ L → ∃ l, GOk W u l) → ∃ xs : List (Value × List ByteArray), L = xs.map (·.1) ∧ ∀ x, x ∈ xs → GOk W x.1 x.2
  | [], _ => ⟨[], rfl, by simp⟩
  | u :: L, h => by
    obtain ⟨xs, h1, h2⟩ := goks_list (L := L) (fun c hc => h c (by simp [hc]))
    obtain ⟨l, hl⟩ := h u (by simp)
    refine ⟨(u, l) :: xs, by rw [h1]; rfl, fun x hx => ?_⟩
    rcases List.mem_cons.1 hx with rfl | hx
    · exact hl
    · exact h2 x hx
theorem groups_of_trod {H : Type} {enc : TypeId × Value → H} {W : World} {v : Value} {fuel : Nat} {x : DataW H × List MemPlace} (h : DataW.trod enc Tryz.prog W 0 (fun _ => true) true fuel 48 [v] = some x) :
    ∃ (a : Option Addr) (cap : Nat) (xs : List (Value × List ByteArray)), v = .slice a xs.length cap ∧ Sl W (.slice a xs.length cap) xs.length (xs.map (·.1)) ∧ ∀ x, x ∈ xs → GOk W x.1 x.2 := by
  obtain ⟨L, h1, h2⟩ := slT (fun u => ∃ l, GOk W u l) Tryz.underlying48 (by kernel_rfl) (fun f u y hy => gok_of_trod hy) h
  obtain ⟨xs, rfl, h3⟩ := goks_list h1
  rw [List.length_map] at h2
  obtain ⟨a, c, rfl⟩ := h2.val
  exact ⟨a, c, xs, rfl, h2, h3⟩

/-! ### The laid variables -/
theorem var_heap {P : Program} {W : World} {n : String} {g : Nat} {cs : Array Value} (hg : P.globalNamed n = some g) (h : W.var? P n = some cs) : ∃ t fz, W.heap[g]? = some (.cells cs t fz) := by
  unfold World.var? at h
  simp only [hg, Option.bind_some] at h
  split at h
  · rename_i cs' t fz heq
    cases h
    exact ⟨t, fz, heq⟩
  · cases h
theorem rnd_of_laid {W : World} {r : List (String × DataW Unit)} {x : String × DataW Unit} (h : laidMet Tryz.prog (x :: ("dialtone/digest.round", Rows.laid_dialtone_digest_round) :: r) W) : RndAt W := by
  have h2 := h.tail
  have e : (Rows.laid_dialtone_digest_round : DataW Unit) = Lib.tabData .u32 kTab := rfl
  rw [e] at h2
  have h3 := Lib.tabIs_of_head (P := Tryz.prog) (g := 3) (by kernel_rfl) (by kernel_rfl) Tryz.underlying207 Tryz.underlying106 (by kernel_rfl) (by kernel_rfl) h2
  unfold Lib.TabIs at h3
  exact var_heap (by kernel_rfl) h3

theorem star10 : "*" ++ "errors.errorString" = "*errors.errorString" := by decide
theorem rowErr (u : TypeId) (h : Tryz.prog.typeName? 3 u = some "*errors.errorString") : u = 221 :=
  typeName_ptr_named (nm := "errors.errorString") (by rw [star10]; kernel_rfl) (by kernel_rfl) (by decide) u (by rw [star10]; exact h)
theorem dmg_of_laid {W : World} {r : List (String × DataW Unit)} {x y : String × DataW Unit} (h : laidMet Tryz.prog (x :: y :: ("dialtone/journal.errDamaged", Rows.laid_dialtone_journal_errDamaged) :: r) W) : ∃ a, DmgAt W a := by
  have h2 := h.tail.tail
  obtain ⟨a, s, h3, _⟩ := laid_sentinel (P := Tryz.prog) (g := 0) h2 (by kernel_rfl) (by kernel_rfl) Tryz.underlying77 rowErr Tryz.underlying221 Tryz.underlying243 rfl rfl Tryz.underlying9 (by kernel_rfl) (by kernel_rfl)
  exact ⟨a, var_heap (by kernel_rfl) h3⟩

end Go.Proofs.YtbogljpafpkikaaGreatDoor
