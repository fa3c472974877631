/-
  journal: check, and the records of a content.
-/
import Derived.Test.YtbogljpafpkikaaGreatDoorQJA
import Derived.Test.YtbogljpafpkikaaGreatDoorQReg7
namespace Go.Proofs.YtbogljpafpkikaaGreatDoor
open Go.RowKit Go.Lib

/-- The error 'damaged' is laid; its pointer. -/
def DmgAt (w : World) (a : Addr) : Prop := ∃ t fz, w.heap[0]? = some (.cells #[.iface 221 (.pointer (some a))] t fz)
theorem DmgAt.fr {w w' : World} {a : Addr} {S : List Nat} (h : DmgAt w a) (hf : Fr S w w') (hS : 0 ∉ S) : DmgAt w' a := by
  obtain ⟨t, fz, h⟩ := h
  exact ⟨t, fz, hf.keep h hS⟩
/-- The panic of a content that is damaged. -/
abbrev dmgP (a : Addr) : List PanicEntry := [{ v := .iface 221 (.pointer (some a)), recovered := false }]

theorem check_ok (w : World) : Calls Tryz.prog 94 #[.bool true] w fun e w' => e = .returned (.tuple #[]) ∧ w = w' := by
  go_enter Tryz.func94, Tryz.ntmps94
  go_wp2
  go_end0
  exact ⟨rfl, rfl⟩
set_option maxRecDepth 100000 in
theorem check_bad (a : Addr) (w : World) (h : DmgAt w a) : Calls Tryz.prog 94 #[.bool false] w fun e w' => e = .panicked (dmgP a) ∧ w = w' := by
  obtain ⟨t, fz, h⟩ := h
  have c0 := cell_of_blk h 0
  clear h
  go_enter Tryz.func94, Tryz.ntmps94
  go_wp2
  exact ⟨rfl, rfl, rfl⟩

theorem getS_bound {s : List UInt8} {p : Nat} {r : List UInt8} {q : Nat} (h : getS s p = some (r, q)) : r.length ≤ 65536 ∧ q ≤ s.length ∧ p ≤ q := by
  unfold getS at h
  cases hg : getI s p with
  | none => rw [hg] at h; cases h
  | some x =>
    obtain ⟨n, q0⟩ := x
    rw [hg] at h
    have hb := getI_bound hg
    simp only at h
    split at h
    · cases h
    · simp only [Option.some.injEq, Prod.mk.injEq] at h
      obtain ⟨rfl, rfl⟩ := h
      rw [List.length_take, List.length_drop]
      omega

/-- What load does. -/
def LoadPost (a : Addr) (b : Nat) (X : List Value) (ty : TypeId) (vr : Value) (w : World) (o : Option Tp) (e : Ending) (w' : World) : Prop := match o with
  | some t => e = .returned (.tuple #[]) ∧ ∃ vr', TapeAt w' b X ty vr' t ∧ Upd (tpB b vr) (tpB b vr') w w'
  | none => e = .panicked (dmgP a) ∧ ∃ fp, Upd (tpB b vr) fp w w'
def szOf (b : Nat) (w : World) : Nat := match w.cell? ⟨b, 2, none⟩ with
  | some (.int _ n) => n.toNat
  | _ => 0
theorem szOf_at {b : Nat} {w : World} {n : Nat} (h : w.cell? ⟨b, 2, none⟩ = some (.int .i64 n)) : szOf b w = n := by simp [szOf, h]

set_option maxRecDepth 1000000 in
set_option maxHeartbeats 4000000 in
theorem load_c (a : Addr) (b : Nat) (X : List Value) (ty : TypeId) (vr : Value) (t : Tp) (s : ByteArray) (f : Nat) (w : World) (h : TapeAt w b X ty vr t) (hs : s.size ≤ 1000000000) (hh : t.head.size = 32) (hn : t.recs.length ≤ t.size) (ht : t.size ≤ s.size) (hf : s.size < t.size + f)
    (hR : RndAt w) (hD : DmgAt w a) (hg : ∀ k, k ∈ tpB b vr → k ≠ 3 ∧ k ≠ 0) : Calls Tryz.prog 71 #[.pointer (some ⟨b, 0, none⟩), .string s] w (LoadPost a b X ty vr w (ldM (bts s) f t)) := by
  have HT := Lib.hid h; have HR := Lib.hid hR; have HD := Lib.hid hD; have HG := Lib.hid hg
  have hrl : 3 < w.heap.size := by obtain ⟨_, _, h⟩ := hR; exact blk_lt h
  have hdl : 0 < w.heap.size := by obtain ⟨_, _, h⟩ := hD; exact blk_lt h
  have HH : Shut (t.head.size = 32) := ⟨hh⟩
  generalize hO : ldM (bts s) f t = O
  have HO : Shut (ldM (bts s) f t = O) := ⟨hO⟩
  clear h hR hD hg hh hO
  go_enter Tryz.func71, Tryz.ntmps71
  go_wp2_with fail
  go_loopw [] (fun wr => ∃ (t' : Tp) (vr' : Value) (f' : Nat), Hid (TapeAt wr b X ty vr' t') ∧ Hid (Upd (tpB b vr) (tpB b vr') w wr) ∧ Shut (t'.head.size = 32) ∧ t'.recs.length ≤ t'.size ∧ t'.size ≤ s.size ∧ s.size < t'.size + f' ∧ Shut (ldM (bts s) f' t' = O)) (fun wr => s.size + 1 - szOf b wr)
  case atStart => exact ⟨t, vr, f, HT, Lib.hid (Upd.refl _ _), HH, hn, ht, hf, HO⟩
  case round =>
    obtain ⟨⟨rs, hd, sz⟩, vr', f', H1, HU, HHd, hn', ht', hf', HL⟩ := hrel
    simp only at hn' ht' hf' HHd
    have c2 : wr.cell? ⟨b, 2, none⟩ = some (.int .i64 sz) := cell_of_blk H1.out.blk 2
    obtain ⟨g, rfl⟩ : ∃ g, f' = g + 1 := ⟨f' - 1, by omega⟩
    by_cases hlt : sz < s.size
    · have hat : (bts s)[sz]? = some s[sz] := by rw [List.getElem?_eq_getElem (by exact hlt)]; rfl
      have HL2 : Shut ((if s[sz] = 0 then some (⟨rs, hd, sz⟩ : Tp) else if s[sz] ≠ 1 then none else match getS (bts s) (sz + 1) with
        | none => none
        | some (r, q) => if (bts s).length < q + 32 then none else if recL hd (str r) = ((bts s).drop sz).take (q + 32 - sz) then ldM (bts s) g (Tp.add ⟨rs, hd, sz⟩ (str r)) else none) = O) := ⟨by
        have := HL.out
        rw [ldM] at this
        simp only [hat] at this
        exact this⟩
      have HDm : Hid (DmgAt wr a) := Lib.hid (HD.out.fr HU.out.fr (fun hm => (HG.out _ hm).2 rfl))
      clear hat HL
      by_cases h0 : s[sz] = 0
      · have hb0 : ((s[sz].toNat : Int) != 0) = false := by rw [h0]; rfl
        have HE : Shut (O = some ⟨rs, hd, sz⟩) := ⟨by rw [← HL2.out, if_pos h0]⟩
        clear h0
        go_wp2_with fail
        go_end0
        rw [HE.out]
        exact ⟨rfl, vr', H1.out, HU.out⟩
      · have hb0 : ((s[sz].toNat : Int) != 0) = true := by
          simp only [bne_iff_ne, ne_eq]
          intro e
          apply h0
          rw [← UInt8.toNat_inj]
          simp; omega
        by_cases h1 : s[sz] = 1
        · have hb1 : ((s[sz].toNat : Int) == 1) = true := by rw [h1]; rfl
          have HL3 : Shut ((match getS (bts s) (sz + 1) with
            | none => none
            | some (r, q) => if (bts s).length < q + 32 then none else if recL hd (str r) = ((bts s).drop sz).take (q + 32 - sz) then ldM (bts s) g (Tp.add ⟨rs, hd, sz⟩ (str r)) else none) = O) := ⟨by rw [← HL2.out, if_neg h0, if_neg (fun hh => hh h1)]⟩
          have CI := string_c s (sz + 1) (by omega) (by omega) wr
          rw [show ((sz + 1 : Nat) : Int) = (sz : Int) + 1 by omega] at CI
          clear HL2 h0 h1
          cases hgs : getS (bts s) (sz + 1) with
          | none =>
            rw [hgs] at CI HL3
            unfold strV at CI
            have HE : Shut (O = none) := ⟨HL3.out.symm⟩
            have HC := Lib.hid CI
            clear hgs CI HL3
            go_wp2_with fail
            refine (check_ok _).mono ?_
            rintro e w9 ⟨rfl, rfl⟩
            go_wp2_with fail
            refine HC.out.mono ?_
            rintro e w9 ⟨rfl, rfl⟩
            clear HC
            go_wp2_with fail
            refine (check_bad a _ HDm.out).mono ?_
            rintro e w9 ⟨rfl, rfl⟩
            go_wp2_with fail
            refine ⟨rfl, ?_⟩
            rw [HE.out]
            exact ⟨rfl, _, HU.out⟩
          | some x =>
            obtain ⟨r, q⟩ := x
            obtain ⟨hr1, hr2, hr3⟩ := getS_bound hgs
            rw [bts_len] at hr2
            rw [hgs] at CI HL3
            unfold strV at CI
            have HC := Lib.hid CI
            clear hgs CI
            by_cases hq : s.size < q + 32
            · have hb2 : decide ((q : Int) + 32 ≤ (s.size : Int)) = false := by simp; omega
              have HE : Shut (O = none) := ⟨by
                have := HL3.out
                dsimp only at this
                rw [if_pos (by rw [bts_len]; exact hq)] at this
                exact this.symm⟩
              clear HL3
              go_wp2_with fail
              refine (check_ok _).mono ?_
              rintro e w9 ⟨rfl, rfl⟩
              go_wp2_with fail
              refine HC.out.mono ?_
              rintro e w9 ⟨rfl, rfl⟩
              clear HC
              go_wp2_with fail
              refine (check_bad a _ HDm.out).mono ?_
              rintro e w9 ⟨rfl, rfl⟩
              go_wp2_with fail
              refine ⟨rfl, ?_⟩
              rw [HE.out]
              exact ⟨rfl, _, HU.out⟩
            · have hb2 : decide ((q : Int) + 32 ≤ (s.size : Int)) = true := by simp; omega
              have HL4 : Shut ((if recL hd (str r) = ((bts s).drop sz).take (q + 32 - sz) then ldM (bts s) g (Tp.add ⟨rs, hd, sz⟩ (str r)) else none) = O) := ⟨by
                have := HL3.out
                dsimp only at this
                rw [if_neg (by rw [bts_len]; exact hq)] at this
                exact this⟩
              clear HL3
              go_wp2_with fail
              refine (check_ok _).mono ?_
              rintro e w9 ⟨rfl, rfl⟩
              go_wp2_with fail
              refine HC.out.mono ?_
              rintro e w9 ⟨rfl, rfl⟩
              clear HC
              go_wp2_with fail
              refine (check_ok _).mono ?_
              rintro e w9 ⟨rfl, rfl⟩
              go_wp2_with fail
              have hgr : ∀ k, k ∈ tpB b vr' → k ≠ 3 ∧ k ≠ 0 := fun k hk => by
                rcases HU.out.sub k hk with h | h
                · exact HG.out k h
                · omega
              have HAC := Lib.hid fun W (hf : Fr [] wr W) => add_c b X ty vr' ⟨rs, hd, sz⟩ (str r) W (H1.out.same hf) (by rw [str_size]; exact hr1) HHd.out (by simp only; omega) (by simp only; omega) ((HR.out.same (HU.out.fr.mono (fun _ h => h)) (fun hm => (HG.out _ hm).1 rfl)).same hf (by simp)) (fun k hk => (hgr k hk).1)
              clear hgr c2
              -- @@5
              refine reg_treeP (Fr (tpB b vr') wr) 9 (.take 0 (.take 1 (.take 3 (.take 4 (.take 5 (.take 6 (.take 7 (.one 2 (.take 8 (.one 9 .nil)))))))))) (by kernel_rfl) (by kernel_rfl) (by kernel_rfl) rfl ?_ ?_
              · intro d v c a w h
                simp only [Exit.inBlock] at h ⊢
                cases d <;> exact h
              have S0 : Fr [] wr wr.drew := Fr.drew _ _
              generalize wr.drew = WC at S0 ⊢
              have S1 : Fr (tpB b vr') wr WC := S0.mono (by simp)
              iterate 5 (refine tree_take (v := ?_) rfl rfl rfl S1 (fun w hS => ?_) ?_; rotate_left; (focus (clear hS; go_simp; rfl)); simp only [List.setIfInBounds_toArray, List.set_cons_succ, List.set_cons_zero])
              (refine tree_take (v := ?_) rfl rfl rfl S1 (fun w hS => ?_) ?_; rotate_left; (focus (clear hS; go_simp; rw [IntWalk.i64_in ((q : Int) + 32) (by omega)])); simp only [List.setIfInBounds_toArray, List.set_cons_succ, List.set_cons_zero])
              (refine tree_take (v := ?_) rfl rfl rfl S1 (fun w hS => ?_) ?_; rotate_left; (focus (clear hS; go_simp; rw [if_pos (by omega), if_pos (by omega), show ((q : Int) + 32).toNat = q + 32 by omega])); simp only [List.setIfInBounds_toArray, List.set_cons_succ, List.set_cons_zero])
              refine tree_one rfl rfl (fun K hK => ?_)
              go_simp
              refine (HAC.out _ S0).mono ?_
              rintro e w5 ⟨rfl, vr5, h5, u5⟩
              have S5 := S1.trans u5.fr
              refine hK _ _ S5 ?_
              clear hK K HAC
              have HU5 : Hid (Upd (tpB b vr) (tpB b vr5) w w5) := Lib.hid (HU.out.trans ⟨S5, fun k hk => (u5.sub k hk).imp id (fun h => Nat.le_trans S0.size h)⟩)
              have HT5 := Lib.hid h5
              clear u5 h5 S0
              try simp only
              (refine tree_take (v := ?_) rfl rfl rfl S5 (fun w hS => ?_) ?_; rotate_left; (focus (clear hS; go_simp; rfl)); simp only [List.setIfInBounds_toArray, List.set_cons_succ, List.set_cons_zero])
              refine tree_last rfl rfl (fun K hK => ?_)
              go_simp
              by_cases hm : recL hd (str r) = ((bts s).drop sz).take (q + 32 - sz)
              · have hbe : ((str (recL hd (str r))).toList == (s.extract sz (q + 32)).toList) = true := by rw [extract_str, ← hm]; exact beq_self_eq_true _
                have HE : Shut (ldM (bts s) g (Tp.add ⟨rs, hd, sz⟩ (str r)) = O) := ⟨by rw [← HL4.out, if_pos hm]⟩
                have HA : Shut (Tp.add ⟨rs, hd, sz⟩ (str r) = ⟨rs ++ [str r], chainM hd (str r), sz + (recL hd (str r)).length⟩) := ⟨rfl⟩
                have hlr : (recL hd (str r)).length = q + 32 - sz := by rw [hm, List.length_take, List.length_drop, bts_len]; omega
                rw [hbe]
                refine (check_ok _).mono ?_
                rintro e w9 ⟨rfl, rfl⟩
                refine hK _ _ ?_
                clear hK K hbe hm HL4
                have z5 := szOf_at (cell_of_blk HT5.out.blk 2)
                have zr := szOf_at (cell_of_blk H1.out.blk 2)
                have HZ5 := Lib.hid z5; have HZR := Lib.hid zr
                clear z5 zr
                go_wp2_with fail
                go_roundw
                case rel => exact ⟨_, vr5, g, HT5, HU5, ⟨by rw [HA.out]; exact chainM_size _ _⟩, by rw [HA.out]; simp; omega, by rw [HA.out]; simp only; omega, by rw [HA.out]; simp only; omega, HE⟩
                case measure =>
                  rw [HZR.out, HZ5.out, HA.out]
                  simp only
                  omega
              · have hbe : ((str (recL hd (str r))).toList == (s.extract sz (q + 32)).toList) = false := by
                  rw [extract_str, beq_eq_false_iff_ne, ByteArray.toList_eq, ByteArray.toList_eq]
                  exact hm
                have HE : Shut (O = none) := ⟨by rw [← HL4.out, if_neg hm]⟩
                rw [hbe]
                have hgr : 0 ∉ tpB b vr' := fun hm => by
                  rcases HU.out.sub _ hm with h | h
                  · exact (HG.out _ h).2 rfl
                  · omega
                refine (check_bad a _ (HDm.out.fr S5 hgr)).mono ?_
                rintro e w9 ⟨rfl, rfl⟩
                refine ⟨rfl, ?_⟩
                rw [HE.out]
                exact ⟨rfl, _, HU5.out⟩
        · have hb1 : ((s[sz].toNat : Int) == 1) = false := by
            rw [beq_eq_false_iff_ne]
            intro e
            apply h1
            rw [← UInt8.toNat_inj]
            simp; omega
          have HE : Shut (O = none) := ⟨by rw [← HL2.out, if_neg h0, if_pos h1]⟩
          clear h0 h1
          go_wp2_with fail
          refine (check_bad a _ HDm.out).mono ?_
          rintro e w9 ⟨rfl, rfl⟩
          go_wp2_with fail
          refine ⟨rfl, ?_⟩
          rw [HE.out]
          exact ⟨rfl, _, HU.out⟩
    · have HE : Shut (O = some ⟨rs, hd, sz⟩) := ⟨by
        have := HL.out
        rw [ldM] at this
        simp only [List.getElem?_eq_none (show (bts s).length ≤ sz by rw [bts_len]; omega)] at this
        exact this.symm⟩
      clear HL
      go_wp2_with fail
      go_end0
      rw [HE.out]
      exact ⟨rfl, vr', H1.out, HU.out⟩

end Go.Proofs.YtbogljpafpkikaaGreatDoor
