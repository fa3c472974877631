/-
  The walks of package disk, fourth part: settle, Sync.
-/
import Derived.Test.YtanjjgodlgmfcaaDkW3
namespace Go.Proofs.Ytanjjgodlgmfcaa
open Go.RowKit Go.Lib

theorem zeroW (w : World) : (zeroValue 69).run Try.prog w = .ok (.agg #[.int .i64 0, .string ⟨#[]⟩]) w := by kernel_rfl

/-- What settle leaves: the bytes copied, no pending writes. -/
def Settled (b gd : Nat) (ls : List UInt8) (pv : Value) (st : Array Value) (w : World) (e : Ending) (w' : World) : Prop :=
  e = .returned (.tuple #[]) ∧ ∃ pv', Fr (b :: gd :: pv.ownBlock.toList) w w' ∧ BytesAt w' gd 5 ls ∧ w'.ownsRow 0 69 2 pv' 0 [] ∧ pv'.ownBlock = pv.ownBlock ∧
    w'.heap[b]? = some (.cells (st.setIfInBounds 4 pv') 65 (0, 0))

set_option maxRecDepth 100000 in
set_option maxHeartbeats 800000 in
theorem settle_nil (b gs gd n : Nat) (ls ld : List UInt8) (st : Array Value) (w : World) (hst : w.heap[b]? = some (.cells st 65 (0, 0))) (h4 : st[4]? = some (.slice none 0 0)) (hs : BytesAt w gs 5 ls) (hd : BytesAt w gd 5 ld) (hls : ls.length = n) (hld : ld.length = n) (hne : b ≠ gd) :
    Calls Try.prog 37 #[.pointer (some ⟨b, 0, none⟩), .slice (some ⟨gs, 0, none⟩) n n, .slice (some ⟨gd, 0, none⟩) n n] w (Settled b gd ls (.slice none 0 0) st w) := by
  have Hs := Lib.hid hs; have Hd := Lib.hid hd; have Hls := Lib.hid hls; have Hld := Lib.hid hld
  have Hst := Lib.hid hst; have H4 := Lib.hid h4
  clear hs hd hls hld hst h4
  go_enter Try.func37, Try.ntmps37
  go_wp2_with (first | ((with_reducible refine wpList_of_wp (o := ⟨some 8, _, _, _, _, _⟩) rfl (fun K hK => ?_)); refine (wp_copy_bytes (.tmp 6) (.tmp 7) 40 40 5 rfl Try.underlying40 infoU8 gd gs n n n ld ls 5 rfl rfl Hd.out Hs.out Hld.out Hls.out (fun w1 f1 s1 b1 => hK _ _ ?_)); clear hK K s1; have K1 := Lib.hid (f1.keep Hst.out (by simpa using hne)); have c4 : w1.cell? ⟨b, 4, none⟩ = some (.slice none 0 0) := (cell_of_blk K1.out 4).trans H4.out; have z4 := free_of_blk K1.out 4) | ((with_reducible refine wpList_of_wp (o := ⟨none, .call _, _, _, _, _⟩) rfl (fun K hK => ?_)); refine wp_clear_nil (.tmp 12) 63 69 rfl Try.underlying63 rfl (hK _ _ ?_)))
  go_end0
  refine ⟨rfl, .slice none 0 0, ?_, ?_, ⟨rfl, .inl ⟨rfl, rfl⟩⟩, rfl, heap_setCell_same _ K1.out⟩
  · exact (f1.mono (by simp)).trans (Fr.setCell _ _ (by simp))
  · exact heap_setCell_other _ b1 hne.symm

set_option maxRecDepth 100000 in
set_option maxHeartbeats 800000 in
theorem settle_some (b gs gd n g k cap : Nat) (cur : Array Value) (ls ld : List UInt8) (st : Array Value) (w : World) (hst : w.heap[b]? = some (.cells st 65 (0, 0))) (h4 : st[4]? = some (.slice (some ⟨g, 0, none⟩) k cap)) (hs : BytesAt w gs 5 ls) (hd : BytesAt w gd 5 ld) (hls : ls.length = n) (hld : ld.length = n) (hne : b ≠ gd)
    (hg : w.heap[g]? = some (.cells cur 69 (0, 0))) (hk : k ≤ cap) (hcap : cap ≤ maxLen) (hcur : cur.size = cap * 2) (hg1 : g ≠ b) (hg2 : g ≠ gd) :
    Calls Try.prog 37 #[.pointer (some ⟨b, 0, none⟩), .slice (some ⟨gs, 0, none⟩) n n, .slice (some ⟨gd, 0, none⟩) n n] w (Settled b gd ls (.slice (some ⟨g, 0, none⟩) k cap) st w) := by
  have Hs := Lib.hid hs; have Hd := Lib.hid hd; have Hls := Lib.hid hls; have Hld := Lib.hid hld
  have Hst := Lib.hid hst; have H4 := Lib.hid h4; have Hg := Lib.hid hg; have Hcur := Lib.hid hcur; have Hcap := Lib.hid hcap
  clear hs hd hls hld hst h4 hg hcur hcap
  go_enter Try.func37, Try.ntmps37
  go_wp2_with (first | ((with_reducible refine wpList_of_wp (o := ⟨some 8, _, _, _, _, _⟩) rfl (fun K hK => ?_)); refine (wp_copy_bytes (.tmp 6) (.tmp 7) 40 40 5 rfl Try.underlying40 infoU8 gd gs n n n ld ls 5 rfl rfl Hd.out Hs.out Hld.out Hls.out (fun w1 f1 s1 b1 => hK _ _ ?_)); clear hK K s1; have K1 := Lib.hid (f1.keep Hst.out (by simpa using hne)); have KG := Lib.hid (f1.keep Hg.out (by simpa using hg2)); have c4 : w1.cell? ⟨b, 4, none⟩ = some (.slice (some ⟨g, 0, none⟩) k cap) := (cell_of_blk K1.out 4).trans H4.out) | ((with_reducible refine wpList_of_wp (o := ⟨none, .call _, _, _, _, _⟩) rfl (fun K hK => ?_)); refine (wp_clear_blk (.tmp 12) 63 69 _ rfl Try.underlying63 zeroW (by simp [Value.cells, Value.oneCell']) g k cap cur 69 rfl KG.out (by rw [Hcur.out]; simp [Value.cells]; omega) (by simp [Value.cells]) (fun cs hcs => hK _ _ ?_)); clear hK K; have K2 := Lib.hid ((setRow_other w1 g b cs (Ne.symm hg1)).trans K1.out); have c4' : (w1.setRow g cs).cell? ⟨b, 4, none⟩ = some (.slice (some ⟨g, 0, none⟩) k cap) := (cell_of_blk K2.out 4).trans H4.out; have z4 := free_of_blk K2.out 4; clear c4; have Hcs := Lib.hid hcs; clear hcs))
  go_end0
  refine ⟨rfl, .slice (some ⟨g, 0, none⟩) 0 cap, ?_, ?_, ⟨rfl, .inr ⟨g, cap, cs, rfl, Nat.zero_le _, ?_, Nat.zero_le _, Hcap.out, by rw [Hcs.out, Hcur.out], by simp⟩⟩, rfl, heap_setCell_same _ K2.out⟩
  · exact ((f1.mono (by simp)).trans (Fr.setRow _ _ (by simp [Value.ownBlock]))).trans (Fr.setCell _ _ (by simp))
  · exact heap_setCell_other _ ((setRow_other _ _ _ _ (Ne.symm hg2)).trans b1) hne.symm
  · exact heap_setCell_other _ (setRow_heap _ _ _ _ _ _ KG.out) hg1

theorem settle_any (b gs gd n k : Nat) (pv : Value) (xs : List Value) (ls ld : List UInt8) (st : Array Value) (w : World) (hst : w.heap[b]? = some (.cells st 65 (0, 0))) (h4 : st[4]? = some pv) (hs : BytesAt w gs 5 ls) (hd : BytesAt w gd 5 ld) (hls : ls.length = n) (hld : ld.length = n) (hne : b ≠ gd)
    (hp : w.ownsRow 0 69 2 pv k xs) (hg : ∀ g, pv.ownBlock = some g → g ≠ b ∧ g ≠ gd) :
    Calls Try.prog 37 #[.pointer (some ⟨b, 0, none⟩), .slice (some ⟨gs, 0, none⟩) n n, .slice (some ⟨gd, 0, none⟩) n n] w (Settled b gd ls pv st w) := by
  rcases hp.2 with ⟨rfl, _⟩ | ⟨g, cap, cur, rfl, _, hh, h1, h2, h3, _⟩
  · exact settle_nil b gs gd n ls ld st w hst h4 hs hd hls hld hne
  · exact settle_some b gs gd n g k cap cur ls ld st w hst h4 hs hd hls hld hne hh h1 h2 h3 (hg g rfl).1 (hg g rfl).2

theorem settle_dur (b bd bv : Nat) (pv : Value) (D : Dk) (w : World) (h : DkI w b bd bv pv D) :
    Calls Try.prog 37 #[.pointer (some ⟨b, 0, none⟩), .slice (some ⟨bv, 0, none⟩) D.dur.length D.dur.length, .slice (some ⟨bd, 0, none⟩) D.dur.length D.dur.length] w fun e w' =>
      e = .returned (.tuple #[]) ∧ ∃ pv', DkI w' b bd bv pv' D.sync ∧ pv'.ownBlock = pv.ownBlock ∧ Fr (b :: bd :: bv :: pv.ownBlock.toList) w w' := by
  refine (settle_any b bv bd _ _ pv _ D.vis D.dur _ w h.str rfl h.vis h.dur h.ok.len rfl h.ne1 h.pend (fun g hg => ⟨(h.nep g hg).1, (h.nep g hg).2.1⟩)).mono ?_
  rintro e w' ⟨rfl, pv', hf, hb, hp, ho, hs⟩
  refine ⟨rfl, pv', ⟨⟨rfl, ?_, ?_, h.ok.left, ?_⟩, ?_, hb, ?_, hp, h.ne1, h.ne2, h.ne3, by rw [ho]; exact h.nep⟩, ho, hf.mono (fun i hi => by simp only [List.mem_cons] at hi ⊢; rcases hi with h | h | h <;> simp [h])⟩
  · simpa [Dk.sync, h.ok.len] using h.ok.pos
  · simpa [Dk.sync, h.ok.len] using h.ok.max
  · simp [Dk.sync]
  · rw [hs]; simp [Dk.sync, h.ok.len]
  · exact hf.keep h.vis (by
      simp only [List.mem_cons, Option.mem_toList, not_or]
      exact ⟨h.ne2.symm, h.ne3.symm, fun hg => (h.nep bv hg).2.2 rfl⟩)

theorem settle_vis (b bd bv : Nat) (pv : Value) (D : Dk) (w : World) (h : DkI w b bd bv pv D) :
    Calls Try.prog 37 #[.pointer (some ⟨b, 0, none⟩), .slice (some ⟨bd, 0, none⟩) D.dur.length D.dur.length, .slice (some ⟨bv, 0, none⟩) D.dur.length D.dur.length] w fun e w' =>
      e = .returned (.tuple #[]) ∧ ∃ pv', DkI w' b bd bv pv' { D with vis := D.dur, pend := [] } ∧ pv'.ownBlock = pv.ownBlock ∧ Fr (b :: bd :: bv :: pv.ownBlock.toList) w w' := by
  refine (settle_any b bd bv _ _ pv _ D.dur D.vis _ w h.str rfl h.dur h.vis rfl h.ok.len h.ne2 h.pend (fun g hg => ⟨(h.nep g hg).1, (h.nep g hg).2.2⟩)).mono ?_
  rintro e w' ⟨rfl, pv', hf, hb, hp, ho, hs⟩
  refine ⟨rfl, pv', ⟨⟨rfl, h.ok.pos, h.ok.max, h.ok.left, by simp⟩, ?_, ?_, hb, hp, h.ne1, h.ne2, h.ne3, by rw [ho]; exact h.nep⟩, ho, hf.mono (fun i hi => by simp only [List.mem_cons] at hi ⊢; rcases hi with h | h | h <;> simp [h])⟩
  · rw [hs]; simp
  · exact hf.keep h.dur (by
      simp only [List.mem_cons, Option.mem_toList, not_or]
      exact ⟨h.ne1.symm, h.ne3, fun hg => (h.nep bd hg).2.1 rfl⟩)

end Go.Proofs.Ytanjjgodlgmfcaa
