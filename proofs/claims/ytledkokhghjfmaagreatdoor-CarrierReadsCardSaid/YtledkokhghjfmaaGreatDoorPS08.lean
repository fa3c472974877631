/-
  digest: schedule.
-/
import Derived.Test.YtledkokhghjfmaaGreatDoorPS03
import Derived.Test.YtledkokhghjfmaaGreatDoorPS07
import Derived.Deep.CutBlock
import Derived.Deep.DeepCutAuto
import Derived.Handy
import Derived.Laws.CopyRow
import Derived.Lib.SlBuf
namespace Go.Proofs.YtledkokhghjfmaaGreatDoor
section
open Go.RowKit Go.Lib
theorem by_cell {w:World} {b off cap n:Nat} {l:List Int} (h:Sl w (.slice (some ⟨b,off,none⟩) n cap) n (u8C l)) (hn:0 < n) {j:Nat} (hj:j < l.length):w.cell? ⟨b,off+j,none⟩=some (.int .u8 (l.getD j 0)):=by
 obtain ⟨b',off',hv,hc⟩:=h.at_ hn
 cases hv
 exact hc j _ (by simp [hj])
theorem results_w64 {tmps:Array Value} {W:World} {b:Nat} {C:Array Value} (hi:(Tryz.prog.info? 329).map (·.size)=some C.size) (h:tmps.getD 2 undef=.pointer (some ⟨b,0,none⟩)) (hg:W.heap[b]?=some (.cells C 329 (0,0))):(results Tryz.f203 tmps).run Tryz.prog W=.ok (.agg C) W:=by
 have h':tmps[2]?.getD undef=.pointer (some ⟨b,0,none⟩):=by rw [← h,Array.getD_eq_getD_getElem?]
 simp only [results,Tryz.results203]
 simp [h',asAddr,run_loadVar_row (P:=Tryz.prog) W b 329 329 C (0,0) _ hg Tryz.underlying329 rfl hi]
theorem noPanicN {Q:Exit→Act→World→Prop} {a:Act} {w:World} (h:Q .normal a w):NoPanic Q .normal a w:=h
theorem set_at {L:List Int} {x:Int} {k n:Nat} (h:L.length=k) (hk:k < n):(L++List.replicate (n - k) 0).set k x=(L++[x])++List.replicate (n - (k+1)) 0:=by
 rw [List.set_append_right _ _ (by omega),h,Nat.sub_self,show n - k=(n - (k+1))+1 by omega,List.replicate_succ,qx,List.append_assoc]
 rfl
theorem idx_arr {P:Prop} {_:Decidable P} {w:World} {b k m:Nat} {R:Result Next} (hp:P) (hi:m=k):(if P then Result.ok (Next.value (Value.pointer (some ⟨b,m,none⟩))) w else R)=.ok (Next.value (.pointer (some ⟨b,k,none⟩))) w:=by
 subst hi
 rw [if_pos hp]
theorem ints_new {W:World} (l:List Int) (hl:l.length≤9223372036854775807):IntsAt (W.alloc (.cells (intC l).toArray 3)) (.slice (some ⟨W.heap.size,0,none⟩) l.length l.length) l:=by
 refine ⟨_,_,rfl,Nat.le_refl _,hl,fun _=>⟨_,0,rfl,fun j u hu=>?_⟩⟩
 rw [qd (qm _ _),Nat.zero_add]
 simpa using hu
theorem getD_pre {L:List Int} {k n j:Nat} (h:L.length=k) (hj:j < k):(L++List.replicate n 0).getD j 0=L.getD j 0:=by
 rw [List.getD_eq_getElem?_getD,List.getElem?_append_left (by omega),List.getD_eq_getElem?_getD]
theorem idx_ok {w:World} {b off k:Nat} {i N:Int} {R:Result Next} (hi:i=k) (hk:(k:Int) < N):(if 0≤i∧i < N then Result.ok (Next.value (Value.pointer (some ⟨b,off+i.toNat,none⟩))) w else R)=.ok (Next.value (.pointer (some ⟨b,off+k,none⟩))) w:=by
 subst hi
 rw [if_pos ⟨by omega,hk⟩,Int.toNat_natCast]
set_option maxRecDepth 1000000 in
set_option maxHeartbeats 4000000 in
theorem sched_c (v:Value) (l:List Int) (w:World) (h:ByAt w v l) (hl:l.length=64):Calls Tryz.prog 203 #[v] w fun e w'=>e=.returned (.agg (u32A (sch l 64)))∧Fr [] w w':=by
 obtain ⟨a,p,rfl⟩:=h.val
 obtain ⟨b,off,rfl,_⟩:=h.at_ (by omega)
 have h2:Sl w (.slice (some ⟨b,off,none⟩) 64 p) 64 (u8C l):=by rw [← hl];exact h
 have H:=qj h2
 rw [hl]
 clear h2
 have HL:=qj hl
 clear h hl
 go_enter Tryz.func203,Tryz.ntmps203
 go_upto_block 0 with fail
 have hA:=qm w (.cells (u32A (List.replicate 64 0)) 329)
 have FA:=Fr.alloc [] w (.cells (u32A (List.replicate 64 0)) 329)
 change Code.wp _ _ _ _ (w.alloc (.cells (u32A (List.replicate 64 0)) 329))
 generalize w.alloc (.cells (u32A (List.replicate 64 0)) 329)=WA at *
 obtain ⟨B,hB⟩:∃ B,B=w.heap.size:=⟨_,rfl⟩
 rw [← hB] at hA ⊢
 have HA:=qj hA;have HF:=qj FA;have HBn:=qj (Nat.le_of_eq hB.symm)
 clear hA FA hB
 go_cut [] (fun W=>Hid (Fr [] w W)∧Hid (W.heap[B]?=some (.cells (u32A (sch l 16++List.replicate 48 0)) 329 (0,0))))
 case first =>
  go_wp2_with fail
  go_loopw [7] (fun i wr=>∃ k:Nat,k≤16∧i=.int .i64 k∧Hid (Fr [] w wr)∧Hid (wr.heap[B]?=some (.cells (u32A (sch l k++List.replicate (64 - k) 0)) 329 (0,0)))) (fun i _=>16 - (RowKit.intOf i).toNat)
  case atStart=>exact ⟨0,by omega,rfl,HF,HA⟩
  case round =>
   obtain ⟨k,hk,rfl,H1,H2⟩:=hrel
   by_cases hlt:k < 16
   ·have HS:=qj (H.out.same H1.out)
    have c0:wr.cell? ⟨b,off+4*k,none⟩=some (.int .u8 (l.getD (4*k) 0)):=by_cell (n:=64) (l:=l) HS.out (by omega) (j:=4*k) (by rw [HL.out];omega)
    have c1:wr.cell? ⟨b,off+(4*k+1),none⟩=some (.int .u8 (l.getD (4*k+1) 0)):=by_cell (n:=64) (l:=l) HS.out (by omega) (j:=4*k+1) (by rw [HL.out];omega)
    have c2:wr.cell? ⟨b,off+(4*k+2),none⟩=some (.int .u8 (l.getD (4*k+2) 0)):=by_cell (n:=64) (l:=l) HS.out (by omega) (j:=4*k+2) (by rw [HL.out];omega)
    have c3:wr.cell? ⟨b,off+(4*k+3),none⟩=some (.int .u8 (l.getD (4*k+3) 0)):=by_cell (n:=64) (l:=l) HS.out (by omega) (j:=4*k+3) (by rw [HL.out];omega)
    have HT:Hid (sch l (k+1)=sch l k++[word4 (l.getD (4*k) 0) (l.getD (4*k+1) 0) (l.getD (4*k+2) 0) (l.getD (4*k+3) 0)]):=qj (by rw [sch,if_pos hlt])
    generalize l.getD (4*k) 0=x0 at *
    generalize l.getD (4*k+1) 0=x1 at *
    generalize l.getD (4*k+2) 0=x2 at *
    generalize l.getD (4*k+3) 0=x3 at *
    go_wp2_with fail
    refine reg_tree (Fr [] wr) 35 (.take 0 (.take 1 (.take 2 (.take 3 (.take 4 (.take 5 (.take 6 (.take 7 (.take 8 (.take 9 (.take 10 (.take 11 (.take 12 (.take 13 (.take 14 (.take 15 (.take 16 (.take 17 (.take 18 (.take 19 (.take 20 (.take 21 (.take 22 (.take 23 (.take 24 (.take 25 (.take 26 (.take 27 (.take 28 (.take 29 (.take 30 (.take 31 (.take 32 (.take 33 (.take 34 (.one 35 .nil)))))))))))))))))))))))))))))))))))) (by kernel_rfl) (by kernel_rfl) (by kernel_rfl) rfl ?_
    have S0:Fr [] wr wr.drew:=Fr.drew _ _
    generalize wr.drew=WC at S0 ⊢
    (refine tree_take (v:=?_) rfl rfl rfl S0 (fun w hS=>?_) ?_;rotate_left;(focus (have c0':=hS.cel c0 (by simp);have c1':=hS.cel c1 (by simp);have c2':=hS.cel c2 (by simp);have c3':=hS.cel c3 (by simp);clear hS;go_simp;rfl));simp only [qu,qv,qx])
    (refine tree_take (v:=?_) rfl rfl rfl S0 (fun w hS=>?_) ?_;rotate_left;(focus (have c0':=hS.cel c0 (by simp);have c1':=hS.cel c1 (by simp);have c2':=hS.cel c2 (by simp);have c3':=hS.cel c3 (by simp);clear hS;go_simp;rfl));simp only [qu,qv,qx])
    (refine tree_take (v:=?_) rfl rfl rfl S0 (fun w hS=>?_) ?_;rotate_left;(focus (have c0':=hS.cel c0 (by simp);have c1':=hS.cel c1 (by simp);have c2':=hS.cel c2 (by simp);have c3':=hS.cel c3 (by simp);clear hS;go_simp;rfl));simp only [qu,qv,qx])
    (refine tree_take (v:=?_) rfl rfl rfl S0 (fun w hS=>?_) ?_;rotate_left;(focus (have c0':=hS.cel c0 (by simp);have c1':=hS.cel c1 (by simp);have c2':=hS.cel c2 (by simp);have c3':=hS.cel c3 (by simp);clear hS;go_simp;rw [IntWalk.i64_in (4*(k:Int)) (by omega)]));simp only [qu,qv,qx])
    (refine tree_take (v:=?_) rfl rfl rfl S0 (fun w hS=>?_) ?_;rotate_left;(focus (have c0':=hS.cel c0 (by simp);have c1':=hS.cel c1 (by simp);have c2':=hS.cel c2 (by simp);have c3':=hS.cel c3 (by simp);clear hS;go_simp;refine idx_ok (k:=4*k) ?_ ?_ <;> omega));simp only [qu,qv,qx])
    (refine tree_take (v:=?_) rfl rfl rfl S0 (fun w hS=>?_) ?_;rotate_left;(focus (have c0':=hS.cel c0 (by simp);have c1':=hS.cel c1 (by simp);have c2':=hS.cel c2 (by simp);have c3':=hS.cel c3 (by simp);clear hS;go_simp;rfl));simp only [qu,qv,qx])
    (refine tree_take (v:=?_) rfl rfl rfl S0 (fun w hS=>?_) ?_;rotate_left;(focus (have c0':=hS.cel c0 (by simp);have c1':=hS.cel c1 (by simp);have c2':=hS.cel c2 (by simp);have c3':=hS.cel c3 (by simp);clear hS;go_simp;rfl));simp only [qu,qv,qx])
    (refine tree_take (v:=?_) rfl rfl rfl S0 (fun w hS=>?_) ?_;rotate_left;(focus (have c0':=hS.cel c0 (by simp);have c1':=hS.cel c1 (by simp);have c2':=hS.cel c2 (by simp);have c3':=hS.cel c3 (by simp);clear hS;go_simp;rfl));simp only [qu,qv,qx])
    (refine tree_take (v:=?_) rfl rfl rfl S0 (fun w hS=>?_) ?_;rotate_left;(focus (have c0':=hS.cel c0 (by simp);have c1':=hS.cel c1 (by simp);have c2':=hS.cel c2 (by simp);have c3':=hS.cel c3 (by simp);clear hS;go_simp;rfl));simp only [qu,qv,qx])
    (refine tree_take (v:=?_) rfl rfl rfl S0 (fun w hS=>?_) ?_;rotate_left;(focus (have c0':=hS.cel c0 (by simp);have c1':=hS.cel c1 (by simp);have c2':=hS.cel c2 (by simp);have c3':=hS.cel c3 (by simp);clear hS;go_simp;rfl));simp only [qu,qv,qx])
    (refine tree_take (v:=?_) rfl rfl rfl S0 (fun w hS=>?_) ?_;rotate_left;(focus (have c0':=hS.cel c0 (by simp);have c1':=hS.cel c1 (by simp);have c2':=hS.cel c2 (by simp);have c3':=hS.cel c3 (by simp);clear hS;go_simp;rw [IntWalk.i64_in (4*(k:Int)) (by omega)]));simp only [qu,qv,qx])
    (refine tree_take (v:=?_) rfl rfl rfl S0 (fun w hS=>?_) ?_;rotate_left;(focus (have c0':=hS.cel c0 (by simp);have c1':=hS.cel c1 (by simp);have c2':=hS.cel c2 (by simp);have c3':=hS.cel c3 (by simp);clear hS;go_simp;rw [IntWalk.i64_in (4*(k:Int)+1) (by omega)]));simp only [qu,qv,qx])
    (refine tree_take (v:=?_) rfl rfl rfl S0 (fun w hS=>?_) ?_;rotate_left;(focus (have c0':=hS.cel c0 (by simp);have c1':=hS.cel c1 (by simp);have c2':=hS.cel c2 (by simp);have c3':=hS.cel c3 (by simp);clear hS;go_simp;refine idx_ok (k:=4*k+1) ?_ ?_ <;> omega));simp only [qu,qv,qx])
    (refine tree_take (v:=?_) rfl rfl rfl S0 (fun w hS=>?_) ?_;rotate_left;(focus (have c0':=hS.cel c0 (by simp);have c1':=hS.cel c1 (by simp);have c2':=hS.cel c2 (by simp);have c3':=hS.cel c3 (by simp);clear hS;go_simp;rfl));simp only [qu,qv,qx])
    (refine tree_take (v:=?_) rfl rfl rfl S0 (fun w hS=>?_) ?_;rotate_left;(focus (have c0':=hS.cel c0 (by simp);have c1':=hS.cel c1 (by simp);have c2':=hS.cel c2 (by simp);have c3':=hS.cel c3 (by simp);clear hS;go_simp;rfl));simp only [qu,qv,qx])
    (refine tree_take (v:=?_) rfl rfl rfl S0 (fun w hS=>?_) ?_;rotate_left;(focus (have c0':=hS.cel c0 (by simp);have c1':=hS.cel c1 (by simp);have c2':=hS.cel c2 (by simp);have c3':=hS.cel c3 (by simp);clear hS;go_simp;rfl));simp only [qu,qv,qx])
    (refine tree_take (v:=?_) rfl rfl rfl S0 (fun w hS=>?_) ?_;rotate_left;(focus (have c0':=hS.cel c0 (by simp);have c1':=hS.cel c1 (by simp);have c2':=hS.cel c2 (by simp);have c3':=hS.cel c3 (by simp);clear hS;go_simp;rfl));simp only [qu,qv,qx])
    (refine tree_take (v:=?_) rfl rfl rfl S0 (fun w hS=>?_) ?_;rotate_left;(focus (have c0':=hS.cel c0 (by simp);have c1':=hS.cel c1 (by simp);have c2':=hS.cel c2 (by simp);have c3':=hS.cel c3 (by simp);clear hS;go_simp;rfl));simp only [qu,qv,qx])
    (refine tree_take (v:=?_) rfl rfl rfl S0 (fun w hS=>?_) ?_;rotate_left;(focus (have c0':=hS.cel c0 (by simp);have c1':=hS.cel c1 (by simp);have c2':=hS.cel c2 (by simp);have c3':=hS.cel c3 (by simp);clear hS;go_simp;rfl));simp only [qu,qv,qx])
    (refine tree_take (v:=?_) rfl rfl rfl S0 (fun w hS=>?_) ?_;rotate_left;(focus (have c0':=hS.cel c0 (by simp);have c1':=hS.cel c1 (by simp);have c2':=hS.cel c2 (by simp);have c3':=hS.cel c3 (by simp);clear hS;go_simp;rw [IntWalk.i64_in (4*(k:Int)) (by omega)]));simp only [qu,qv,qx])
    (refine tree_take (v:=?_) rfl rfl rfl S0 (fun w hS=>?_) ?_;rotate_left;(focus (have c0':=hS.cel c0 (by simp);have c1':=hS.cel c1 (by simp);have c2':=hS.cel c2 (by simp);have c3':=hS.cel c3 (by simp);clear hS;go_simp;rw [IntWalk.i64_in (4*(k:Int)+2) (by omega)]));simp only [qu,qv,qx])
    (refine tree_take (v:=?_) rfl rfl rfl S0 (fun w hS=>?_) ?_;rotate_left;(focus (have c0':=hS.cel c0 (by simp);have c1':=hS.cel c1 (by simp);have c2':=hS.cel c2 (by simp);have c3':=hS.cel c3 (by simp);clear hS;go_simp;refine idx_ok (k:=4*k+2) ?_ ?_ <;> omega));simp only [qu,qv,qx])
    (refine tree_take (v:=?_) rfl rfl rfl S0 (fun w hS=>?_) ?_;rotate_left;(focus (have c0':=hS.cel c0 (by simp);have c1':=hS.cel c1 (by simp);have c2':=hS.cel c2 (by simp);have c3':=hS.cel c3 (by simp);clear hS;go_simp;rfl));simp only [qu,qv,qx])
    (refine tree_take (v:=?_) rfl rfl rfl S0 (fun w hS=>?_) ?_;rotate_left;(focus (have c0':=hS.cel c0 (by simp);have c1':=hS.cel c1 (by simp);have c2':=hS.cel c2 (by simp);have c3':=hS.cel c3 (by simp);clear hS;go_simp;rfl));simp only [qu,qv,qx])
    (refine tree_take (v:=?_) rfl rfl rfl S0 (fun w hS=>?_) ?_;rotate_left;(focus (have c0':=hS.cel c0 (by simp);have c1':=hS.cel c1 (by simp);have c2':=hS.cel c2 (by simp);have c3':=hS.cel c3 (by simp);clear hS;go_simp;rfl));simp only [qu,qv,qx])
    (refine tree_take (v:=?_) rfl rfl rfl S0 (fun w hS=>?_) ?_;rotate_left;(focus (have c0':=hS.cel c0 (by simp);have c1':=hS.cel c1 (by simp);have c2':=hS.cel c2 (by simp);have c3':=hS.cel c3 (by simp);clear hS;go_simp;rfl));simp only [qu,qv,qx])
    (refine tree_take (v:=?_) rfl rfl rfl S0 (fun w hS=>?_) ?_;rotate_left;(focus (have c0':=hS.cel c0 (by simp);have c1':=hS.cel c1 (by simp);have c2':=hS.cel c2 (by simp);have c3':=hS.cel c3 (by simp);clear hS;go_simp;rfl));simp only [qu,qv,qx])
    (refine tree_take (v:=?_) rfl rfl rfl S0 (fun w hS=>?_) ?_;rotate_left;(focus (have c0':=hS.cel c0 (by simp);have c1':=hS.cel c1 (by simp);have c2':=hS.cel c2 (by simp);have c3':=hS.cel c3 (by simp);clear hS;go_simp;rfl));simp only [qu,qv,qx])
    (refine tree_take (v:=?_) rfl rfl rfl S0 (fun w hS=>?_) ?_;rotate_left;(focus (have c0':=hS.cel c0 (by simp);have c1':=hS.cel c1 (by simp);have c2':=hS.cel c2 (by simp);have c3':=hS.cel c3 (by simp);clear hS;go_simp;rw [IntWalk.i64_in (4*(k:Int)) (by omega)]));simp only [qu,qv,qx])
    (refine tree_take (v:=?_) rfl rfl rfl S0 (fun w hS=>?_) ?_;rotate_left;(focus (have c0':=hS.cel c0 (by simp);have c1':=hS.cel c1 (by simp);have c2':=hS.cel c2 (by simp);have c3':=hS.cel c3 (by simp);clear hS;go_simp;rw [IntWalk.i64_in (4*(k:Int)+3) (by omega)]));simp only [qu,qv,qx])
    (refine tree_take (v:=?_) rfl rfl rfl S0 (fun w hS=>?_) ?_;rotate_left;(focus (have c0':=hS.cel c0 (by simp);have c1':=hS.cel c1 (by simp);have c2':=hS.cel c2 (by simp);have c3':=hS.cel c3 (by simp);clear hS;go_simp;refine idx_ok (k:=4*k+3) ?_ ?_ <;> omega));simp only [qu,qv,qx])
    (refine tree_take (v:=?_) rfl rfl rfl S0 (fun w hS=>?_) ?_;rotate_left;(focus (have c0':=hS.cel c0 (by simp);have c1':=hS.cel c1 (by simp);have c2':=hS.cel c2 (by simp);have c3':=hS.cel c3 (by simp);clear hS;go_simp;rfl));simp only [qu,qv,qx])
    (refine tree_take (v:=?_) rfl rfl rfl S0 (fun w hS=>?_) ?_;rotate_left;(focus (have c0':=hS.cel c0 (by simp);have c1':=hS.cel c1 (by simp);have c2':=hS.cel c2 (by simp);have c3':=hS.cel c3 (by simp);clear hS;go_simp;rfl));simp only [qu,qv,qx])
    (refine tree_take (v:=?_) rfl rfl rfl S0 (fun w hS=>?_) ?_;rotate_left;(focus (have c0':=hS.cel c0 (by simp);have c1':=hS.cel c1 (by simp);have c2':=hS.cel c2 (by simp);have c3':=hS.cel c3 (by simp);clear hS;go_simp;rfl));simp only [qu,qv,qx])
    (refine tree_take (v:=?_) rfl rfl rfl S0 (fun w hS=>?_) ?_;rotate_left;(focus (have c0':=hS.cel c0 (by simp);have c1':=hS.cel c1 (by simp);have c2':=hS.cel c2 (by simp);have c3':=hS.cel c3 (by simp);clear hS;go_simp;rw [if_pos (by omega)]));simp only [qu,qv,qx])
    have t0:WC.cell? ⟨B,k,none⟩=some (.int .u32 ((sch l k++List.replicate (64 - k) 0).getD k 0)):=by
     rw [qd (S0.keep H2.out (by simp)),u32A_get _ _ (by simp [sch_len];omega)]
    have t1:=ql (S0.keep H2.out (by simp)) k
    refine tree_last rfl rfl (fun K hK=>?_)
    go_simp
    try go_upon
    try go_simp
    refine hK _ _ ?_
    clear hK K
    refine noPanicN ?_
    have X1:=qs (i:=k) (.int .u32 (word4 x0 x1 x2 x3)) (S0.keep H2.out (by simp))
    rw [u32A_set,set_at (sch_len l k) (by omega),← HT.out] at X1
    have G1:=qj ((H1.out.trans S0).step (Fr.setCell (fp:=[B]) WC (p:=⟨B,k,none⟩) (.int .u32 (word4 x0 x1 x2 x3)) (by simp)) (fun i hi=>.inr (by rw [List.mem_singleton] at hi;have:=HBn.out;omega)))
    have G2:=qj X1
    clear t0 t1 X1 S0 c0 c1 c2 c3
    go_wp2_with fail
    go_roundw
    case rel=>exact ⟨k+1,by omega,by go_num,G1,G2⟩
    case measure=>simp [RowKit.intOf];omega
   ·obtain rfl:k=16:=by omega
    go_wp2_with fail
    go_meet
    case rel=>exact ⟨H1,H2⟩
 case rest =>
  obtain ⟨H1,H2⟩:=hcut
  go_wp2_with fail
  go_loopw [4] (fun i wr=>∃ k:Nat,16≤k∧k≤64∧i=.int .i64 k∧Hid (Fr [] w wr)∧Hid (wr.heap[B]?=some (.cells (u32A (sch l k++List.replicate (64 - k) 0)) 329 (0,0)))) (fun i _=>64 - (RowKit.intOf i).toNat)
  case atStart=>exact ⟨16,by omega,by omega,rfl,H1,H2⟩
  case round =>
   obtain ⟨k,hk0,hk,rfl,H1,H2⟩:=hrel
   by_cases hlt:k < 64
   ·have gc:∀ j,j < k→wr.cell? ⟨B,j,none⟩=some (.int .u32 ((sch l k).getD j 0)):=fun j hj=>by
     rw [qd H2.out,u32A_get _ _ (by simp [sch_len];omega),getD_pre (sch_len l k) hj]
    have d15:=gc (k - 15) (by omega)
    have d2:=gc (k - 2) (by omega)
    have d16:=gc (k - 16) (by omega)
    have d7:=gc (k - 7) (by omega)
    have HT:Hid (sch l (k+1)=sch l k++[ext (sch l k) k]):=qj (by rw [sch,if_neg (by omega)])
    unfold ext addI xorI at HT
    generalize (sch l k).getD (k - 15) 0=y15 at *
    generalize (sch l k).getD (k - 2) 0=y2 at *
    generalize (sch l k).getD (k - 16) 0=y16 at *
    generalize (sch l k).getD (k - 7) 0=y7 at *
    clear gc
    go_wp2_with fail
    refine reg_tree (Fr [] wr) 9 (.take 0 (.take 1 (.take 2 (.take 3 (.take 4 (.take 5 (.take 6 (.take 7 (.take 8 (.one 9 .nil)))))))))) (by kernel_rfl) (by kernel_rfl) (by kernel_rfl) rfl ?_
    have S0:Fr [] wr wr.drew:=Fr.drew _ _
    generalize wr.drew=WC at S0 ⊢
    (refine tree_take (v:=?_) rfl rfl rfl S0 (fun w hS=>?_) ?_;rotate_left;(focus (have d15':=hS.cel d15 (by simp);have d2':=hS.cel d2 (by simp);clear hS;go_simp;rfl));simp only [qu,qv,qx])
    (refine tree_take (v:=?_) rfl rfl rfl S0 (fun w hS=>?_) ?_;rotate_left;(focus (have d15':=hS.cel d15 (by simp);have d2':=hS.cel d2 (by simp);clear hS;go_simp;rw [IntWalk.i64_in ((k:Int) - 15) (by omega)]));simp only [qu,qv,qx])
    (refine tree_take (v:=?_) rfl rfl rfl S0 (fun w hS=>?_) ?_;rotate_left;(focus (have d15':=hS.cel d15 (by simp);have d2':=hS.cel d2 (by simp);clear hS;go_simp;refine idx_arr (k:=k - 15) ?_ ?_ <;> omega));simp only [qu,qv,qx])
    (refine tree_take (v:=?_) rfl rfl rfl S0 (fun w hS=>?_) ?_;rotate_left;(focus (have d15':=hS.cel d15 (by simp);have d2':=hS.cel d2 (by simp);clear hS;go_simp;rfl));simp only [qu,qv,qx])
    (refine tree_take (v:=?_) rfl rfl rfl S0 (fun w hS=>?_) ?_;rotate_left;(focus (have d15':=hS.cel d15 (by simp);have d2':=hS.cel d2 (by simp);clear hS;go_simp;rfl));simp only [qu,qv,qx])
    (refine tree_take (v:=?_) rfl rfl rfl S0 (fun w hS=>?_) ?_;rotate_left;(focus (have d15':=hS.cel d15 (by simp);have d2':=hS.cel d2 (by simp);clear hS;go_simp;rw [IntWalk.i64_in ((k:Int) - 2) (by omega)]));simp only [qu,qv,qx])
    (refine tree_take (v:=?_) rfl rfl rfl S0 (fun w hS=>?_) ?_;rotate_left;(focus (have d15':=hS.cel d15 (by simp);have d2':=hS.cel d2 (by simp);clear hS;go_simp;refine idx_arr (k:=k - 2) ?_ ?_ <;> omega));simp only [qu,qv,qx])
    (refine tree_take (v:=?_) rfl rfl rfl S0 (fun w hS=>?_) ?_;rotate_left;(focus (have d15':=hS.cel d15 (by simp);have d2':=hS.cel d2 (by simp);clear hS;go_simp;rfl));simp only [qu,qv,qx])
    (refine tree_take (v:=?_) rfl rfl rfl S0 (fun w hS=>?_) ?_;rotate_left;(focus (have d15':=hS.cel d15 (by simp);have d2':=hS.cel d2 (by simp);clear hS;go_simp;rfl));simp only [qu,qv,qx])
    refine tree_last rfl rfl (fun K hK=>?_)
    go_simp
    try go_upon
    try go_simp
    refine hK _ _ ?_
    clear hK K
    refine noPanicN ?_
    go_wp2_with fail
    refine reg_tree (Fr [] wr) 25 (.take 0 (.take 1 (.take 2 (.take 3 (.take 4 (.take 5 (.take 8 (.take 9 (.take 12 (.take 13 (.take 14 (.take 15 (.take 17 (.take 20 (.take 21 (.two 6 18 (.two 7 18 (.take 10 (.take 11 (.take 16 (.one 18 (.one 19 (.take 22 (.take 23 (.take 24 (.one 25 .nil))))))))) (.one 7 (.take 10 (.take 11 (.take 16 (.one 19 (.take 22 (.take 23 (.take 24 (.one 25 .nil)))))))))) (.one 6 (.one 7 (.take 10 (.take 11 (.take 16 (.one 19 (.take 22 (.take 23 (.take 24 (.one 25 .nil)))))))))))))))))))))))))) (by kernel_rfl) (by kernel_rfl) (by kernel_rfl) rfl ?_
    have S0:=S0.trans (Fr.drew [] WC)
    generalize WC.drew=WC2 at S0 ⊢
    (refine tree_take (v:=?_) rfl rfl rfl S0 (fun w hS=>?_) ?_;rotate_left;(focus (clear hS;go_simp;rfl));simp only [qu,qv,qx])
    (refine tree_take (v:=?_) rfl rfl rfl S0 (fun w hS=>?_) ?_;rotate_left;(focus (clear hS;go_simp;rfl));simp only [qu,qv,qx])
    (refine tree_take (v:=?_) rfl rfl rfl S0 (fun w hS=>?_) ?_;rotate_left;(focus (clear hS;go_simp;rw [IntWalk.i64_in ((k:Int) - 16) (by omega)]));simp only [qu,qv,qx])
    (refine tree_take (v:=?_) rfl rfl rfl S0 (fun w hS=>?_) ?_;rotate_left;(focus (clear hS;go_simp;refine idx_arr (k:=k - 16) ?_ ?_ <;> omega));simp only [qu,qv,qx])
    (refine tree_take (v:=?_) rfl rfl rfl S0 (fun w hS=>?_) ?_;rotate_left;(focus (have d16':=hS.cel d16 (by simp);have d7':=hS.cel d7 (by simp);clear hS;go_simp;rfl));simp only [qu,qv,qx])
    (refine tree_take (v:=?_) rfl rfl rfl S0 (fun w hS=>?_) ?_;rotate_left;(focus (clear hS;go_simp;rfl));simp only [qu,qv,qx])
    (refine tree_take (v:=?_) rfl rfl rfl S0 (fun w hS=>?_) ?_;rotate_left;(focus (clear hS;go_simp;rfl));simp only [qu,qv,qx])
    (refine tree_take (v:=?_) rfl rfl rfl S0 (fun w hS=>?_) ?_;rotate_left;(focus (clear hS;go_simp;rfl));simp only [qu,qv,qx])
    (refine tree_take (v:=?_) rfl rfl rfl S0 (fun w hS=>?_) ?_;rotate_left;(focus (clear hS;go_simp;rfl));simp only [qu,qv,qx])
    (refine tree_take (v:=?_) rfl rfl rfl S0 (fun w hS=>?_) ?_;rotate_left;(focus (clear hS;go_simp;rw [IntWalk.i64_in ((k:Int) - 7) (by omega)]));simp only [qu,qv,qx])
    (refine tree_take (v:=?_) rfl rfl rfl S0 (fun w hS=>?_) ?_;rotate_left;(focus (clear hS;go_simp;refine idx_arr (k:=k - 7) ?_ ?_ <;> omega));simp only [qu,qv,qx])
    (refine tree_take (v:=?_) rfl rfl rfl S0 (fun w hS=>?_) ?_;rotate_left;(focus (have d16':=hS.cel d16 (by simp);have d7':=hS.cel d7 (by simp);clear hS;go_simp;rfl));simp only [qu,qv,qx])
    (refine tree_take (v:=?_) rfl rfl rfl S0 (fun w hS=>?_) ?_;rotate_left;(focus (clear hS;go_simp;rfl));simp only [qu,qv,qx])
    (refine tree_take (v:=?_) rfl rfl rfl S0 (fun w hS=>?_) ?_;rotate_left;(focus (clear hS;go_simp;rfl));simp only [qu,qv,qx])
    (refine tree_take (v:=?_) rfl rfl rfl S0 (fun w hS=>?_) ?_;rotate_left;(focus (clear hS;go_simp;rfl));simp only [qu,qv,qx])
    refine ⟨?_,?_⟩
    ·skip
     refine tree_op rfl rfl (fun K hK=>?_)
     go_simp
     have A6:=ints_new (W:=WC2) [7,18] (by simp)
     have fa:=Fr.alloc [] WC2 (.cells #[.int .i64 7,.int .i64 18] 3)
     refine hK _ _ (S0.trans fa) ?_
     have S0:=S0.trans fa
     change IntsAt (WC2.alloc (.cells #[.int .i64 7,.int .i64 18] 3)) (.slice (some ⟨WC2.heap.size,0,none⟩) 2 2) _ at A6
     generalize WC2.alloc (.cells #[.int .i64 7,.int .i64 18] 3)=W6 at *
     clear fa
     clear hK K
     try simp only [Act.put,qu,qv,qx]
     refine ⟨?_,?_⟩
     ·skip
      refine tree_op rfl rfl (fun K hK=>?_)
      go_simp
      refine (mixed_c y15 _ [7,18] W6 A6 (by decide)).mono ?_
      rintro e W7 ⟨rfl,fx⟩
      refine hK _ _ (S0.trans fx) ?_
      have S0:=S0.trans fx
      clear fx
      clear hK K
      try simp only [Act.put,qu,qv,qx]
      (refine tree_take (v:=?_) rfl rfl rfl S0 (fun w hS=>?_) ?_;rotate_left;(focus (clear hS;go_simp;rfl));simp only [qu,qv,qx])
      (refine tree_take (v:=?_) rfl rfl rfl S0 (fun w hS=>?_) ?_;rotate_left;(focus (clear hS;go_simp;rfl));simp only [qu,qv,qx])
      (refine tree_take (v:=?_) rfl rfl rfl S0 (fun w hS=>?_) ?_;rotate_left;(focus (clear hS;go_simp;rfl));simp only [qu,qv,qx])
      refine tree_one rfl rfl (fun K hK=>?_)
      go_simp
      have A18:=ints_new (W:=W7) [17,19] (by simp)
      have fa:=Fr.alloc [] W7 (.cells #[.int .i64 17,.int .i64 19] 3)
      refine hK _ _ (S0.trans fa) ?_
      have S0:=S0.trans fa
      change IntsAt (W7.alloc (.cells #[.int .i64 17,.int .i64 19] 3)) (.slice (some ⟨W7.heap.size,0,none⟩) 2 2) _ at A18
      generalize W7.alloc (.cells #[.int .i64 17,.int .i64 19] 3)=W8 at *
      clear fa
      clear hK K
      try simp only [Act.put,qu,qv,qx]
      refine tree_one rfl rfl (fun K hK=>?_)
      go_simp
      refine (mixed_c y2 _ [17,19] W8 A18 (by decide)).mono ?_
      rintro e W9 ⟨rfl,fx⟩
      refine hK _ _ (S0.trans fx) ?_
      have S0:=S0.trans fx
      clear fx
      clear hK K
      try simp only [Act.put,qu,qv,qx]
      (refine tree_take (v:=?_) rfl rfl rfl S0 (fun w hS=>?_) ?_;rotate_left;(focus (clear hS;go_simp;rfl));simp only [qu,qv,qx])
      (refine tree_take (v:=?_) rfl rfl rfl S0 (fun w hS=>?_) ?_;rotate_left;(focus (clear hS;go_simp;rfl));simp only [qu,qv,qx])
      (refine tree_take (v:=?_) rfl rfl rfl S0 (fun w hS=>?_) ?_;rotate_left;(focus (clear hS;go_simp;rfl));simp only [qu,qv,qx])
      have t0:W9.cell? ⟨B,k,none⟩=some (.int .u32 ((sch l k++List.replicate (64 - k) 0).getD k 0)):=by
       rw [qd (S0.keep H2.out (by simp)),u32A_get _ _ (by simp [sch_len];omega)]
      have t1:=ql (S0.keep H2.out (by simp)) k
      refine tree_last rfl rfl (fun K hK=>?_)
      go_simp
      try go_upon
      try go_simp
      refine hK _ _ ?_
      clear hK K
      refine noPanicN ?_
      have X1:=qs (i:=k) (.int .u32 (IntKind.u32.wrap (IntKind.u32.wrap (IntKind.u32.wrap (y16+bits .xor .u32 (mix y15 [7,18]) (y15 / 8))+y7)+bits .xor .u32 (mix y2 [17,19]) (y2 / 1024)))) (S0.keep H2.out (by simp))
      rw [u32A_set,set_at (sch_len l k) (by omega)] at X1
      have G1:=qj ((H1.out.trans S0).step (Fr.setCell (fp:=[B]) W9 (p:=⟨B,k,none⟩) (.int .u32 (IntKind.u32.wrap (IntKind.u32.wrap (IntKind.u32.wrap (y16+bits .xor .u32 (mix y15 [7,18]) (y15 / 8))+y7)+bits .xor .u32 (mix y2 [17,19]) (y2 / 1024)))) (by simp)) (fun i hi=>.inr (by rw [List.mem_singleton] at hi;have:=HBn.out;omega)))
      rw [← HT.out] at X1
      have G2:=qj X1
      clear t0 t1 X1 S0 d16 d15 d7 d2
      go_wp2_with fail
      go_roundw
      case rel=>exact ⟨k+1,by omega,by omega,by go_num,G1,G2⟩
      case measure=>simp [RowKit.intOf];omega
     ·skip
      refine tree_op rfl rfl (fun K hK=>?_)
      go_simp
      have A18:=ints_new (W:=W6) [17,19] (by simp)
      have fa:=Fr.alloc [] W6 (.cells #[.int .i64 17,.int .i64 19] 3)
      have A6:=A6.same fa
      refine hK _ _ (S0.trans fa) ?_
      have S0:=S0.trans fa
      change IntsAt (W6.alloc (.cells #[.int .i64 17,.int .i64 19] 3)) (.slice (some ⟨W6.heap.size,0,none⟩) 2 2) _ at A18
      generalize W6.alloc (.cells #[.int .i64 17,.int .i64 19] 3)=W7 at *
      clear fa
      clear hK K
      try simp only [Act.put,qu,qv,qx]
      refine tree_one rfl rfl (fun K hK=>?_)
      go_simp
      refine (mixed_c y15 _ [7,18] W7 A6 (by decide)).mono ?_
      rintro e W8 ⟨rfl,fx⟩
      have A18:=A18.same fx
      refine hK _ _ (S0.trans fx) ?_
      have S0:=S0.trans fx
      clear fx
      clear hK K
      try simp only [Act.put,qu,qv,qx]
      (refine tree_take (v:=?_) rfl rfl rfl S0 (fun w hS=>?_) ?_;rotate_left;(focus (clear hS;go_simp;rfl));simp only [qu,qv,qx])
      (refine tree_take (v:=?_) rfl rfl rfl S0 (fun w hS=>?_) ?_;rotate_left;(focus (clear hS;go_simp;rfl));simp only [qu,qv,qx])
      (refine tree_take (v:=?_) rfl rfl rfl S0 (fun w hS=>?_) ?_;rotate_left;(focus (clear hS;go_simp;rfl));simp only [qu,qv,qx])
      refine tree_one rfl rfl (fun K hK=>?_)
      go_simp
      refine (mixed_c y2 _ [17,19] W8 A18 (by decide)).mono ?_
      rintro e W9 ⟨rfl,fx⟩
      refine hK _ _ (S0.trans fx) ?_
      have S0:=S0.trans fx
      clear fx
      clear hK K
      try simp only [Act.put,qu,qv,qx]
      (refine tree_take (v:=?_) rfl rfl rfl S0 (fun w hS=>?_) ?_;rotate_left;(focus (clear hS;go_simp;rfl));simp only [qu,qv,qx])
      (refine tree_take (v:=?_) rfl rfl rfl S0 (fun w hS=>?_) ?_;rotate_left;(focus (clear hS;go_simp;rfl));simp only [qu,qv,qx])
      (refine tree_take (v:=?_) rfl rfl rfl S0 (fun w hS=>?_) ?_;rotate_left;(focus (clear hS;go_simp;rfl));simp only [qu,qv,qx])
      have t0:W9.cell? ⟨B,k,none⟩=some (.int .u32 ((sch l k++List.replicate (64 - k) 0).getD k 0)):=by
       rw [qd (S0.keep H2.out (by simp)),u32A_get _ _ (by simp [sch_len];omega)]
      have t1:=ql (S0.keep H2.out (by simp)) k
      refine tree_last rfl rfl (fun K hK=>?_)
      go_simp
      try go_upon
      try go_simp
      refine hK _ _ ?_
      clear hK K
      refine noPanicN ?_
      have X1:=qs (i:=k) (.int .u32 (IntKind.u32.wrap (IntKind.u32.wrap (IntKind.u32.wrap (y16+bits .xor .u32 (mix y15 [7,18]) (y15 / 8))+y7)+bits .xor .u32 (mix y2 [17,19]) (y2 / 1024)))) (S0.keep H2.out (by simp))
      rw [u32A_set,set_at (sch_len l k) (by omega)] at X1
      have G1:=qj ((H1.out.trans S0).step (Fr.setCell (fp:=[B]) W9 (p:=⟨B,k,none⟩) (.int .u32 (IntKind.u32.wrap (IntKind.u32.wrap (IntKind.u32.wrap (y16+bits .xor .u32 (mix y15 [7,18]) (y15 / 8))+y7)+bits .xor .u32 (mix y2 [17,19]) (y2 / 1024)))) (by simp)) (fun i hi=>.inr (by rw [List.mem_singleton] at hi;have:=HBn.out;omega)))
      rw [← HT.out] at X1
      have G2:=qj X1
      clear t0 t1 X1 S0 d16 d15 d7 d2
      go_wp2_with fail
      go_roundw
      case rel=>exact ⟨k+1,by omega,by omega,by go_num,G1,G2⟩
      case measure=>simp [RowKit.intOf];omega
    ·skip
     refine tree_op rfl rfl (fun K hK=>?_)
     go_simp
     have A18:=ints_new (W:=WC2) [17,19] (by simp)
     have fa:=Fr.alloc [] WC2 (.cells #[.int .i64 17,.int .i64 19] 3)
     refine hK _ _ (S0.trans fa) ?_
     have S0:=S0.trans fa
     change IntsAt (WC2.alloc (.cells #[.int .i64 17,.int .i64 19] 3)) (.slice (some ⟨WC2.heap.size,0,none⟩) 2 2) _ at A18
     generalize WC2.alloc (.cells #[.int .i64 17,.int .i64 19] 3)=W6 at *
     clear fa
     clear hK K
     try simp only [Act.put,qu,qv,qx]
     refine tree_one rfl rfl (fun K hK=>?_)
     go_simp
     have A6:=ints_new (W:=W6) [7,18] (by simp)
     have fa:=Fr.alloc [] W6 (.cells #[.int .i64 7,.int .i64 18] 3)
     have A18:=A18.same fa
     refine hK _ _ (S0.trans fa) ?_
     have S0:=S0.trans fa
     change IntsAt (W6.alloc (.cells #[.int .i64 7,.int .i64 18] 3)) (.slice (some ⟨W6.heap.size,0,none⟩) 2 2) _ at A6
     generalize W6.alloc (.cells #[.int .i64 7,.int .i64 18] 3)=W7 at *
     clear fa
     clear hK K
     try simp only [Act.put,qu,qv,qx]
     refine tree_one rfl rfl (fun K hK=>?_)
     go_simp
     refine (mixed_c y15 _ [7,18] W7 A6 (by decide)).mono ?_
     rintro e W8 ⟨rfl,fx⟩
     have A18:=A18.same fx
     refine hK _ _ (S0.trans fx) ?_
     have S0:=S0.trans fx
     clear fx
     clear hK K
     try simp only [Act.put,qu,qv,qx]
     (refine tree_take (v:=?_) rfl rfl rfl S0 (fun w hS=>?_) ?_;rotate_left;(focus (clear hS;go_simp;rfl));simp only [qu,qv,qx])
     (refine tree_take (v:=?_) rfl rfl rfl S0 (fun w hS=>?_) ?_;rotate_left;(focus (clear hS;go_simp;rfl));simp only [qu,qv,qx])
     (refine tree_take (v:=?_) rfl rfl rfl S0 (fun w hS=>?_) ?_;rotate_left;(focus (clear hS;go_simp;rfl));simp only [qu,qv,qx])
     refine tree_one rfl rfl (fun K hK=>?_)
     go_simp
     refine (mixed_c y2 _ [17,19] W8 A18 (by decide)).mono ?_
     rintro e W9 ⟨rfl,fx⟩
     refine hK _ _ (S0.trans fx) ?_
     have S0:=S0.trans fx
     clear fx
     clear hK K
     try simp only [Act.put,qu,qv,qx]
     (refine tree_take (v:=?_) rfl rfl rfl S0 (fun w hS=>?_) ?_;rotate_left;(focus (clear hS;go_simp;rfl));simp only [qu,qv,qx])
     (refine tree_take (v:=?_) rfl rfl rfl S0 (fun w hS=>?_) ?_;rotate_left;(focus (clear hS;go_simp;rfl));simp only [qu,qv,qx])
     (refine tree_take (v:=?_) rfl rfl rfl S0 (fun w hS=>?_) ?_;rotate_left;(focus (clear hS;go_simp;rfl));simp only [qu,qv,qx])
     have t0:W9.cell? ⟨B,k,none⟩=some (.int .u32 ((sch l k++List.replicate (64 - k) 0).getD k 0)):=by
      rw [qd (S0.keep H2.out (by simp)),u32A_get _ _ (by simp [sch_len];omega)]
     have t1:=ql (S0.keep H2.out (by simp)) k
     refine tree_last rfl rfl (fun K hK=>?_)
     go_simp
     try go_upon
     try go_simp
     refine hK _ _ ?_
     clear hK K
     refine noPanicN ?_
     have X1:=qs (i:=k) (.int .u32 (IntKind.u32.wrap (IntKind.u32.wrap (IntKind.u32.wrap (y16+bits .xor .u32 (mix y15 [7,18]) (y15 / 8))+y7)+bits .xor .u32 (mix y2 [17,19]) (y2 / 1024)))) (S0.keep H2.out (by simp))
     rw [u32A_set,set_at (sch_len l k) (by omega)] at X1
     have G1:=qj ((H1.out.trans S0).step (Fr.setCell (fp:=[B]) W9 (p:=⟨B,k,none⟩) (.int .u32 (IntKind.u32.wrap (IntKind.u32.wrap (IntKind.u32.wrap (y16+bits .xor .u32 (mix y15 [7,18]) (y15 / 8))+y7)+bits .xor .u32 (mix y2 [17,19]) (y2 / 1024)))) (by simp)) (fun i hi=>.inr (by rw [List.mem_singleton] at hi;have:=HBn.out;omega)))
     rw [← HT.out] at X1
     have G2:=qj X1
     clear t0 t1 X1 S0 d16 d15 d7 d2
     go_wp2_with fail
     go_roundw
     case rel=>exact ⟨k+1,by omega,by omega,by go_num,G1,G2⟩
     case measure=>simp [RowKit.intOf];omega
   ·obtain rfl:k=64:=by omega
    go_upto_region 11 with fail
    simp only [Nat.sub_self,List.replicate_zero,List.append_nil] at H2
    obtain ⟨s,hs⟩:∃ s,sch l 64=s:=⟨_,rfl⟩
    rw [hs] at H2
    have hsl:s.length=64:=by rw [← hs];exact sch_len _ _
    have e64:(Tryz.prog.info? 329).map (·.size)=some (u32A s).size:=by rw [u32A_size,hsl];kernel_rfl
    have HSS:=qj hs;have HE:=qj e64
    clear hs hsl e64
    go_wp2_with (first | ((with_reducible refine wpList_of_wp (o:=⟨some 83,_,_,_,_,_⟩) rfl (fun K hK=>?_));apply stopD;case _other=>exact trivial))
    (refine stopD ?_ ?_;rotate_left;exact trivial)
    refine wp_arr_load (.tmp 2) Tryz.underlying329 HE.out rfl rfl H2.out ?_
    refine hK _ _ ?_
    clear hK K
    (with_reducible refine wpList_of_wp (o:=⟨none,_,_,_,_,_⟩) rfl (fun K hK=>?_))
    refine wp_arr_store (.tmp 2) (.tmp 83) HE.out rfl rfl rfl H2.out rfl (u32A_one _) ?_
    intro W' f1 h1
    refine hK _ _ ?_
    clear hK K
    have F9:=H1.out.step f1 (fun i hi=>.inr (by rw [List.mem_singleton] at hi;have:=HBn.out;omega))
    go_wp2_with fail
    exact bodyPost_ret (v:=.agg (u32A s)) (results_w64 HE.out rfl h1) rfl ⟨by rw [HSS.out],F9⟩
end
section
open Go.RowKit Go.Lib
abbrev w8C (h:W8):Array Value:=u32A h.list
theorem w8C_lit (h:W8):w8C h=#[.int .u32 h.a,.int .u32 h.b,.int .u32 h.c,.int .u32 h.d,.int .u32 h.e,.int .u32 h.f,.int .u32 h.g,.int .u32 h.h]:=rfl
theorem wp_copy_sh {o:Oper} {a:Act} {w:World} {K:Act→World→Prop} {Q:Exit→Act→World→Prop} (d s:Operand) (t t' tt:TypeId) (ho:o.op=.call { callee:=.builtin .copy,args:=#[d,s],argTypes:=#[t,t'] }) (hu:Tryz.prog.underlying t=some (.slice 149)) (B dc sc:Nat) (v:W8) (hd:a.eval d=.slice (some ⟨B,1,none⟩) 7 dc) (hs:a.eval s=.slice (some ⟨B,0,none⟩) 7 sc) (hg:w.heap[B]?=some (.cells (w8C v) tt (0,0)))
  (h:∀ w',Fr [B] w w'→w'.heap[B]?=some (.cells (w8C ⟨v.a,v.a,v.b,v.c,v.d,v.e,v.f,v.g⟩) tt (0,0))→K (a.put o.dst (.int .i64 7)) w'):o.wp Tryz.prog a w K Q:=by
 have hrun:=run_copy_row (P:=Tryz.prog) w t t' o.type 149 B 1 7 dc ⟨B,0,none⟩ 7 sc (w8C v) tt [.int .u32 v.a,.int .u32 v.b,.int .u32 v.c,.int .u32 v.d,.int .u32 v.e,.int .u32 v.f,.int .u32 v.g] hu (by kernel_rfl) hg rfl (fun j x hj=>by
  have ha:(⟨B,0,none⟩:Addr).add j=⟨B,j,none⟩:=by
   unfold Addr.add;split
   ·rename_i h0;simp only [h0]
   ·simp only [Nat.zero_add]
  rw [ha,qd hg]
  match j,hj with
  | 0,hj=>exact hj
  | 1,hj=>exact hj
  | 2,hj=>exact hj
  | 3,hj=>exact hj
  | 4,hj=>exact hj
  | 5,hj=>exact hj
  | 6,hj=>exact hj
  | n+7,hj=>simp at hj) (by simp [u32A,W8.list]) (by simp [Value.oneCell'])
 refine Lib.wp_copy_run w d s t t' ho _ _ hd hs hrun ?_
 exact h _ (Fr.setRow (g:=B) _ _ (by simp)) (setRow_heap _ _ _ _ _ _ hg)
def u8A (l:List Int):Array Value:=(u8C l).toArray
theorem u8A_get (l:List Int) (i:Nat) (h:i < l.length):(u8A l)[i]?=some (.int .u8 (l.getD i 0)):=by simp [u8A,h]
theorem u8A_set (l:List Int) (i:Nat) (x:Int):(u8A l).setIfInBounds i (.int .u8 x)=u8A (l.set i x):=by simp [u8A,List.map_set]
theorem outL_get (v:W8) (i k:Nat) (hi:i < 8) (hk:k < 4):(outL v).getD (4*i+k) 0=byteI (v.list.getD i 0 / 2 ^ (24 - 8*k)):=by
 have h1:i=0∨i=1∨i=2∨i=3∨i=4∨i=5∨i=6∨i=7:=by omega
 have h2:k=0∨k=1∨k=2∨k=3:=by omega
 rcases h1 with rfl | rfl | rfl | rfl | rfl | rfl | rfl | rfl <;> rcases h2 with rfl | rfl | rfl | rfl <;> rfl
theorem outL_step (v:W8) (n:Nat) (x:Int) (hn:n < 32) (hx:(outL v).getD n 0=x):((outL v).take n++List.replicate (32 - n) 0).set n x=(outL v).take (n+1)++List.replicate (32 - (n+1)) 0:=by
 have hl:((outL v).take n).length=n:=by rw [List.length_take,outL_len];omega
 rw [set_at hl hn,List.take_succ_eq_append_getElem (by rw [outL_len];exact hn),← hx,List.getD_eq_getElem?_getD,List.getElem?_eq_getElem (by rw [outL_len];exact hn),Option.getD_some]
end
end Go.Proofs.YtledkokhghjfmaaGreatDoor
