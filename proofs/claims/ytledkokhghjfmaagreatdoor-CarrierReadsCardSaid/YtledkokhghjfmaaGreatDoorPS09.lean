/-
  digest: a block is added.
-/
import Derived.Test.YtledkokhghjfmaaGreatDoorPS07
import Derived.Test.YtledkokhghjfmaaGreatDoorPS08
import Derived.Lib.ConvBytes
import Derived.ArgAppend
import Derived.RangeFuncNested
import Derived.RangeFuncBound
import Derived.RangeFuncCalls
import Derived.RangeFuncLeaves
import Derived.Shelf.Abstract
import Derived.Shelf.RegionOpen
import Derived.OwnWalkIn
import Derived.TacticsInMore
import Derived.LoopNIn
import Derived.LoopIn
import Derived.Test.YtledkokhghjfmaaGreatDoorPS01
namespace Go.Proofs.YtledkokhghjfmaaGreatDoor
section
open Go.RowKit Go.Lib
def part8 (h v:W8) (k:Nat):List Int:=(sum8 h v).list.take k++h.list.drop k
theorem part8_set (h v:W8) {k:Nat} (hk:k < 8):(part8 h v k).set k (IntKind.u32.wrap (h.list.getD k 0+v.list.getD k 0))=part8 h v (k+1):=by
 have h1:k=0∨k=1∨k=2∨k=3∨k=4∨k=5∨k=6∨k=7:=by omega
 rcases h1 with rfl | rfl | rfl | rfl | rfl | rfl | rfl | rfl <;> rfl
theorem part8_get (h v:W8) {k:Nat} (hk:k < 8):(part8 h v k).getD k 0=h.list.getD k 0:=by
 have h1:k=0∨k=1∨k=2∨k=3∨k=4∨k=5∨k=6∨k=7:=by omega
 rcases h1 with rfl | rfl | rfl | rfl | rfl | rfl | rfl | rfl <;> rfl
theorem rnd_a (v:W8) (y x:Int):(v.h+mix v.e [6,11,25]+bits BinOp.xor IntKind.u32 (bits BinOp.and IntKind.u32 v.e v.f) (bits BinOp.and IntKind.u32 (bits BinOp.xor IntKind.u32 IntKind.u32.max v.e) v.g)+y+x+(mix v.a [2,13,22]+bits BinOp.xor IntKind.u32 (bits BinOp.xor IntKind.u32 (bits BinOp.and IntKind.u32 v.a v.b) (bits BinOp.and IntKind.u32 v.a v.c)) (bits BinOp.and IntKind.u32 v.b v.c))) % 4294967296=(rnd v y x).a:=by
 simp only [rnd,tOf,uOf,addI,xorI,andI,IntKind.wrap_u32]
 rw [show IntKind.u32.max=4294967295 from rfl]
 omega
theorem rnd_e (v:W8) (y x:Int):(v.d+(v.h+mix v.e [6,11,25]+bits BinOp.xor IntKind.u32 (bits BinOp.and IntKind.u32 v.e v.f) (bits BinOp.and IntKind.u32 (bits BinOp.xor IntKind.u32 IntKind.u32.max v.e) v.g)+y+x)) % 4294967296=(rnd v y x).e:=by
 simp only [rnd,tOf,addI,xorI,andI,IntKind.wrap_u32]
 rw [show IntKind.u32.max=4294967295 from rfl]
 omega
theorem rnd_cells (v:W8) (y x A E:Int) (hA:A=(rnd v y x).a) (hE:E=(rnd v y x).e):((w8C ⟨v.a,v.a,v.b,v.c,v.d,v.e,v.f,v.g⟩).setIfInBounds 0 (.int .u32 A)).setIfInBounds 4 (.int .u32 E)=w8C (rnd v y x):=by
 subst hA hE
 rfl
structure Shut (p:Prop):Prop where
 out:p
theorem part8_len (h v:W8) {k:Nat} (hk:k≤8):(part8 h v k).length=8:=by
 simp only [part8,List.length_append,List.length_take,List.length_drop,W8.list_len];omega
set_option maxRecDepth 1000000 in
set_option maxHeartbeats 4000000 in
theorem addW_c (hb:Nat) (v:Value) (l:List Int) (h:W8) (w:World) (hk:w.heap[hb]?=some (.cells (w8C h) 296 (0,0))) (hv:ByAt w v l) (hl:l.length=64) (hR:RndAt w) (_hg:hb≠1) :
  Calls Tryz.prog 188 #[.pointer (some ⟨hb,0,none⟩),v] w fun e w'=>e=.returned (.tuple #[])∧Fr [hb] w w'∧w'.heap[hb]?=some (.cells (w8C (addB h l)) 296 (0,0)):=by
 obtain ⟨a,p,rfl⟩:=hv.val
 obtain ⟨s,hs⟩:∃ s,sch l 64=s:=⟨_,rfl⟩
 have hsl:s.length=64:=by rw [← hs];exact sch_len _ _
 have CS0:=sched_c _ l w hv hl
 rw [hs] at CS0
 have CS:=qj CS0
 have HS:Shut (sch l 64=s):=⟨hs⟩;have HSL:=qj hsl
 clear CS0 hs hsl hl
 have HK:=qj hk;have HR:=qj hR
 clear hv hk hR
 go_enter Tryz.func188,Tryz.ntmps188
 go_wp2_with (first | ((with_reducible refine wpList_of_wp (o:=⟨some 14,_,_,_,_,_⟩) rfl (fun K hK=>?_));apply stopD;case _other=>exact trivial))
 (refine stopD ?_ ?_;rotate_left;exact trivial)
 go_simp
 refine CS.out.mono ?_
 rintro e w1 ⟨rfl,f1⟩
 refine hK _ _ (w64_alloc_store _ _ 4 _ s HSL.out rfl rfl rfl rfl rfl rfl (fun _=>rfl) (fun _=>rfl) ?_)
 clear hK K CS
 have hA:=qm w1 (.cells (u32A s) 329)
 have F1:=qj (f1.trans (Fr.alloc [] w1 (.cells (u32A s) 329)))
 generalize w1.alloc (.cells (u32A s) 329)=W1 at *
 obtain ⟨B4,hB⟩:∃ B,B=w1.heap.size:=⟨_,rfl⟩
 have HB4:Hid (w.heap.size≤B4):=qj (by rw [hB];exact f1.size)
 rw [← hB] at hA ⊢
 have HA:=qj hA
 clear hA hB f1
 have hk1:=F1.out.keep HK.out (by simp)
 have d0:W1.cell? ⟨hb,0,none⟩=some (.int .u32 h.a):=qd hk1 0
 have d1:W1.cell? ⟨hb,1,none⟩=some (.int .u32 h.b):=qd hk1 1
 have d2:W1.cell? ⟨hb,2,none⟩=some (.int .u32 h.c):=qd hk1 2
 have d3:W1.cell? ⟨hb,3,none⟩=some (.int .u32 h.d):=qd hk1 3
 have d4:W1.cell? ⟨hb,4,none⟩=some (.int .u32 h.e):=qd hk1 4
 have d5:W1.cell? ⟨hb,5,none⟩=some (.int .u32 h.f):=qd hk1 5
 have d6:W1.cell? ⟨hb,6,none⟩=some (.int .u32 h.g):=qd hk1 6
 have d7:W1.cell? ⟨hb,7,none⟩=some (.int .u32 h.h):=qd hk1 7
 clear hk1
 go_upto_region 2 with fail
 clear d0 d1 d2 d3 d4 d5 d6 d7
 change Code.wp _ _ _ _ (W1.alloc (.cells (w8C h) 296))
 have hA5:=qm W1 (.cells (w8C h) 296)
 have F2:=qj (F1.out.trans (Fr.alloc [] W1 (.cells (w8C h) 296)))
 have HA4:=qj ((Fr.alloc [] W1 (.cells (w8C h) 296)).keep HA.out (by simp))
 have hb4:=blk_lt HA.out
 generalize W1.alloc (.cells (w8C h) 296)=W2 at *
 obtain ⟨B5,hB⟩:∃ B,B=W1.heap.size:=⟨_,rfl⟩
 have HB5:Hid (w.heap.size≤B5∧B4 < B5):=qj (by rw [hB];exact ⟨F1.out.size,hb4⟩)
 rw [← hB] at hA5 ⊢
 have HA5:=qj hA5
 have hkb:=blk_lt HK.out
 have HKB:=qj hkb
 clear hA5 hB hb4 F1 HA hkb
 obtain ⟨kt,hkt⟩:∃ kt,kTab=kt:=⟨_,rfl⟩
 have hktl:kt.length=64:=by rw [← hkt];rfl
 have ek:(Tryz.prog.info? 329).map (·.size)=some (u32A kt).size:=by rw [u32A_size,hktl];kernel_rfl
 have hr2:=HR.out.same F2.out (by simp)
 unfold RndAt at hr2
 rw [hkt] at hr2
 obtain ⟨gt,gz,hr3⟩:=hr2
 have HKT:Shut (kTab=kt):=⟨hkt⟩;have HKL:=qj hktl
 clear hkt hktl
 go_wp2_with (first | ((with_reducible refine wpList_of_wp (o:=⟨some 18,_,_,_,_,_⟩) rfl (fun K hK=>?_));apply stopD;case _other=>exact trivial))
 (refine stopD ?_ ?_;rotate_left;exact trivial)
 refine wp_arr_loadG (.global 1) Tryz.underlying329 ek rfl rfl hr3 ?_
 refine hK _ _ ?_
 clear hK K ek hr3
 go_wp2_with fail
 go_loopw [19] (fun i wr=>∃ k:Nat,k≤64∧i=.int .i64 k∧Hid (Fr [] w wr)∧Hid (wr.heap[B4]?=some (.cells (u32A s) 329 (0,0)))∧Hid (wr.heap[B5]?=some (.cells (w8C (rnds s h k)) 296 (0,0)))) (fun i _=>64 - (RowKit.intOf i).toNat)
 case atStart=>exact ⟨0,by omega,rfl,F2,HA4,HA5⟩
 case round =>
  obtain ⟨k,hk,rfl,H1,H4,H5⟩:=hrel
  by_cases hlt:k < 64
  ·have HT:Shut (rnds s h (k+1)=rnd (rnds s h k) (kt.getD k 0) (s.getD k 0)):=⟨by rw [← HKT.out];rfl⟩
   have s1:wr.cell? ⟨B4,k,none⟩=some (.int .u32 (s.getD k 0)):=by rw [qd H4.out,u32A_get _ _ (by rw [HSL.out];exact hlt)]
   generalize rnds s h k=v at *
   generalize s.getD k 0=x at *
   have e0:wr.cell? ⟨B5,0,none⟩=some (.int .u32 v.a):=qd H5.out 0
   have e1:wr.cell? ⟨B5,1,none⟩=some (.int .u32 v.b):=qd H5.out 1
   have e2:wr.cell? ⟨B5,2,none⟩=some (.int .u32 v.c):=qd H5.out 2
   have e4:wr.cell? ⟨B5,4,none⟩=some (.int .u32 v.e):=qd H5.out 4
   have e5:wr.cell? ⟨B5,5,none⟩=some (.int .u32 v.f):=qd H5.out 5
   have e6:wr.cell? ⟨B5,6,none⟩=some (.int .u32 v.g):=qd H5.out 6
   have e7:wr.cell? ⟨B5,7,none⟩=some (.int .u32 v.h):=qd H5.out 7
   have i0:∀ W:World,(Instr.index 329 (.agg (u32A kt)) (.int .i64 k)).run Tryz.prog W=.ok (.int .u32 (kt.getD k 0)) W:=fun W=>arr_index Tryz.underlying329 HKL.out hlt
   generalize u32A kt=KA at *
   generalize kt.getD k 0=y at *
   go_wp2_with fail
   clear i0
   refine reg_tree (Fr [] wr) 5 (.take 0 (.take 1 (.take 2 (.take 3 (.take 4 (.one 5 .nil)))))) (by kernel_rfl) (by kernel_rfl) (by kernel_rfl) rfl ?_
   have S0:Fr [] wr wr.drew:=Fr.drew _ _
   generalize wr.drew=WC at S0 ⊢
   (refine tree_take (v:=?_) rfl rfl rfl S0 (fun w hS=>?_) ?_;rotate_left;(focus (clear hS;go_simp;rfl));simp only [qu,qv,qx])
   (refine tree_take (v:=?_) rfl rfl rfl S0 (fun w hS=>?_) ?_;rotate_left;(focus (have e0':=hS.cel e0 (by simp);clear hS;go_simp;rfl));simp only [qu,qv,qx])
   (refine tree_take (v:=?_) rfl rfl rfl S0 (fun w hS=>?_) ?_;rotate_left;(focus (clear hS;go_simp;rfl));simp only [qu,qv,qx])
   (refine tree_take (v:=?_) rfl rfl rfl S0 (fun w hS=>?_) ?_;rotate_left;(focus (have e4':=hS.cel e4 (by simp);clear hS;go_simp;rfl));simp only [qu,qv,qx])
   (refine tree_take (v:=?_) rfl rfl rfl S0 (fun w hS=>?_) ?_;rotate_left;(focus (clear hS;go_simp;rfl));simp only [qu,qv,qx])
   refine tree_last rfl rfl (fun K hK=>?_)
   go_simp
   try go_upon
   try go_simp
   refine hK _ _ ?_
   clear hK K
   refine noPanicN ?_
   go_wp2_with fail
   refine reg_tree (Fr [] wr) 23 (.take 0 (.take 1 (.take 2 (.take 6 (.take 7 (.take 8 (.take 9 (.take 10 (.take 11 (.take 12 (.take 13 (.take 14 (.take 15 (.take 17 (.take 19 (.take 20 (.take 21 (.one 3 (.one 4 (.take 5 (.take 16 (.take 18 (.take 22 (.one 23 .nil)))))))))))))))))))))))) (by kernel_rfl) (by kernel_rfl) (by kernel_rfl) rfl ?_
   have S0:=S0.trans (Fr.drew [] WC)
   generalize WC.drew=WC at S0 ⊢
   (refine tree_take (v:=?_) rfl rfl rfl S0 (fun w hS=>?_) ?_;rotate_left;(focus (clear hS;go_simp;rfl));simp only [qu,qv,qx])
   (refine tree_take (v:=?_) rfl rfl rfl S0 (fun w hS=>?_) ?_;rotate_left;(focus (have e7':=hS.cel e7 (by simp);clear hS;go_simp;rfl));simp only [qu,qv,qx])
   (refine tree_take (v:=?_) rfl rfl rfl S0 (fun w hS=>?_) ?_;rotate_left;(focus (clear hS;go_simp;rfl));simp only [qu,qv,qx])
   (refine tree_take (v:=?_) rfl rfl rfl S0 (fun w hS=>?_) ?_;rotate_left;(focus (clear hS;go_simp;rfl));simp only [qu,qv,qx])
   (refine tree_take (v:=?_) rfl rfl rfl S0 (fun w hS=>?_) ?_;rotate_left;(focus (clear hS;go_simp;rfl));simp only [qu,qv,qx])
   (refine tree_take (v:=?_) rfl rfl rfl S0 (fun w hS=>?_) ?_;rotate_left;(focus (have e5':=hS.cel e5 (by simp);clear hS;go_simp;rfl));simp only [qu,qv,qx])
   (refine tree_take (v:=?_) rfl rfl rfl S0 (fun w hS=>?_) ?_;rotate_left;(focus (clear hS;go_simp;rfl));simp only [qu,qv,qx])
   (refine tree_take (v:=?_) rfl rfl rfl S0 (fun w hS=>?_) ?_;rotate_left;(focus (clear hS;go_simp;rfl));simp only [qu,qv,qx])
   (refine tree_take (v:=?_) rfl rfl rfl S0 (fun w hS=>?_) ?_;rotate_left;(focus (clear hS;go_simp;rfl));simp only [qu,qv,qx])
   (refine tree_take (v:=?_) rfl rfl rfl S0 (fun w hS=>?_) ?_;rotate_left;(focus (clear hS;go_simp;rfl));simp only [qu,qv,qx])
   (refine tree_take (v:=?_) rfl rfl rfl S0 (fun w hS=>?_) ?_;rotate_left;(focus (have e6':=hS.cel e6 (by simp);clear hS;go_simp;rfl));simp only [qu,qv,qx])
   (refine tree_take (v:=?_) rfl rfl rfl S0 (fun w hS=>?_) ?_;rotate_left;(focus (clear hS;go_simp;rfl));simp only [qu,qv,qx])
   (refine tree_take (v:=?_) rfl rfl rfl S0 (fun w hS=>?_) ?_;rotate_left;(focus (clear hS;go_simp;rfl));simp only [qu,qv,qx])
   (refine tree_take (v:=?_) rfl rfl rfl S0 (fun w hS=>?_) ?_;rotate_left;(focus (clear hS;go_simp;rfl));simp only [qu,qv,qx])
   (refine tree_take (v:=?_) rfl rfl rfl S0 (fun w hS=>?_) ?_;rotate_left;(focus (clear hS;go_simp;rfl));simp only [qu,qv,qx])
   (refine tree_take (v:=?_) rfl rfl rfl S0 (fun w hS=>?_) ?_;rotate_left;(focus (clear hS;go_simp;rfl));simp only [qu,qv,qx])
   (refine tree_take (v:=?_) rfl rfl rfl S0 (fun w hS=>?_) ?_;rotate_left;(focus (have s1':=hS.cel s1 (by simp);clear hS;go_simp;rfl));simp only [qu,qv,qx])
   refine tree_one rfl rfl (fun K hK=>?_)
   go_simp
   have A6:=ints_new (W:=WC) [6,11,25] (by simp)
   have fa:=Fr.alloc [] WC (.cells #[.int .i64 6,.int .i64 11,.int .i64 25] 3)
   refine hK _ _ (S0.trans fa) ?_
   have S0:=S0.trans fa
   change IntsAt (WC.alloc (.cells #[.int .i64 6,.int .i64 11,.int .i64 25] 3)) (.slice (some ⟨WC.heap.size,0,none⟩) 3 3) _ at A6
   generalize WC.alloc (.cells #[.int .i64 6,.int .i64 11,.int .i64 25] 3)=W6 at *
   clear fa
   clear hK K
   try simp only [Act.put,qu,qv,qx]
   refine tree_one rfl rfl (fun K hK=>?_)
   go_simp
   refine (mixed_c v.e _ [6,11,25] W6 A6 (by decide)).mono ?_
   rintro e W7 ⟨rfl,fx⟩
   refine hK _ _ (S0.trans fx) ?_
   have S0:=S0.trans fx
   clear fx
   clear hK K
   try simp only [Act.put,qu,qv,qx]
   (refine tree_take (v:=?_) rfl rfl rfl S0 (fun w hS=>?_) ?_;rotate_left;(focus (clear hS;go_simp;rfl));simp only [qu,qv,qx])
   (refine tree_take (v:=?_) rfl rfl rfl S0 (fun w hS=>?_) ?_;rotate_left;(focus (clear hS;go_simp;rfl));simp only [qu,qv,qx])
   (refine tree_take (v:=?_) rfl rfl rfl S0 (fun w hS=>?_) ?_;rotate_left;(focus (clear hS;go_simp;rfl));simp only [qu,qv,qx])
   (refine tree_take (v:=?_) rfl rfl rfl S0 (fun w hS=>?_) ?_;rotate_left;(focus (clear hS;go_simp;rfl));simp only [qu,qv,qx])
   refine tree_last rfl rfl (fun K hK=>?_)
   go_simp
   try go_upon
   try go_simp
   refine hK _ _ ?_
   clear hK K
   refine noPanicN ?_
   clear A6
   go_wp2_with fail
   refine reg_tree (Fr [] wr) 19 (.take 0 (.take 3 (.take 4 (.take 5 (.take 6 (.take 7 (.take 8 (.take 9 (.take 10 (.take 11 (.take 12 (.take 13 (.take 14 (.take 15 (.take 16 (.take 17 (.one 1 (.one 2 (.take 18 (.one 19 .nil)))))))))))))))))))) (by kernel_rfl) (by kernel_rfl) (by kernel_rfl) rfl ?_
   have S0:=S0.trans (Fr.drew [] W7)
   generalize W7.drew=W7 at S0 ⊢
   (refine tree_take (v:=?_) rfl rfl rfl S0 (fun w hS=>?_) ?_;rotate_left;(focus (clear hS;go_simp;rfl));simp only [qu,qv,qx])
   (refine tree_take (v:=?_) rfl rfl rfl S0 (fun w hS=>?_) ?_;rotate_left;(focus (clear hS;go_simp;rfl));simp only [qu,qv,qx])
   (refine tree_take (v:=?_) rfl rfl rfl S0 (fun w hS=>?_) ?_;rotate_left;(focus (clear hS;go_simp;rfl));simp only [qu,qv,qx])
   (refine tree_take (v:=?_) rfl rfl rfl S0 (fun w hS=>?_) ?_;rotate_left;(focus (have e1':=hS.cel e1 (by simp);clear hS;go_simp;rfl));simp only [qu,qv,qx])
   (refine tree_take (v:=?_) rfl rfl rfl S0 (fun w hS=>?_) ?_;rotate_left;(focus (clear hS;go_simp;rfl));simp only [qu,qv,qx])
   (refine tree_take (v:=?_) rfl rfl rfl S0 (fun w hS=>?_) ?_;rotate_left;(focus (clear hS;go_simp;rfl));simp only [qu,qv,qx])
   (refine tree_take (v:=?_) rfl rfl rfl S0 (fun w hS=>?_) ?_;rotate_left;(focus (clear hS;go_simp;rfl));simp only [qu,qv,qx])
   (refine tree_take (v:=?_) rfl rfl rfl S0 (fun w hS=>?_) ?_;rotate_left;(focus (have e2':=hS.cel e2 (by simp);clear hS;go_simp;rfl));simp only [qu,qv,qx])
   (refine tree_take (v:=?_) rfl rfl rfl S0 (fun w hS=>?_) ?_;rotate_left;(focus (clear hS;go_simp;rfl));simp only [qu,qv,qx])
   (refine tree_take (v:=?_) rfl rfl rfl S0 (fun w hS=>?_) ?_;rotate_left;(focus (clear hS;go_simp;rfl));simp only [qu,qv,qx])
   (refine tree_take (v:=?_) rfl rfl rfl S0 (fun w hS=>?_) ?_;rotate_left;(focus (clear hS;go_simp;rfl));simp only [qu,qv,qx])
   (refine tree_take (v:=?_) rfl rfl rfl S0 (fun w hS=>?_) ?_;rotate_left;(focus (have e1':=hS.cel e1 (by simp);clear hS;go_simp;rfl));simp only [qu,qv,qx])
   (refine tree_take (v:=?_) rfl rfl rfl S0 (fun w hS=>?_) ?_;rotate_left;(focus (clear hS;go_simp;rfl));simp only [qu,qv,qx])
   (refine tree_take (v:=?_) rfl rfl rfl S0 (fun w hS=>?_) ?_;rotate_left;(focus (have e2':=hS.cel e2 (by simp);clear hS;go_simp;rfl));simp only [qu,qv,qx])
   (refine tree_take (v:=?_) rfl rfl rfl S0 (fun w hS=>?_) ?_;rotate_left;(focus (clear hS;go_simp;rfl));simp only [qu,qv,qx])
   (refine tree_take (v:=?_) rfl rfl rfl S0 (fun w hS=>?_) ?_;rotate_left;(focus (clear hS;go_simp;rfl));simp only [qu,qv,qx])
   refine tree_one rfl rfl (fun K hK=>?_)
   go_simp
   have A7:=ints_new (W:=W7) [2,13,22] (by simp)
   have fa:=Fr.alloc [] W7 (.cells #[.int .i64 2,.int .i64 13,.int .i64 22] 3)
   refine hK _ _ (S0.trans fa) ?_
   have S0:=S0.trans fa
   change IntsAt (W7.alloc (.cells #[.int .i64 2,.int .i64 13,.int .i64 22] 3)) (.slice (some ⟨W7.heap.size,0,none⟩) 3 3) _ at A7
   generalize W7.alloc (.cells #[.int .i64 2,.int .i64 13,.int .i64 22] 3)=W8 at *
   clear fa
   clear hK K
   try simp only [Act.put,qu,qv,qx]
   refine tree_one rfl rfl (fun K hK=>?_)
   go_simp
   refine (mixed_c v.a _ [2,13,22] W8 A7 (by decide)).mono ?_
   rintro e W9 ⟨rfl,fx⟩
   refine hK _ _ (S0.trans fx) ?_
   have S0:=S0.trans fx
   clear fx
   clear hK K
   try simp only [Act.put,qu,qv,qx]
   (refine tree_take (v:=?_) rfl rfl rfl S0 (fun w hS=>?_) ?_;rotate_left;(focus (clear hS;go_simp;rfl));simp only [qu,qv,qx])
   refine tree_last rfl rfl (fun K hK=>?_)
   go_simp
   try go_upon
   try go_simp
   refine hK _ _ ?_
   clear hK K
   refine noPanicN ?_
   clear A7
   clear e0 e1 e2 e4 e5 e6 e7 s1
   go_wp2_with fail
   refine reg_tree (Fr [] wr) 2 (.take 0 (.take 1 (.one 2 .nil))) (by kernel_rfl) (by kernel_rfl) (by kernel_rfl) rfl ?_
   have S0:=S0.trans (Fr.drew [] W9)
   generalize W9.drew=W9 at S0 ⊢
   (refine tree_take (v:=?_) rfl rfl rfl S0 (fun w hS=>?_) ?_;rotate_left;(focus (clear hS;go_simp;rfl));simp only [qu,qv,qx])
   (refine tree_take (v:=?_) rfl rfl rfl S0 (fun w hS=>?_) ?_;rotate_left;(focus (clear hS;go_simp;rfl));simp only [qu,qv,qx])
   refine tree_last rfl rfl (fun K hK=>?_)
   refine wp_copy_sh (.tmp 69) (.tmp 70) 150 150 296 rfl Tryz.underlying150 B5 7 8 v rfl rfl (S0.keep H5.out (by simp)) ?_
   intro W10 f10 h10
   refine hK _ _ ?_
   clear hK K
   refine noPanicN ?_
   have G1:=H1.out.trans S0
   have G4:=qj (f10.keep (S0.keep H4.out (by simp)) (by simp;have:=HB5.out;omega))
   have f4:W10.cell? ⟨B5,4,none⟩=some (.int .u32 v.d):=qd h10 4
   have f0:W10.cell? ⟨B5,0,none⟩=some (.int .u32 v.a):=qd h10 0
   have g4:=ql h10 4
   have g0:=ql h10 0
   have HX:=qj (fun x y=>qs (i:=4) y (qs (i:=0) x h10))
   have HF:=qj (fun x y=>(G1.step f10 (fun i hi=>.inr (by rw [List.mem_singleton] at hi;have:=HB5.out;omega))).step ((Fr.setCell (fp:=[B5]) W10 (p:=⟨B5,0,none⟩) x (by simp)).trans (Fr.setCell (fp:=[B5]) _ (p:=⟨B5,4,none⟩) y (by simp))) (fun i hi=>.inr (by rw [List.mem_singleton] at hi;have:=HB5.out;omega)))
   have HG4:=qj (fun x y=>heap_setCell_other (p:=⟨B5,4,none⟩) y (heap_setCell_other (p:=⟨B5,0,none⟩) x G4.out (by simp;have:=HB5.out;omega)) (by simp;have:=HB5.out;omega))
   clear h10 f10 G1 G4 S0
   go_wp2_with fail
   go_roundw
   case rel=>exact ⟨k+1,by omega,by go_num,qj (HF.out _ _),qj (HG4.out _ _),qj (by rw [HT.out];exact (HX.out _ _).trans (congrArg (fun c=>some (Obj.cells c 296 (0,0))) (rnd_cells v y x _ _ (rnd_a v y x) (rnd_e v y x))))⟩
   case measure=>simp [RowKit.intOf];omega
  ·have HK64:Shut (k=64):=⟨by omega⟩
   have HD:Shut (addB h l=sum8 h (rnds s h k)):=⟨by rw [addB,HS.out,HK64.out]⟩
   generalize rnds s h k=v at *
   go_wp2_with fail
   go_loopw [82] (fun i w2=>∃ j:Nat,j≤8∧i=.int .i64 j∧Hid (Fr [hb] w w2)∧Hid (w2.heap[B5]?=some (.cells (w8C v) 296 (0,0)))∧Hid (w2.heap[hb]?=some (.cells (u32A (part8 h v j)) 296 (0,0)))) (fun i _=>8 - (RowKit.intOf i).toNat)
   case atStart=>exact ⟨0,by omega,rfl,qj (H1.out.mono (by simp)),H5,qj (H1.out.keep HK.out (by simp))⟩
   case round =>
    obtain ⟨j,hj,rfl,G1,G5,GH⟩:=hrel
    by_cases hjl:j < 8
    ·have s1:wr.cell? ⟨hb,j,none⟩=some (.int .u32 (h.list.getD j 0)):=by rw [qd GH.out,u32A_get _ _ (by rw [part8_len h v hj];exact hjl),part8_get h v hjl]
     have s2:wr.cell? ⟨B5,j,none⟩=some (.int .u32 (v.list.getD j 0)):=by rw [qd G5.out,u32A_get _ _ (by rw [W8.list_len];exact hjl)]
     have HP:Shut ((part8 h v j).set j (IntKind.u32.wrap (h.list.getD j 0+v.list.getD j 0))=part8 h v (j+1)):=⟨part8_set h v hjl⟩
     generalize h.list.getD j 0=x at *
     generalize v.list.getD j 0=y at *
     go_wp2_with fail
     refine reg_tree (Fr [] wr) 11 (.take 0 (.take 1 (.take 2 (.take 3 (.take 4 (.take 5 (.take 6 (.take 7 (.take 8 (.take 9 (.take 10 (.one 11 .nil)))))))))))) (by kernel_rfl) (by kernel_rfl) (by kernel_rfl) rfl ?_
     have S0:Fr [] wr wr.drew:=Fr.drew _ _
     generalize wr.drew=WC at S0 ⊢
     (refine tree_take (v:=?_) rfl rfl rfl S0 (fun w hS=>?_) ?_;rotate_left;(focus (clear hS;go_simp;rfl));simp only [qu,qv,qx])
     (refine tree_take (v:=?_) rfl rfl rfl S0 (fun w hS=>?_) ?_;rotate_left;(focus (clear hS;go_simp;rfl));simp only [qu,qv,qx])
     (refine tree_take (v:=?_) rfl rfl rfl S0 (fun w hS=>?_) ?_;rotate_left;(focus (clear hS;go_simp;rfl));simp only [qu,qv,qx])
     (refine tree_take (v:=?_) rfl rfl rfl S0 (fun w hS=>?_) ?_;rotate_left;(focus (clear hS;go_simp;rfl));simp only [qu,qv,qx])
     (refine tree_take (v:=?_) rfl rfl rfl S0 (fun w hS=>?_) ?_;rotate_left;(focus (have s1':=hS.cel s1 (by simp);clear hS;go_simp;rfl));simp only [qu,qv,qx])
     (refine tree_take (v:=?_) rfl rfl rfl S0 (fun w hS=>?_) ?_;rotate_left;(focus (clear hS;go_simp;rfl));simp only [qu,qv,qx])
     (refine tree_take (v:=?_) rfl rfl rfl S0 (fun w hS=>?_) ?_;rotate_left;(focus (clear hS;go_simp;rfl));simp only [qu,qv,qx])
     (refine tree_take (v:=?_) rfl rfl rfl S0 (fun w hS=>?_) ?_;rotate_left;(focus (have s2':=hS.cel s2 (by simp);clear hS;go_simp;rfl));simp only [qu,qv,qx])
     (refine tree_take (v:=?_) rfl rfl rfl S0 (fun w hS=>?_) ?_;rotate_left;(focus (clear hS;go_simp;rfl));simp only [qu,qv,qx])
     (refine tree_take (v:=?_) rfl rfl rfl S0 (fun w hS=>?_) ?_;rotate_left;(focus (clear hS;go_simp;rfl));simp only [qu,qv,qx])
     (refine tree_take (v:=?_) rfl rfl rfl S0 (fun w hS=>?_) ?_;rotate_left;(focus (clear hS;go_simp;rfl));simp only [qu,qv,qx])
     have t0:=S0.cel s1 (by simp)
     have t1:=ql (S0.keep GH.out (by simp)) j
     refine tree_last rfl rfl (fun K hK=>?_)
     go_simp
     try go_upon
     try go_simp
     refine hK _ _ ?_
     clear hK K
     refine noPanicN ?_
     have X1:=qs (i:=j) (.int .u32 (IntKind.u32.wrap (x+y))) (S0.keep GH.out (by simp))
     rw [u32A_set,HP.out] at X1
     have HX:=qj X1
     have HF:=qj ((G1.out.trans (S0.mono (by simp))).trans (Fr.setCell (fp:=[hb]) WC (p:=⟨hb,j,none⟩) (.int .u32 (IntKind.u32.wrap (x+y))) (by simp)))
     have HG5:=qj (heap_setCell_other (p:=⟨hb,j,none⟩) (.int .u32 (IntKind.u32.wrap (x+y))) (S0.keep G5.out (by simp)) (by simp;have:=HB5.out;have:=HKB.out;omega))
     clear X1 t0 t1 s1 s2 S0
     go_wp2_with fail
     go_roundw
     case rel=>exact ⟨j+1,by omega,by go_num,HF.out,HG5.out,HX.out⟩
     case measure=>simp [RowKit.intOf];omega
    ·obtain rfl:j=8:=by omega
     go_wp2_with fail
     go_end0
     refine ⟨rfl,G1.out,?_⟩
     rw [HD.out]
     exact GH.out
end
section
open Go.RowKit Go.Lib
def digB (v:W8):ByteArray:=⟨((outL v).map toB).toArray⟩
theorem u8A_out (v:W8):u8A (outL v)=(byteCells ((outL v).map toB)).toArray:=by rw [u8A,u8C_bytes (outL_b v)]
set_option maxRecDepth 100000 in
set_option maxHeartbeats 4000000 in
theorem digest_c (v:W8) (w:World):Calls Tryz.prog 189 #[.agg (w8C v)] w fun e w'=>e=.returned (.string (digB v))∧Fr [] w w':=by
 rw [w8C_lit]
 go_enter Tryz.func189,Tryz.ntmps189
 go_upto_region 1 with fail
 change Code.wp _ _ _ _ (w.alloc (.cells (w8C v) 296))
 have hA:=qm w (.cells (w8C v) 296)
 have FA:=qj (Fr.alloc [] w (.cells (w8C v) 296))
 generalize w.alloc (.cells (w8C v) 296)=W1 at *
 obtain ⟨B1,hB⟩:∃ B,B=w.heap.size:=⟨_,rfl⟩
 rw [← hB] at hA ⊢
 have HA:=qj hA
 clear hA hB
 go_upto_region 2 with fail
 change Code.wp _ _ _ _ (W1.alloc (.cells (u8A (List.replicate 32 0)) 332))
 have hA3:=qm W1 (.cells (u8A (List.replicate 32 0)) 332)
 have F2:=qj (FA.out.trans (Fr.alloc [] W1 (.cells (u8A (List.replicate 32 0)) 332)))
 have hA1:=(Fr.alloc [] W1 (.cells (u8A (List.replicate 32 0)) 332)).keep HA.out (by simp)
 generalize W1.alloc (.cells (u8A (List.replicate 32 0)) 332)=W2 at *
 obtain ⟨B3,hB⟩:∃ B,B=W1.heap.size:=⟨_,rfl⟩
 have HB3:Hid (w.heap.size≤B3):=qj (by rw [hB];exact FA.out.size)
 rw [← hB] at hA3 ⊢
 have HA3:=qj hA3
 clear hA3 hB FA HA
 have d0:W2.cell? ⟨B1,0,none⟩=some (.int .u32 v.a):=qd hA1 0
 have d1:W2.cell? ⟨B1,1,none⟩=some (.int .u32 v.b):=qd hA1 1
 have d2:W2.cell? ⟨B1,2,none⟩=some (.int .u32 v.c):=qd hA1 2
 have d3:W2.cell? ⟨B1,3,none⟩=some (.int .u32 v.d):=qd hA1 3
 have d4:W2.cell? ⟨B1,4,none⟩=some (.int .u32 v.e):=qd hA1 4
 have d5:W2.cell? ⟨B1,5,none⟩=some (.int .u32 v.f):=qd hA1 5
 have d6:W2.cell? ⟨B1,6,none⟩=some (.int .u32 v.g):=qd hA1 6
 have d7:W2.cell? ⟨B1,7,none⟩=some (.int .u32 v.h):=qd hA1 7
 clear hA1
 go_wp2_with fail
 clear d0 d1 d2 d3 d4 d5 d6 d7
 go_loopw [8] (fun i wr=>∃ k:Nat,k≤8∧i=.int .i64 k∧Hid (Fr [] w wr)∧Hid (wr.heap[B3]?=some (.cells (u8A ((outL v).take (4*k)++List.replicate (32 - 4*k) 0)) 332 (0,0)))) (fun i _=>8 - (RowKit.intOf i).toNat)
 case atStart=>exact ⟨0,by omega,rfl,F2,HA3⟩
 case round =>
  obtain ⟨k,hk,rfl,H1,H3⟩:=hrel
  by_cases hlt:k < 8
  ·have i0:∀ W:World,(Instr.index 296 (.agg #[.int .u32 v.a,.int .u32 v.b,.int .u32 v.c,.int .u32 v.d,.int .u32 v.e,.int .u32 v.f,.int .u32 v.g,.int .u32 v.h]) (.int .i64 k)).run Tryz.prog W=.ok (.int .u32 (v.list.getD k 0)) W:=fun W=>arr_index (l:=v.list) Tryz.underlying296 rfl hlt
   have HO:Shut (∀ j,j < 4→(outL v).getD (4*k+j) 0=byteI (v.list.getD k 0 / 2 ^ (24 - 8*j))):=⟨fun j hj=>outL_get v k j hlt hj⟩
   generalize v.list.getD k 0=x at *
   go_wp2_with fail
   clear i0
   go_loopw [12] (fun i wq=>∃ j:Nat,j≤4∧i=.int .i64 j∧Hid (Fr [] w wq)∧Hid (wq.heap[B3]?=some (.cells (u8A ((outL v).take (4*k+j)++List.replicate (32 - (4*k+j)) 0)) 332 (0,0)))) (fun i _=>4 - (RowKit.intOf i).toNat)
   case atStart=>exact ⟨0,by omega,rfl,H1,H3⟩
   case round =>
    obtain ⟨j,hj,rfl,G1,G3⟩:=hrel
    by_cases hj4:j < 4
    ·have HT:Shut (((outL v).take (4*k+j)++List.replicate (32 - (4*k+j)) 0).set (4*k+j) (byteI (x / 2 ^ (24 - 8*j)))=(outL v).take (4*k+j+1)++List.replicate (32 - (4*k+j+1)) 0):=⟨outL_step v (4*k+j) _ (by omega) (HO.out j hj4)⟩
     have t0:wr.cell? ⟨B3,4*k+j,none⟩=some (.int .u8 (((outL v).take (4*k+j)++List.replicate (32 - (4*k+j)) 0).getD (4*k+j) 0)):=by
      rw [qd G3.out,u8A_get _ _ (by rw [List.length_append,List.length_take,List.length_replicate,outL_len];omega)]
     have t1:=ql G3.out (4*k+j)
     generalize ((outL v).take (4*k+j)++List.replicate (32 - (4*k+j)) 0).getD (4*k+j) 0=y at t0
     have HX:Shut (∀ z:Int,z=byteI (x / 2 ^ (24 - 8*j))→(wr.setCell ⟨B3,4*k+j,none⟩ (.int .u8 z)).heap[B3]?=some (.cells (u8A ((outL v).take (4*k+(j+1))++List.replicate (32 - (4*k+(j+1))) 0)) 332 (0,0))):=⟨fun z hz=>by
      rw [qs _ G3.out,u8A_set,hz,HT.out];rfl⟩
     have HF:Shut (∀ z:Value,Fr [] w (wr.setCell ⟨B3,4*k+j,none⟩ z)):=⟨fun z=>G1.out.step (Fr.setCell (fp:=[B3]) wr (p:=⟨B3,4*k+j,none⟩) z (by simp)) (fun i hi=>.inr (by rw [List.mem_singleton] at hi;have:=HB3.out;omega))⟩
     have hz:(4*(k:Int)+(j:Int)).toNat=4*k+j:=by omega
     have hm:min (24 - 8*(j:Int)).toNat 32=24 - 8*j:=by omega
     go_wp2_with fail
     go_roundw
     case rel=>exact ⟨j+1,by omega,by go_num,qj (HF.out _),qj (HX.out _ (by rw [byteI,IntKind.wrap_u8]))⟩
     case measure=>simp [RowKit.intOf];omega
    ·have HJ:Shut (j=4):=⟨by omega⟩
     go_wp2_with fail
     go_roundw
     case rel=>exact ⟨k+1,by omega,by go_num,G1,by rw [show 4*(k+1)=4*k+j by have:=HJ.out;omega];exact G3⟩
     case measure=>simp [RowKit.intOf];omega
  ·have h9:wr.heap[B3]?=some (.cells (u8A (outL v)) 332 (0,0)):=by
    have e:k=8:=by omega
    rw [H3.out,e,List.take_of_length_le (by rw [outL_len];omega)];simp
   rw [u8A_out] at h9
   have hb:BytesAt wr B3 332 ((outL v).map toB):=h9
   have HB:=qj hb
   clear h9 hb
   go_wp2_with (first | ((with_reducible refine wpList_of_wp (o:=⟨some 29,_,_,_,_,_⟩) rfl (fun K hK=>?_));apply stopD;case _other=>exact trivial))
   (refine stopD ?_ ?_;rotate_left;exact trivial)
   refine wp_bytes_str (.tmp 28) 39 9 5 rfl Tryz.underlying39 Tryz.underlying5 Tryz.underlying9 B3 0 32 32 _ 332 rfl HB.out (by rw [List.length_map,outL_len];omega) ?_
   refine hK _ _ ?_
   clear hK K
   go_wp2_with fail
   go_ret
   refine ⟨?_,H1.out⟩
   show Ending.returned (.string ⟨(((outL v).map toB).take 32).toArray⟩)=_
   rw [List.take_of_length_le (by rw [List.length_map,outL_len];omega)]
   rfl
end
section
open Go.RowKit Go.Lib
structure RowB (w:World) (base g cap n:Nat) (l:List Int):Prop where
 ge:base≤g
 len:l.length=n
 le:n≤cap
 max:cap≤9223372036854775807
 blk:∃ cur fz,w.heap[g]?=some (.cells cur 5 fz)∧cur.size=cap∧cur.toList.take n=u8C l∧∀ j,j < cap→¬ (fz.1≤j∧j < fz.2)
theorem RowB.same {w w':World} {base g cap n:Nat} {l:List Int} {S:List Nat} (h:RowB w base g cap n l) (hf:Fr S w w') (hS:g∉S):RowB w' base g cap n l:=by
 obtain ⟨cur,fz,h1,h2⟩:=h.blk
 exact ⟨h.ge,h.len,h.le,h.max,cur,fz,hf.keep h1 hS,h2⟩
theorem RowB.cell {w:World} {base g cap n:Nat} {l:List Int} (h:RowB w base g cap n l) {j:Nat} {u:Value} (hj:(u8C l)[j]?=some u):w.cell? ⟨g,j,none⟩=some u:=by
 obtain ⟨cur,fz,h1,h2,h3,_⟩:=h.blk
 have hl:j < n:=by
  have:=(List.getElem?_eq_some_iff.1 hj).1
  rw [← h.len];simpa using this
 rw [qd h1,← Array.getElem?_toList]
 rw [← h3,List.getElem?_take_of_lt hl] at hj
 exact hj
theorem infoBy:(Tryz.prog.info? 5).map (fun i=>(i.zero,i.size,i.bytes))=some (some (.int .u8 0),1,1):=by kernel_rfl
theorem add_at (g j:Nat):(⟨g,0,none⟩:Addr).add j=⟨g,j,none⟩:=by
 unfold Addr.add
 split
 ·rename_i h;subst h;rfl
 ·simp
theorem wp_append_b {o:Oper} {a:Act} {w:World} {K:Act→World→Prop} {Q:Exit→Act→World→Prop} (s x:Operand) (ho:o.op=.call { callee:=.builtin .append,args:=#[s,x],argTypes:=#[39,39] })
  (base g cap n:Nat) (l:List Int) (b:Int) (hs:a.eval s=.slice (some ⟨g,0,none⟩) n cap) (hr:RowB w base g cap n l) (hb:base≤w.heap.size) (sb c:Nat) (hx:a.eval x=.slice (some ⟨sb,0,none⟩) 1 c) (hsb:w.cell? ⟨sb,0,none⟩=some (.int .u8 b)) (hlen:n+1≤140737488355328)
  (h:∀ g' cap' w',RowB w' base g' cap' (n+1) (l++[b])→Fr [g] w w'→K (a.put o.dst (.slice (some ⟨g',0,none⟩) (n+1) cap')) w'):o.wp Tryz.prog a w K Q:=by
 obtain ⟨i,hi,hz0,hz1,hz2⟩:=info_parts infoBy
 have hnews:∀ j u,[Value.int .u8 b][j]?=some u→w.cell? ((⟨sb,0,none⟩:Addr).add j)=some u:=by
  intro j u hu
  match j with
  | 0=>simp only [List.getElem?_cons_zero,Option.some.injEq] at hu;subst hu;rw [add_at];exact hsb
  | j+1=>simp at hu
 obtain ⟨cur,fz,h1,h2,h3,h4⟩:=hr.blk
 have hcl:(u8C l).length=n:=by simp [hr.len]
 have hul:(u8C (l++[b]))=u8C l++[.int .u8 b]:=by simp [u8C]
 have key:∃ g' cap' w',(Builtin.append_ #[39,39] o.type #[.slice (some ⟨g,0,none⟩) n cap,.slice (some ⟨sb,0,none⟩) 1 c]).run Tryz.prog w=.ok (.slice (some ⟨g',0,none⟩) (n+1) cap') w'∧RowB w' base g' cap' (n+1) (l++[b])∧Fr [g] w w':=by
  by_cases hroom:n+1≤cap
  ·have hrun:=run_append_room_cells (P:=Tryz.prog) w 39 o.type 5 i Tryz.underlying39 hi g 0 n cap ⟨sb,0,none⟩ 1 c [.int .u8 b] (by simp [hz1]) hnews (by simp [Value.oneCell']) hroom
    (fun j hj=>by
     simp only [List.length_cons,List.length_nil] at hj
     rw [hz1,qd h1,Array.getElem?_eq_getElem (by omega)];rfl)
    (fun j hj=>by
     simp only [List.length_cons,List.length_nil] at hj
     simp only [World.frozen?,h1,Bool.and_eq_false_iff,decide_eq_false_iff_not]
     have:=h4 (0+n*i.size+j) (by rw [hz1];omega)
     rw [Decidable.not_and_iff_or_not] at this
     exact this)
   refine ⟨g,cap,_,hrun,?_,?_⟩
   ·have e:w.setCells g (0+n*i.size) [.int .u8 b]=w.setCell ⟨g,n,none⟩ (.int .u8 b):=by rw [hz1,Nat.mul_one,Nat.zero_add];rfl
    rw [e]
    refine ⟨hr.ge,by simp [hr.len],hroom,hr.max,_,fz,qs _ h1,by simp [h2],?_,h4⟩
    rw [hul,Array.toList_setIfInBounds,List.take_succ_eq_append_getElem (by simp;omega),List.getElem_set_self,List.take_set_of_le (Nat.le_refl _),h3]
   ·have e:w.setCells g (0+n*i.size) [.int .u8 b]=w.setCell ⟨g,0+n*i.size,none⟩ (.int .u8 b):=rfl
    rw [e]
    exact Fr.setCell _ _ (by simp)
  ·have hrun:=run_append_grow (P:=Tryz.prog) w 39 o.type 5 i (.int .u8 0) Tryz.underlying39 hi hz0 ⟨g,0,none⟩ n cap (u8C l) (by rw [hcl,hz1,Nat.mul_one]) (fun j u hu=>by rw [add_at];exact hr.cell hu) ⟨sb,0,none⟩ 1 c [.int .u8 b] (by simp [hz1]) hnews (by omega) (by omega) (growslice_fits (by omega) (by rw [hz2];omega))
   have hge:=grownCap_ge w (n+1) cap 5
   have hcm:=grownCap_le_maxLen w (n+1) cap 5 (by simp only [maxLen];omega)
   refine ⟨_,_,_,hrun,⟨hb,by simp [hr.len],hge,by simp only [maxLen] at hcm;omega,_,(0,0),qm w.drew _,?_,?_,fun j _=>by simp⟩,(Fr.drew _ _).trans (Fr.alloc _ _ _)⟩
   ·have hz1':(Value.int IntKind.u8 0).cells.size=1:=rfl
    simp only [Array.size_append,List.size_toArray,size_zeroCells,hz1',hcl,List.length_cons,List.length_nil]
    omega
   ·rw [hul]
    simp only [Array.toList_append]
    rw [List.take_left' (by simp [hr.len])]
 obtain ⟨g',cap',w',hrun,hr2,hf⟩:=key
 unfold Oper.wp execOp
 simp only [ho,resolve,invoke,builtin,Sem.run_bind,Sem.run_pure,Result.andThen_ok,List.map_toArray,List.map_cons,List.map_nil,hs,hx,hrun]
 exact h g' cap' w' hr2 hf
theorem wp_str_bytes {o:Oper} {a:Act} {w:World} {K:Act→World→Prop} {Q:Exit→Act→World→Prop} (x:Operand) (ho:o.op=.convert 9 39 x) (s:ByteArray) (hx:a.eval x=.string s) (hl:s.size≤9223372036854775807) (base:Nat) (hb:base≤w.heap.size)
  (h:∀ g cap w',RowB w' base g cap s.size (bI s.data.toList)→Fr [] w w'→K (a.put o.dst (.slice (some ⟨g,0,none⟩) s.size cap)) w'):o.wp Tryz.prog a w K Q:=by
 have hrun:=Lib.run_convert_string_bytes (P:=Tryz.prog) w 9 39 5 s Tryz.underlying9 Tryz.underlying39 Tryz.underlying5
 have hge:=grownCap_ge w s.size 0 5
 have hcm:=grownCap_le_maxLen w s.size 0 5 (by simp only [maxLen];exact hl)
 have hz:(bytesCells w 5 s).size=grownCap w s.size 0 5:=by
  simp only [bytesCells,Array.size_append,Array.size_map,Array.size_replicate]
  have:s.data.size=s.size:=rfl
  omega
 unfold Oper.wp execOp
 simp only [ho,Sem.run_bind,Sem.run_pure,Result.andThen_ok,hx,hrun]
 refine h _ _ _ ⟨hb,by rw [bI_len];rfl,hge,by simp only [maxLen] at hcm;omega,_,_,bytesWorld_at_new w 5 s,hz,?_,fun j hj=>by rw [hz];simp only;omega⟩ ⟨rfl,rfl,rfl,by rw [bytesWorld_size];omega,fun k hk _=>bytesWorld_at_old w 5 s k hk⟩
 rw [u8C_bI,bytesCells,Array.toList_append,List.take_left' (by simp)]
 simp [byteCells]
end
section
open Go.RowKit Go.Shelf Go.Lib
structure KpO (n bq:Nat) (A B:World):Prop where
 os:B.os=A.os
 tape:B.tape=A.tape
 output:B.output=A.output
 size:A.heap.size≤B.heap.size
 block:∀ k,k < n→k≠bq→B.heap[k]?=A.heap[k]?
theorem KpO.trans {n bq:Nat} {A B C:World} (h:KpO n bq A B) (k:KpO n bq B C):KpO n bq A C:=⟨k.os.trans h.os,k.tape.trans h.tape,k.output.trans h.output,Nat.le_trans h.size k.size,fun i hi hn=>(k.block i hi hn).trans (h.block i hi hn)⟩
theorem KpO.of {n bq:Nat} {A B:World} (h:Fr [bq] A B) (hn:n≤A.heap.size):KpO n bq A B:=⟨h.os,h.tape,h.output,h.size,fun k hk hb=>h.block k (Nat.lt_of_lt_of_le hk hn) (by simpa using hb)⟩
theorem KpO.fr {bq:Nat} {w A B:World} (h:Fr [bq] w A) (k:KpO w.heap.size bq A B):Fr [bq] w B:=⟨k.os.trans h.os,k.tape.trans h.tape,k.output.trans h.output,Nat.le_trans h.size k.size,fun i hi hn=>(k.block i hi (by simpa using hn)).trans (h.block i hi hn)⟩
theorem KpO.put {n bq:Nat} (W:World) (l:Nat) (o o':Obj) (hn:n≤l) (h:W.heap[l]?=some o):KpO n bq W (W.putObj l o'):=by
 have hg:=grownBy_putObj' W l o'
 have hl:=(Array.getElem?_eq_some_iff.1 h).1
 exact ⟨hg.os,hg.tape,hg.output,hg.size,fun k hk _=>hg.block k (by omega) (fun e=>by cases e;omega)⟩
theorem keepsFromO {B bP:Nat} {W W':World} (hf:Fr [bP] W W') (hb:bP < B):KeepsFrom B W W':=⟨hf.size,fun k o hk hB _=>hf.keep hB (by simp;omega)⟩
theorem Fr.grownO {A B:World} (hf:Fr [] A B):A.grownBy B none:=⟨hf.os,hf.tape,hf.output,hf.size,fun k hk _=>hf.block k hk (by simp)⟩
end
section
open Go.RowKit Go.Shelf Go.Lib
attribute [local go_sem] Oper.semAt_some
theorem finTake {m k:Nat} (h:k < m):(List.finRange m).take (k+1)=(List.finRange m).take k++[⟨k,h⟩]:=by
 rw [List.take_succ_eq_append_getElem (by simpa using h)]
 simp
theorem sl_tail {w:World} {g k n cap:Nat} {R:Result Next} (hn:64*k≤n) (hc:64*k < cap):(if 0≤64*(k:Int)∧64*(k:Int)≤(n:Int) then Result.ok (Next.value (.slice (if cap=(64*(k:Int)).toNat then some ⟨g,0,none⟩ else some ⟨g,(64*(k:Int)).toNat,none⟩) (n - (64*(k:Int)).toNat) (cap - (64*(k:Int)).toNat))) w else R)=.ok (Next.value (.slice (some ⟨g,64*k,none⟩) (n - 64*k) (cap - 64*k))) w:=by
 have e:(64*(k:Int)).toNat=64*k:=by omega
 rw [if_pos (by omega),e,if_neg (by omega)]
set_option maxRecDepth 100000 in
set_option maxHeartbeats 4000000 in
theorem chunk1_in (N l g cap m n bx bn:Nat) (W0:World) (bq:Nat) (hx:W0.heap[bx]?=some (.cells #[.slice (some ⟨g,0,none⟩) n cap] 39 (0,0))) (hb:W0.heap[bn]?=some (.cells #[.int .i64 64] 3 (0,0))) (hxq:bx≠bq) (hbq:bn≠bq)
  (hn1:n≤64*m) (hn2:64*m≤n) (hcap:n≤cap) (_hc:cap≤9223372036854775807) (hbig:n≤140737488355328)
  (J Jx:List (Fin m)→World→Prop)
  (hY:∀ pre x W,J pre W→pre.length < m→YieldAt Fence.wide (N - 1) Tryz.prog l #[.slice (some ⟨g,64*x.1,none⟩) 64 64] W fun e W' =>
   (e=.returned (.bool true)∧J (pre++[x]) W'∧KpO W0.heap.size bq W W')∨(e=.returned (.bool false)∧Jx (pre++[x]) W'))
  (hJ:∀ s A B,J s A→Fr [] A B→J s B)
  (W:World) (hW:Below W0.heap.size W0 W) (h0:J [] W) :
  CallsIn Fence.wide N Tryz.prog 202 #[.func (.yield l) #[] #[],.pointer (some ⟨bx,0,none⟩),.pointer (some ⟨bn,0,none⟩)] W fun e W'=>(∃ v,e=.returned v) ∧
   ((∃ ys,ys=List.finRange m∧J ys W')∨(∃ pre,pre <+: List.finRange m∧Jx pre W')):=by
 have HX:=qj hx;have HB:=qj hb
 have HY:=qj hY
 have HJ:=qj hJ
 have HW:=qj ((Fr.of_below [] hW).mono (fp2:=[bq]) (by simp))
 have HJ0:=qj h0
 clear hx hb hY hJ hW h0
 refine callsIn_of_wp Tryz.func202 rfl trivial ?_ rfl
 simp only [Tryz.ntmps202,List.size_toArray,List.length_cons,List.length_nil,Nat.reduceAdd,Nat.reduceSub,Array.replicate_succ,Array.replicate_zero,List.push_toArray,List.append_toArray,List.nil_append,List.cons_append]
 gi_wp2
 gi_loopw [4] (fun s wr=>∃ k:Nat,k≤m∧s=.int .i64 (64*(k:Int))∧Hid (Fr [bq] W0 wr)∧Hid (J ((List.finRange m).take k) wr)) (fun s _=>n - (RowKit.intOf s).toNat)
 case atStart=>exact ⟨0,Nat.zero_le _,rfl,HW,HJ0⟩
 case round =>
  obtain ⟨k,hk,rfl,HF,HP⟩:=hrel
  have cx:=qd (HF.out.keep HX.out (by simpa using hxq)) 0
  have cn:=qd (HF.out.keep HB.out (by simpa using hbq)) 0
  by_cases hlt:k < m
  ·have hkn:64*k+64≤n:=by omega
   gi_wp2
   refine wpIn_wide.2 ?_
   refine reg_mix (Fr [] wr) [0,1,2,3,4,5,6] (by kernel_rfl) (by kernel_rfl) (by kernel_rfl) rfl (Fr.drew _ _) ?_
   have FC:Fr [] wr wr.drew:=Fr.drew _ _
   generalize wr.drew=WC at FC ⊢
   iterate 3 (refine mix_take1 (v:=?_) rfl rfl rfl rfl (fun w hS=>?_) ?_;rotate_left;(focus (have s0:=hS.cel cx (by simp);have s1:=hS.cel cn (by simp);clear hS;go_simp;rfl));simp only [qu,qv,qx])
   (refine mix_take1 (v:=?_) rfl rfl rfl rfl (fun w hS=>?_) ?_;rotate_left;(focus (clear hS;go_simp;refine sl_tail ?_ ?_ <;> omega));simp only [qu,qv,qx])
   (refine mix_take1 (v:=?_) rfl rfl rfl rfl (fun w hS=>?_) ?_;rotate_left;(focus (clear hS;go_simp;rfl));simp only [qu,qv,qx])
   (refine mix_take1 (v:=?_) rfl rfl rfl rfl (fun w hS=>?_) ?_;rotate_left;(focus (clear hS;go_simp;rw [show min (64:Int) ((n - 64*k:Nat):Int)=64 by omega]));simp only [qu,qv,qx])
   (refine mix_take1 (v:=?_) rfl rfl rfl rfl (fun w hS=>?_) ?_;rotate_left;(focus (clear hS;go_simp;rfl));simp only [qu,qv,qx])
   refine mix_end ?_
   have HPC:=qj (HJ.out _ _ _ HP.out FC)
   have HFC:=qj (HF.out.trans (FC.mono (fp2:=[bq]) (by simp)))
   have cx:=FC.cel cx (by simp)
   clear FC cn
   obtain ⟨fn,tmps,assign,body,hy,hR⟩:=HY.out _ ⟨k,hlt⟩ WC HPC.out (by rw [List.length_take,List.length_finRange];omega)
   have HRR:=qj hR
   dsimp only at hy
   clear hR
   gi_wp2
   refine ⟨fun hh=>(by cases hh),?_⟩
   refine HRR.out.mono ?_
   rintro e W3 (⟨rfl,hJ3,hk3⟩ | ⟨rfl,hJx3⟩)
   ·have HF3:=qj (KpO.fr HFC.out hk3)
    have HJ3:=qj hJ3
    have cn3:=qd (HF3.out.keep HB.out (by simpa using hbq)) 0
    clear hk3 hJ3 cx
    gi_wp2
    go_roundw
    case rel=>exact ⟨k+1,by omega,congrArg (Value.int .i64) (by omega),HF3,by rw [finTake hlt];exact HJ3⟩
    case measure=>simp [RowKit.intOf];omega
   ·gi_wp2
    refine bodyPost_ret (results_none rfl _ _ _) rfl ?_
    exact ⟨⟨_,rfl⟩,.inr ⟨_,by rw [← finTake hlt];exact List.take_prefix _ _,hJx3⟩⟩
  ·have hkm:k=m:=by omega
   have HPM:Hid (J (List.finRange m) wr):=qj (by have:=HP.out;rwa [List.take_of_length_le (by rw [List.length_finRange];omega)] at this)
   have hge:¬ (64*(k:Int) < n):=by omega
   clear hkm
   gi_wp2
   go_end0
   exact ⟨⟨_,rfl⟩,.inl HPM.out⟩
theorem chunk_seq (g cap m n bx bn:Nat) (W0:World) (bq:Nat) (hx:W0.heap[bx]?=some (.cells #[.slice (some ⟨g,0,none⟩) n cap] 39 (0,0))) (hb:W0.heap[bn]?=some (.cells #[.int .i64 64] 3 (0,0))) (hxq:bx≠bq) (hbq:bn≠bq)
  (hn1:n≤64*m) (hn2:64*m≤n) (hcap:n≤cap) (hc:cap≤9223372036854775807) (hbig:n≤140737488355328) :
  SeqStopsK Fence.wide 2 Tryz.prog 202 #[.pointer (some ⟨bx,0,none⟩),.pointer (some ⟨bn,0,none⟩)] (fun x:Fin m=>#[.slice (some ⟨g,64*x.1,none⟩) 64 64]) (KpO W0.heap.size bq) (fun ys=>ys=List.finRange m) (fun pre=>pre <+: List.finRange m) m W0:=by
 intro l J Jx W hW hJ _ hY h0
 refine (chunk1_in 2 l g cap m n bx bn W0 bq hx hb hxq hbq hn1 hn2 hcap hc hbig J Jx hY (fun s A B hj hf=>hJ s A B none hj hf.grownO (fun r e=>by cases e)) W hW h0).mono ?_
 rintro e W' ⟨he,⟨ys,h1,h2⟩ | ⟨pre,h1,h2⟩⟩
 ·exact ⟨he,.inl ⟨_,h1,h2⟩⟩
 ·exact ⟨he,.inr ⟨_,h1,h2⟩⟩
set_option maxRecDepth 100000 in
theorem chunk_c (a:Option Addr) (n cap:Nat) (w:World):Calls Tryz.prog 187 #[.slice a n cap,.int .i64 64] w fun e w'=>e=.returned (.func (.func 202) #[] #[.pointer (some ⟨w.heap.size,0,none⟩),.pointer (some ⟨w.heap.size+1,0,none⟩)])∧w'=(w.alloc (.cells #[.slice a n cap] 39)).alloc (.cells #[.int .i64 64] 3):=by
 go_enter Tryz.func187,Tryz.ntmps187
 go_wp2_with fail
 go_ret
 exact ⟨rfl,rfl⟩
end
end Go.Proofs.YtledkokhghjfmaaGreatDoor
