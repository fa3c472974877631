/-
  Made: a notice of kind 1.
-/
import Derived.Test.YtledkokhghjfmaaGreatDoorPN12
namespace Go.Proofs.YtledkokhghjfmaaGreatDoor
open Go.RowKit Go.Shelf Go.Lib
set_option maxRecDepth 100000 in
set_option maxHeartbeats 40000000 in
theorem made1_c (s c0 c1 c2 c3 c4 c5:Int) (w:World) (hk:1+pkI c0 3=1) (hs:0≤s∧s≤7) (h0:I64 c0) (h1:I64 c1) (h2:I64 c2) (h3:I64 c3) (h4:I64 c4) (h5:I64 c5) :
  Calls Tryz.prog 6 #[.int .i64 s,.agg #[.int .i64 c0,.int .i64 c1,.int .i64 c2,.int .i64 c3,.int .i64 c4,.int .i64 c5]] w fun e w'=>∃ t,e=.returned (ntV t)∧fmN t=true∧t.src=s∧Fr [] w w':=by
 have HKD:=qj hk
 clear hk
 have b03:=pkI_bd c0 (n:=3) (by decide);have b14:=pkI_bd c1 (n:=4) (by decide)
 have q1:IntKind.i64.wrap (1+pkI c0 3)=1+pkI c0 3:=IntWalk.i64_in _ (by omega);have q2:IntKind.i64.wrap (5*pkI c1 4)=5*pkI c1 4:=IntWalk.i64_in _ (by omega);have q3:IntKind.i64.wrap (10+5*pkI c1 4)=10+5*pkI c1 4:=IntWalk.i64_in _ (by omega)
 obtain ⟨F0,BX,BR⟩:=two_more w (.cells #[.int .i64 c0,.int .i64 c1,.int .i64 c2,.int .i64 c3,.int .i64 c4,.int .i64 c5] 22) (.cells (ntC nt0).toArray 31)
 obtain ⟨W0,hW0⟩:∃ W0,(w.alloc (.cells #[.int .i64 c0,.int .i64 c1,.int .i64 c2,.int .i64 c3,.int .i64 c4,.int .i64 c5] 22)).alloc (.cells (ntC nt0).toArray 31)=W0:=⟨_,rfl⟩
 rw [hW0] at F0 BX BR
 have HW:=qj hW0
 have HX:=qj BX;have HR:Hid (NtAt W0 (w.heap.size+1) nt0):=qj BR;have HF:=qj F0
 clear hW0 F0 BX BR
 go_enter Tryz.func6,Tryz.ntmps6
 go_upto_region 1 with fail
 change Code.wp _ _ _ _ ((w.alloc (.cells #[.int .i64 c0,.int .i64 c1,.int .i64 c2,.int .i64 c3,.int .i64 c4,.int .i64 c5] 22)).alloc (.cells (ntC nt0).toArray 31))
 rw [HW.out]
 clear HW
 apply wp_joinN (R:=fun nb w'=>Hid (NtAt w' nb ⟨s,1+pkI c0 3,10+5*pkI c1 4,0,0,0,0,0,0,0,0,false,0,0,0⟩∧Fr [] W0 w'∧W0.heap.size≤nb))
 rotate_left 0
 focus
  refine reg_tree (Fr [] W0) 12 (.take 0 (.take 1 (.take 2 (.take 5 (.take 6 (.two 3 11 (.take 4 (.two 7 11 (.take 8 (.take 9 (.take 10 (.one 11 (.one 12 .nil))))) (.one 7 (.take 8 (.take 9 (.take 10 (.one 12 .nil))))))) (.one 3 (.take 4 (.one 7 (.take 8 (.take 9 (.take 10 (.one 12 .nil)))))))))))))  (by kernel_rfl) (by kernel_rfl) (by kernel_rfl) rfl ?_
  have FC:Fr [] W0 W0.drew:=Fr.drew _ _
  generalize W0.drew=WC at FC ⊢
  iterate 5 (refine tree_take (v:=?_) rfl rfl rfl FC (fun w hS=>?_) ?_;rotate_left;(focus (have X:=hS.keep HX.out (by simp);have x0:=qd X 0;have x1:=qd X 1;have x2:=qd X 2;have x3:=qd X 3;have x4:=qd X 4;have x5:=qd X 5;clear X;clear hS;go_simp;rfl));simp only [qu,qv,qx])
  refine ⟨?_,?_⟩
  ·refine tree_op rfl rfl (fun K hK=>?_)
   go_simp
   refine (r43Pick_c _ _ _ h0 (by decide)).mono ?_
   rintro e wp ⟨rfl,hw⟩
   rw [hw]
   clear hw wp
   refine hK _ _ FC ?_
   clear hK K
   try simp only [Act.put,qu,qv,qx]
   iterate 1 (refine tree_take (v:=?_) rfl rfl rfl FC (fun w hS=>?_) ?_;rotate_left;(focus (have X:=hS.keep HX.out (by simp);have x0:=qd X 0;have x1:=qd X 1;have x2:=qd X 2;have x3:=qd X 3;have x4:=qd X 4;have x5:=qd X 5;clear X;clear hS;go_simp;rfl));simp only [qu,qv,qx])
   refine ⟨?_,?_⟩
   ·refine tree_op rfl rfl (fun K hK=>?_)
    go_simp
    refine (r43Pick_c _ _ _ h1 (by decide)).mono ?_
    rintro e wp ⟨rfl,hw⟩
    rw [hw]
    clear hw wp
    refine hK _ _ FC ?_
    clear hK K
    try simp only [Act.put,qu,qv,qx]
    iterate 3 (refine tree_take (v:=?_) rfl rfl rfl FC (fun w hS=>?_) ?_;rotate_left;(focus (have X:=hS.keep HX.out (by simp);have x0:=qd X 0;have x1:=qd X 1;have x2:=qd X 2;have x3:=qd X 3;have x4:=qd X 4;have x5:=qd X 5;clear X;clear hS;go_simp;rfl));simp only [qu,qv,qx])
    refine tree_one rfl rfl (fun K hK=>?_)
    go_simp
    have FA:=Fr.alloc [] WC (.cells (ntC nt0).toArray 31)
    have BN:NtAt (WC.alloc (.cells (ntC nt0).toArray 31)) WC.heap.size nt0:=qm WC (.cells (ntC nt0).toArray 31)
    have hgl:W0.heap.size≤WC.heap.size:=FC.size
    have FC:=FC.trans FA
    refine hK _ _ FC ?_
    clear hK K FA
    try simp only [Act.put,qu,qv,qx]
    change wpTree _ _ _ _ _ _ _ (WC.alloc (.cells (ntC nt0).toArray 31))
    generalize WC.alloc (.cells (ntC nt0).toArray 31)=WD at *
    generalize WC.heap.size=nb at *
    try simp only [q1,q2,q3]
    refine tree_last rfl rfl (fun K hK=>?_)
    refine wp_nt (.tmp 5) (.tmp 17) nb nt0 ⟨s,1+pkI c0 3,10+5*pkI c1 4,0,0,0,0,0,0,0,0,false,0,0,0⟩ rfl rfl rfl BN rfl (fun W' hn fn=>hK _ _ ?_)
    clear hK K
    refine noPanicN ?_
    exact ⟨rfl,nb,rfl,qj ⟨hn,FC.step fn (fun k hk=>.inr (by simp at hk;omega)),hgl⟩⟩
   ·refine tree_op rfl rfl (fun K hK=>?_)
    go_simp
    have FA:=Fr.alloc [] WC (.cells (ntC nt0).toArray 31)
    have BN:NtAt (WC.alloc (.cells (ntC nt0).toArray 31)) WC.heap.size nt0:=qm WC (.cells (ntC nt0).toArray 31)
    have hgl:W0.heap.size≤WC.heap.size:=FC.size
    have FC:=FC.trans FA
    refine hK _ _ FC ?_
    clear hK K FA
    try simp only [Act.put,qu,qv,qx]
    change wpTree _ _ _ _ _ _ _ (WC.alloc (.cells (ntC nt0).toArray 31))
    generalize WC.alloc (.cells (ntC nt0).toArray 31)=WD at *
    generalize WC.heap.size=nb at *
    refine tree_one rfl rfl (fun K hK=>?_)
    go_simp
    refine (r43Pick_c _ _ _ h1 (by decide)).mono ?_
    rintro e wp ⟨rfl,hw⟩
    rw [hw]
    clear hw wp
    refine hK _ _ FC ?_
    clear hK K
    try simp only [Act.put,qu,qv,qx]
    iterate 3 (refine tree_take (v:=?_) rfl rfl rfl FC (fun w hS=>?_) ?_;rotate_left;(focus (have X:=hS.keep HX.out (by simp);have x0:=qd X 0;have x1:=qd X 1;have x2:=qd X 2;have x3:=qd X 3;have x4:=qd X 4;have x5:=qd X 5;clear X;clear hS;go_simp;rfl));simp only [qu,qv,qx])
    try simp only [q1,q2,q3]
    refine tree_last rfl rfl (fun K hK=>?_)
    refine wp_nt (.tmp 5) (.tmp 17) nb nt0 ⟨s,1+pkI c0 3,10+5*pkI c1 4,0,0,0,0,0,0,0,0,false,0,0,0⟩ rfl rfl rfl BN rfl (fun W' hn fn=>hK _ _ ?_)
    clear hK K
    refine noPanicN ?_
    exact ⟨rfl,nb,rfl,qj ⟨hn,FC.step fn (fun k hk=>.inr (by simp at hk;omega)),hgl⟩⟩
  ·refine tree_op rfl rfl (fun K hK=>?_)
   go_simp
   have FA:=Fr.alloc [] WC (.cells (ntC nt0).toArray 31)
   have BN:NtAt (WC.alloc (.cells (ntC nt0).toArray 31)) WC.heap.size nt0:=qm WC (.cells (ntC nt0).toArray 31)
   have hgl:W0.heap.size≤WC.heap.size:=FC.size
   have FC:=FC.trans FA
   refine hK _ _ FC ?_
   clear hK K FA
   try simp only [Act.put,qu,qv,qx]
   change wpTree _ _ _ _ _ _ _ (WC.alloc (.cells (ntC nt0).toArray 31))
   generalize WC.alloc (.cells (ntC nt0).toArray 31)=WD at *
   generalize WC.heap.size=nb at *
   refine tree_one rfl rfl (fun K hK=>?_)
   go_simp
   refine (r43Pick_c _ _ _ h0 (by decide)).mono ?_
   rintro e wp ⟨rfl,hw⟩
   rw [hw]
   clear hw wp
   refine hK _ _ FC ?_
   clear hK K
   try simp only [Act.put,qu,qv,qx]
   iterate 1 (refine tree_take (v:=?_) rfl rfl rfl FC (fun w hS=>?_) ?_;rotate_left;(focus (have X:=hS.keep HX.out (by simp);have x0:=qd X 0;have x1:=qd X 1;have x2:=qd X 2;have x3:=qd X 3;have x4:=qd X 4;have x5:=qd X 5;clear X;clear hS;go_simp;rfl));simp only [qu,qv,qx])
   refine tree_one rfl rfl (fun K hK=>?_)
   go_simp
   refine (r43Pick_c _ _ _ h1 (by decide)).mono ?_
   rintro e wp ⟨rfl,hw⟩
   rw [hw]
   clear hw wp
   refine hK _ _ FC ?_
   clear hK K
   try simp only [Act.put,qu,qv,qx]
   iterate 3 (refine tree_take (v:=?_) rfl rfl rfl FC (fun w hS=>?_) ?_;rotate_left;(focus (have X:=hS.keep HX.out (by simp);have x0:=qd X 0;have x1:=qd X 1;have x2:=qd X 2;have x3:=qd X 3;have x4:=qd X 4;have x5:=qd X 5;clear X;clear hS;go_simp;rfl));simp only [qu,qv,qx])
   try simp only [q1,q2,q3]
   refine tree_last rfl rfl (fun K hK=>?_)
   refine wp_nt (.tmp 5) (.tmp 17) nb nt0 ⟨s,1+pkI c0 3,10+5*pkI c1 4,0,0,0,0,0,0,0,0,false,0,0,0⟩ rfl rfl rfl BN rfl (fun W' hn fn=>hK _ _ ?_)
   clear hK K
   refine noPanicN ?_
   exact ⟨rfl,nb,rfl,qj ⟨hn,FC.step fn (fun k hk=>.inr (by simp at hk;omega)),hgl⟩⟩
 rintro A w1 HA
 have HM:Hid (MdE w [.int .i64 c0,.int .i64 c1,.int .i64 c2,.int .i64 c3,.int .i64 c4,.int .i64 c5] w1 A ⟨s,1+pkI c0 3,10+5*pkI c1 4,0,0,0,0,0,0,0,0,false,0,0,0⟩):=qj ⟨HA.out.2.1.keep HX.out (by simp),HA.out.2.1.keep HR.out (by simp),HA.out.1,HF.out.trans HA.out.2.1,by have h7:=blk_lt HR.out;have h8:=HA.out.2.2;omega⟩
 clear HX HR HF HA
 have x0:=qd HM.out.x 0;have x1:=qd HM.out.x 1;have x2:=qd HM.out.x 2;have x3:=qd HM.out.x 3;have x4:=qd HM.out.x 4;have x5:=qd HM.out.x 5
 go_upto_if 21 with fail
 refine (r43Pick_c _ _ _ h1 (by decide)).mono ?_
 rintro e wp ⟨rfl,hw⟩
 rw [hw]
 clear hw wp
 go_upto_if 21 with fail
 clear x0 x1 x2 x3 x4 x5
 go_cut [] from 18 (fun W=>∃ num:Int,Hid (0≤num∧num≤99999999)∧Hid (MdE w [.int .i64 c0,.int .i64 c1,.int .i64 c2,.int .i64 c3,.int .i64 c4,.int .i64 c5] W A ⟨s,1+pkI c0 3,num,0,0,0,0,0,0,0,0,false,0,0,0⟩))
 case first =>
  have b40:=pkI_bd c1 (n:=40) (by decide)
  by_cases h15:pkI c1 16=15
  ·have x0:=qd HM.out.x 0;have x1:=qd HM.out.x 1;have x2:=qd HM.out.x 2;have x3:=qd HM.out.x 3;have x4:=qd HM.out.x 4;have x5:=qd HM.out.x 5
   have y2:=HM.out.a.cells 2 _ rfl;have z2:=ql HM.out.a 2
   go_wp2_with fail
   refine (r43Pick_c _ _ _ h1 (by decide)).mono ?_
   rintro e wp ⟨rfl,hw⟩
   rw [hw]
   clear hw wp
   go_wp2_with fail
   go_meet
   case rel =>
    obtain ⟨f9,n9⟩:=HM.out.a.cell 2 (.int .i64 (pkI c1 40)) (t':=⟨s,1+pkI c0 3,pkI c1 40,0,0,0,0,0,0,0,0,false,0,0,0⟩) rfl
    exact ⟨pkI c1 40,qj (by omega),qj (HM.out.put f9 n9)⟩
  ·go_wp2_with fail
   go_meet
   case rel=>exact ⟨_,qj (by omega),HM⟩
 case rest =>
  obtain ⟨num,HN,HM⟩:=hcut
  have hkd:=HKD.out
  clear HKD
  have b26:=pkI_bd c2 (n:=6) (by decide);have b260:=pkI_bd c2 (n:=60) (by decide);have b23:=pkI_bd c2 (n:=3) (by decide);have b33:=pkI_bd c3 (n:=3) (by decide);have b32:=pkI_bd c3 (n:=2) (by decide);have b42:=pkI_bd c4 (n:=2) (by decide);have b54:=pkI_bd c5 (n:=4) (by decide);have b53:=pkI_bd c5 (n:=3) (by decide);have b56:=pkI_bd c5 (n:=6) (by decide)
  clear q1 q2 q3
  generalize 1+pkI c0 3=kd at *
  have x0:=qd HM.out.x 0;have x1:=qd HM.out.x 1;have x2:=qd HM.out.x 2;have x3:=qd HM.out.x 3;have x4:=qd HM.out.x 4;have x5:=qd HM.out.x 5
  have y1:=HM.out.a.cells 1 _ rfl;have z1:=ql HM.out.a 1
  go_wp2_with fail
  refine (r43Pick_c _ _ _ h2 (by decide)).mono ?_
  rintro e wp ⟨rfl,hw⟩
  rw [hw]
  clear hw wp
  go_upto_if 31 with fail
  clear x0 x1 x2 x3 x4 x5 y1 z1
  subst hkd
  go_upto_region 6 with fail
  refine reg_tree (Fr [] wc) 8 (.take 0 (.take 1 (.take 3 (.take 4 (.one 2 (.one 5 (.take 6 (.take 7 (.one 8 .nil))))))))) (by kernel_rfl) (by kernel_rfl) (by kernel_rfl) rfl ?_
  have FC:Fr [] wc (World.drew wc):=Fr.drew _ _
  generalize World.drew wc=WC at FC ⊢
  iterate 4 (refine tree_take (v:=?_) rfl rfl rfl FC (fun w hS=>?_) ?_;rotate_left;(focus (have X:=hS.keep HM.out.x (by simp);have x0:=qd X 0;have x1:=qd X 1;have x2:=qd X 2;have x3:=qd X 3;have x4:=qd X 4;have x5:=qd X 5;clear X;clear hS;go_simp;rfl));simp only [qu,qv,qx])
  refine tree_one rfl rfl (fun K hK=>?_)
  go_simp
  refine (r43Pick_c _ _ _ h2 (by decide)).mono ?_
  rintro e wp ⟨rfl,hw⟩
  rw [hw]
  clear hw wp
  refine hK _ _ FC ?_
  clear hK K
  try simp only [Act.put,qu,qv,qx]
  refine tree_one rfl rfl (fun K hK=>?_)
  go_simp
  refine (r43Pick_c _ _ _ h3 (by decide)).mono ?_
  rintro e wp ⟨rfl,hw⟩
  rw [hw]
  clear hw wp
  refine hK _ _ FC ?_
  clear hK K
  try simp only [Act.put,qu,qv,qx]
  iterate 2 (refine tree_take (v:=?_) rfl rfl rfl FC (fun w hS=>?_) ?_;rotate_left;(focus (have X:=hS.keep HM.out.x (by simp);have x0:=qd X 0;have x1:=qd X 1;have x2:=qd X 2;have x3:=qd X 3;have x4:=qd X 4;have x5:=qd X 5;clear X;clear hS;go_simp;rfl));simp only [qu,qv,qx])
  refine tree_last rfl rfl (fun K hK=>?_)
  have HC:=qj (HM.out.same FC)
  refine wp_sub 25 31 (.tmp 39) (.tmp 38) A 3 (ntC ⟨s,1,num,0,0,0,0,0,0,0,0,false,0,0,0⟩) [.int .i64 1,.int .i64 (pkI c2 6),.int .i64 (pkI c3 3)] rfl rfl rfl (by kernel_rfl) HC.out.a (by simp [ntC]) (fun v hv=>by simp only [List.mem_cons,List.not_mem_nil,or_false] at hv;rcases hv with rfl | rfl | rfl <;> rfl) rfl (fun w2 hn fn=>hK _ _ ?_)
  clear hK K
  have HM2:=qj (HC.out.put fn (t':=⟨s,1,num,1,pkI c2 6,pkI c3 3,0,0,0,0,0,false,0,0,0⟩) hn)
  clear hn fn HC HM FC
  have HM:=HM2
  clear HM2
  refine noPanicN ?_
  have x0:=qd HM.out.x 0;have x1:=qd HM.out.x 1;have x2:=qd HM.out.x 2;have x3:=qd HM.out.x 3;have x4:=qd HM.out.x 4;have x5:=qd HM.out.x 5
  go_wp2_with fail
  refine (r43Pick_c _ _ _ h4 (by decide)).mono ?_
  rintro e wp ⟨rfl,hw⟩
  rw [hw]
  clear hw wp
  go_upto_if 43 with fail
  clear x0 x1 x2 x3 x4 x5
  go_cut [] from 18 (fun W=>∃ a b c:Int,Hid (lnB a b c=true)∧Hid (MdE w [.int .i64 c0,.int .i64 c1,.int .i64 c2,.int .i64 c3,.int .i64 c4,.int .i64 c5] W A ⟨s,1,num,a,b,c,0,0,0,0,0,false,0,0,0⟩))
  case first =>
   by_cases h43:pkI c4 4=3
   ·go_upto_region 8 with fail
    have FA:=Fr.alloc [] w2 (.cells #[.int .i64 3,.int .i64 4,.int .i64 5,.int .i64 6] 3)
    have HBA:=qj (qm w2 (.cells #[.int .i64 3,.int .i64 4,.int .i64 5,.int .i64 6] 3))
    have HM2:=qj (HM.out.same FA)
    clear HM FA
    have HM:=HM2
    clear HM2
    have x0:=qd HM.out.x 0;have x1:=qd HM.out.x 1;have x2:=qd HM.out.x 2;have x3:=qd HM.out.x 3;have x4:=qd HM.out.x 4;have x5:=qd HM.out.x 5
    go_wp2_with fail
    refine (r43Pick_c _ _ _ h5 (by decide)).mono ?_
    rintro e wp ⟨rfl,hw⟩
    rw [hw]
    clear hw wp
    generalize w2.alloc (.cells #[.int .i64 3,.int .i64 4,.int .i64 5,.int .i64 6] 3)=w3 at *
    generalize w2.heap.size=g at *
    clear x0 x1 x2 x3 x4 x5
    have hk5:pkI c5 4=0∨pkI c5 4=1∨pkI c5 4=2∨pkI c5 4=3:=by omega
    generalize pkI c5 4=k5 at *
    clear b54
    rcases hk5 with rfl | rfl | rfl | rfl
    ·have q0:=qd HBA.out 0;have q1:=qd HBA.out 1;have q2:=qd HBA.out 2;have q3:=qd HBA.out 3
     go_wp2_with (first | ((with_reducible refine wpList_of_wp (o:=⟨none,.store _ _ _,_,_,_,_⟩) rfl (fun K hK=>?_));apply stopD;case _other=>exact trivial))
     (refine stopD ?_ ?_;rotate_left;exact trivial)
     refine wp_sub 25 31 (.tmp 52) (.tmp 51) A 3 (ntC ⟨s,1,num,1,pkI c2 6,pkI c3 3,0,0,0,0,0,false,0,0,0⟩) [.int .i64 3,.int .i64 (pkI c2 60),.int .i64 (-1)] rfl rfl rfl (by kernel_rfl) HM.out.a (by simp [ntC]) (fun v hv=>by simp only [List.mem_cons,List.not_mem_nil,or_false] at hv;rcases hv with rfl | rfl | rfl <;> rfl) rfl (fun w4 hn fn=>hK _ _ ?_)
     clear hK K
     go_wp2_with fail
     go_meet
     case rel=>exact ⟨_,_,_,qj (show lnB 3 (pkI c2 60) (-1)=true by simp [lnB,inB];omega),qj (HM.out.put fn (t':=⟨s,1,num,3,pkI c2 60,-1,0,0,0,0,0,false,0,0,0⟩) hn)⟩
    ·have q0:=qd HBA.out 0;have q1:=qd HBA.out 1;have q2:=qd HBA.out 2;have q3:=qd HBA.out 3
     go_wp2_with (first | ((with_reducible refine wpList_of_wp (o:=⟨none,.store _ _ _,_,_,_,_⟩) rfl (fun K hK=>?_));apply stopD;case _other=>exact trivial))
     (refine stopD ?_ ?_;rotate_left;exact trivial)
     refine wp_sub 25 31 (.tmp 52) (.tmp 51) A 3 (ntC ⟨s,1,num,1,pkI c2 6,pkI c3 3,0,0,0,0,0,false,0,0,0⟩) [.int .i64 4,.int .i64 (pkI c2 60),.int .i64 (-1)] rfl rfl rfl (by kernel_rfl) HM.out.a (by simp [ntC]) (fun v hv=>by simp only [List.mem_cons,List.not_mem_nil,or_false] at hv;rcases hv with rfl | rfl | rfl <;> rfl) rfl (fun w4 hn fn=>hK _ _ ?_)
     clear hK K
     go_wp2_with fail
     go_meet
     case rel=>exact ⟨_,_,_,qj (show lnB 4 (pkI c2 60) (-1)=true by simp [lnB,inB];omega),qj (HM.out.put fn (t':=⟨s,1,num,4,pkI c2 60,-1,0,0,0,0,0,false,0,0,0⟩) hn)⟩
    ·have q0:=qd HBA.out 0;have q1:=qd HBA.out 1;have q2:=qd HBA.out 2;have q3:=qd HBA.out 3
     go_wp2_with (first | ((with_reducible refine wpList_of_wp (o:=⟨none,.store _ _ _,_,_,_,_⟩) rfl (fun K hK=>?_));apply stopD;case _other=>exact trivial))
     (refine stopD ?_ ?_;rotate_left;exact trivial)
     refine wp_sub 25 31 (.tmp 52) (.tmp 51) A 3 (ntC ⟨s,1,num,1,pkI c2 6,pkI c3 3,0,0,0,0,0,false,0,0,0⟩) [.int .i64 5,.int .i64 (pkI c2 60),.int .i64 (-1)] rfl rfl rfl (by kernel_rfl) HM.out.a (by simp [ntC]) (fun v hv=>by simp only [List.mem_cons,List.not_mem_nil,or_false] at hv;rcases hv with rfl | rfl | rfl <;> rfl) rfl (fun w4 hn fn=>hK _ _ ?_)
     clear hK K
     go_wp2_with fail
     go_meet
     case rel=>exact ⟨_,_,_,qj (show lnB 5 (pkI c2 60) (-1)=true by simp [lnB,inB];omega),qj (HM.out.put fn (t':=⟨s,1,num,5,pkI c2 60,-1,0,0,0,0,0,false,0,0,0⟩) hn)⟩
    ·have q0:=qd HBA.out 0;have q1:=qd HBA.out 1;have q2:=qd HBA.out 2;have q3:=qd HBA.out 3
     go_wp2_with (first | ((with_reducible refine wpList_of_wp (o:=⟨none,.store _ _ _,_,_,_,_⟩) rfl (fun K hK=>?_));apply stopD;case _other=>exact trivial))
     (refine stopD ?_ ?_;rotate_left;exact trivial)
     refine wp_sub 25 31 (.tmp 52) (.tmp 51) A 3 (ntC ⟨s,1,num,1,pkI c2 6,pkI c3 3,0,0,0,0,0,false,0,0,0⟩) [.int .i64 6,.int .i64 (pkI c2 60),.int .i64 (-1)] rfl rfl rfl (by kernel_rfl) HM.out.a (by simp [ntC]) (fun v hv=>by simp only [List.mem_cons,List.not_mem_nil,or_false] at hv;rcases hv with rfl | rfl | rfl <;> rfl) rfl (fun w4 hn fn=>hK _ _ ?_)
     clear hK K
     go_wp2_with fail
     go_meet
     case rel=>exact ⟨_,_,_,qj (show lnB 6 (pkI c2 60) (-1)=true by simp [lnB,inB];omega),qj (HM.out.put fn (t':=⟨s,1,num,6,pkI c2 60,-1,0,0,0,0,0,false,0,0,0⟩) hn)⟩
   ·go_wp2_with fail
    go_meet
    case rel=>exact ⟨_,_,_,qj (show lnB 1 (pkI c2 6) (pkI c3 3)=true by simp [lnB,inB];omega),HM⟩
  case rest =>
   obtain ⟨a,b,c,HB,HM⟩:=hcut
   go_upto_region 9 with fail
   have y0:=HM.out.a.cells 0 _ rfl;have z0:=ql HM.out.a 0
   have y1:=HM.out.a.cells 1 _ rfl;have z1:=ql HM.out.a 1
   have y2:=HM.out.a.cells 2 _ rfl;have z2:=ql HM.out.a 2
   have y3:=HM.out.a.cells 3 _ rfl;have z3:=ql HM.out.a 3
   have y4:=HM.out.a.cells 4 _ rfl;have z4:=ql HM.out.a 4
   have y5:=HM.out.a.cells 5 _ rfl;have z5:=ql HM.out.a 5
   have y6:=HM.out.a.cells 6 _ rfl;have z6:=ql HM.out.a 6
   have y7:=HM.out.a.cells 7 _ rfl;have z7:=ql HM.out.a 7
   have y8:=HM.out.a.cells 8 _ rfl;have z8:=ql HM.out.a 8
   have y9:=HM.out.a.cells 9 _ rfl;have z9:=ql HM.out.a 9
   have y10:=HM.out.a.cells 10 _ rfl;have z10:=ql HM.out.a 10
   have y11:=HM.out.a.cells 11 _ rfl;have z11:=ql HM.out.a 11
   have y12:=HM.out.a.cells 12 _ rfl;have z12:=ql HM.out.a 12
   have y13:=HM.out.a.cells 13 _ rfl;have z13:=ql HM.out.a 13
   have y14:=HM.out.a.cells 14 _ rfl;have z14:=ql HM.out.a 14
   go_wp2_with (first | ((with_reducible refine wpList_of_wp (o:=⟨none,.store _ _ _,_,_,_,_⟩) rfl (fun K hK=>?_));apply stopD;case _other=>exact trivial))
   (refine stopD ?_ ?_;rotate_left;exact trivial)
   refine wp_nt (.tmp 4) (.tmp 53) (w.heap.size+1) nt0 ⟨s,1,num,a,b,c,0,0,0,0,0,false,0,0,0⟩ rfl rfl rfl HM.out.r rfl (fun W' hn fn=>hK _ _ ?_)
   clear hK K
   have HN2:=qj hn;have HF2:=qj (HM.out.fr.step fn (fun k hk=>.inr (by simp at hk;omega)))
   clear hn fn y0 z0 y1 z1 y2 z2 y3 z3 y4 z4 y5 z5 y6 z6 y7 z7 y8 z8 y9 z9 y10 z10 y11 z11 y12 z12 y13 z13 y14 z14
   go_wp2_with fail
   refine bodyPost_ret (v:=ntV ⟨s,1,num,a,b,c,0,0,0,0,0,false,0,0,0⟩) (made_res _ _ HN2.out rfl) rfl ?_
   exact ⟨_,rfl,fm1 hs HN.out HB.out,rfl,HF2.out⟩
end Go.Proofs.YtledkokhghjfmaaGreatDoor
