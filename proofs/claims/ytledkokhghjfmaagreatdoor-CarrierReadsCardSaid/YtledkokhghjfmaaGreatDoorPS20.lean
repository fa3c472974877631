/-
  link: the packets that are to go over a link, without seals.
-/
import Derived.RangeFuncBox
import Derived.RangeFuncLeaves
import Derived.Shelf.Abstract
import Derived.WalkKit
import Derived.OwnWalkIn
import Derived.TacticsInMore
import Derived.LoopNIn
import Derived.LoopIn
import Derived.Test.YtledkokhghjfmaaGreatDoorPS04
import Derived.Test.YtledkokhghjfmaaGreatDoorPS19
import Derived.RangeFuncNested
import Derived.RangeFuncBound
import Derived.RangeFuncCalls
import Derived.Test.YtledkokhghjfmaaGreatDoorPS11
import Derived.Test.YtledkokhghjfmaaGreatDoorPS01
import Derived.Test.YtledkokhghjfmaaGreatDoorPS05
namespace Go.Proofs.YtledkokhghjfmaaGreatDoor
section
open Go.RowKit Go.Shelf Go.Lib
attribute [local go_sem] Oper.semAt_some
def pkAt (E:En) (i:Nat):Pk:=⟨(E.acked:Int)+i+1,E.recv,E.sent.getD (E.acked+i) ⟨#[]⟩,⟨#[]⟩⟩
theorem Sl.caps3 {w:World} {a:Option Addr} {n c:Nat} {cs:List Value} (h:Sl w (.slice a n c) n cs):n≤c∧c≤9223372036854775807:=by
 obtain ⟨a',c',h1,h2,h3,_⟩:=h
 cases h1
 exact ⟨h2,h3⟩
def bareP (E:En):List Pk:=if E.acked=E.sent.length then [⟨0,E.recv,⟨#[]⟩,⟨#[]⟩⟩] else (List.range (min 4 (E.sent.length - E.acked))).map (pkAt E)
set_option maxRecDepth 100000 in
set_option maxHeartbeats 4000000 in
theorem packets1_in (n l' _n₀ eb mb bx:Nat) (vs:Value) (E:En) (J Jx:List Pk→World→Prop) (hac:E.acked≤E.sent.length) (hsl:E.sent.length≤100000) (hrc:E.recv≤100000)
  (hE:∀ pre W,J pre W→EnIn W eb mb vs E∧W.heap[bx]?=some (.cells #[.pointer (some ⟨eb,0,none⟩)] 109 (0,0)))
  (hY:∀ pre m W,J pre W→pre++[m] <+: bareP E→YieldAt Fence.wide (n - 1) Tryz.prog l' #[pkV m] W fun e W' =>
   (e=.returned (.bool true)∧J (pre++[m]) W')∨(e=.returned (.bool false)∧Jx (pre++[m]) W'))
  (hJ:∀ s A B,J s A→Fr [] A B→J s B) (W:World) (h0:J [] W) :
  CallsIn Fence.wide n Tryz.prog 125 #[.func (.yield l') #[] #[],.pointer (some ⟨bx,0,none⟩)] W fun e W'=>(∃ v,e=.returned v)∧(J (bareP E) W'∨(∃ pre,pre <+: bareP E∧Jx pre W')):=by
 obtain ⟨k,o,l,ac,rc,er⟩:=E
 simp only at hac hsl hrc
 obtain ⟨h1,h2⟩:=hE _ _ h0
 obtain ⟨a,c,rfl⟩:=(sl_of_row h1.row).val
 have HE:=qj h1;have HX:=qj h2
 have HEn:=qj hE;have HY:=qj hY;have HJ:=qj hJ;have HJ0:=qj h0
 clear h1 h2 hE hY hJ h0
 refine callsIn_of_wp Tryz.func125 rfl trivial ?_ rfl
 simp only [Tryz.ntmps125,List.size_toArray,List.length_cons,List.length_nil,Nat.reduceAdd,Nat.reduceSub,Array.replicate_succ,Array.replicate_zero,List.push_toArray,List.append_toArray,List.nil_append,List.cons_append]
 gi_wp2
 refine wpIn_wide.2 ?_
 refine reg_mix (Fr [] W) [0,1,2,3,4,5,6,7,8,9] (by kernel_rfl) (by kernel_rfl) (by kernel_rfl) rfl (Fr.drew _ _) ?_
 have FC:Fr [] W W.drew:=Fr.drew _ _
 generalize W.drew=WC at FC ⊢
 iterate 10 (refine mix_take1 (v:=?_) rfl rfl rfl rfl (fun w hS=>?_) ?_;rotate_left;(focus (have XE:=hS.keep HE.out.blk (by simp);have XB:=hS.keep HX.out (by simp);have b0:World.cell? _ ⟨bx,0,none⟩=some (.pointer (some ⟨eb,0,none⟩)):=qd XB 0;have e2:World.cell? _ ⟨eb,2,none⟩=some (.slice a l.length c):=qd XE 2;have e3:World.cell? _ ⟨eb,3,none⟩=some (.int .i64 (ac:Nat)):=qd XE 3;have e4:World.cell? _ ⟨eb,4,none⟩=some (.int .i64 (rc:Nat)):=qd XE 4;clear XE XB;clear hS;go_simp;rfl));simp only [qu,qv,qx])
 refine mix_end ?_
 have HE1:=qj (HE.out.same FC)
 have HX1:=qj (FC.keep HX.out (by simp))
 have HJ1:=qj (HJ.out _ _ _ HJ0.out FC)
 clear HE HX HJ0
 by_cases hq:ac=l.length
 ·have hb:((ac:Int) == (l.length:Int))=true:=by rw [hq];simp
  have HB:Hid (bareP ⟨k,o,l,ac,rc,er⟩=[⟨0,rc,⟨#[]⟩,⟨#[]⟩⟩]):=qj (if_pos hq)
  have b0:WC.cell? ⟨bx,0,none⟩=some (.pointer (some ⟨eb,0,none⟩)):=qd HX1.out 0
  have e4:WC.cell? ⟨eb,4,none⟩=some (.int .i64 (rc:Nat)):=qd HE1.out.blk 4
  obtain ⟨fn,tmps,assign,body,hy,hR⟩:=HY.out [] ⟨0,rc,⟨#[]⟩,⟨#[]⟩⟩ WC HJ1.out (by rw [HB.out];simp)
  have HRR:=qj hR
  clear hR hq FC
  gi_wp2
  refine ⟨fun hh=>(by cases hh),?_⟩
  refine HRR.out.mono ?_
  rintro e W3 (⟨rfl,hJ3⟩ | ⟨rfl,hJx3⟩)
  ·have H3:=qj hJ3
   clear hJ3 HRR hy
   gi_wp2
   refine bodyPost_ret (results_none rfl _ _ _) rfl ?_
   exact ⟨⟨_,rfl⟩,.inl (by rw [HB.out];exact H3.out)⟩
  ·have H3:=qj hJx3
   clear hJx3 HRR hy
   gi_wp2
   refine bodyPost_ret (results_none rfl _ _ _) rfl ?_
   exact ⟨⟨_,rfl⟩,.inr ⟨_,by rw [HB.out];exact List.prefix_refl _,H3.out⟩⟩
 ·have hb:((ac:Int) == (l.length:Int))=false:=beq_eq_false_iff_ne.2 (by omega)
  have hlt:ac < l.length:=by omega
  obtain ⟨g,o2,rfl,_⟩:=(sl_of_row HE1.out.row).at_ (by omega)
  have HB:Hid (bareP ⟨k,o,l,ac,rc,er⟩=(List.range (min 4 (l.length - ac))).map (pkAt ⟨k,o,l,ac,rc,er⟩)):=qj (if_neg hq)
  clear FC hq
  gi_wp2
  refine wpIn_wide.2 ?_
  refine reg_mix (Fr [] WC) [0,1,2,3,4,5,6,7,8,9,10,11,12,13,14,15,16,17,18,19,20,21] (by kernel_rfl) (by kernel_rfl) (by kernel_rfl) rfl (Fr.drew _ _) ?_
  have FC:Fr [] WC WC.drew:=Fr.drew _ _
  generalize WC.drew=WC at FC ⊢
  iterate 4 (refine mix_take1 (v:=?_) rfl rfl rfl rfl (fun w hS=>?_) ?_;rotate_left;(focus (have XE:=hS.keep HE1.out.blk (by simp);have XB:=hS.keep HX1.out (by simp);have b0:World.cell? _ ⟨bx,0,none⟩=some (.pointer (some ⟨eb,0,none⟩)):=qd XB 0;have e2:World.cell? _ ⟨eb,2,none⟩=some (.slice (some ⟨g,o2,none⟩) l.length c):=qd XE 2;have e3:World.cell? _ ⟨eb,3,none⟩=some (.int .i64 (ac:Nat)):=qd XE 3;have e4:World.cell? _ ⟨eb,4,none⟩=some (.int .i64 (rc:Nat)):=qd XE 4;clear XE XB;clear hS;go_simp;rfl));simp only [qu,qv,qx])
  iterate 8 (refine mix_take1 (v:=?_) rfl rfl rfl rfl (fun w hS=>?_) ?_;rotate_left;(focus (have XE:=hS.keep HE1.out.blk (by simp);have XB:=hS.keep HX1.out (by simp);have b0:World.cell? _ ⟨bx,0,none⟩=some (.pointer (some ⟨eb,0,none⟩)):=qd XB 0;have e2:World.cell? _ ⟨eb,2,none⟩=some (.slice (some ⟨g,o2,none⟩) l.length c):=qd XE 2;have e3:World.cell? _ ⟨eb,3,none⟩=some (.int .i64 (ac:Nat)):=qd XE 3;have e4:World.cell? _ ⟨eb,4,none⟩=some (.int .i64 (rc:Nat)):=qd XE 4;clear XE XB;clear hS;go_simp;rfl));simp only [qu,qv,qx])
  (refine mix_take1 (v:=?_) rfl rfl rfl rfl (fun w hS=>?_) ?_;rotate_left;(focus (clear hS;go_simp;rw [IntWalk.i64_in ((ac:Int)+4) (by omega)]));simp only [qu,qv,qx])
  iterate 6 (refine mix_take1 (v:=?_) rfl rfl rfl rfl (fun w hS=>?_) ?_;rotate_left;(focus (have XE:=hS.keep HE1.out.blk (by simp);have XB:=hS.keep HX1.out (by simp);have b0:World.cell? _ ⟨bx,0,none⟩=some (.pointer (some ⟨eb,0,none⟩)):=qd XB 0;have e2:World.cell? _ ⟨eb,2,none⟩=some (.slice (some ⟨g,o2,none⟩) l.length c):=qd XE 2;have e3:World.cell? _ ⟨eb,3,none⟩=some (.int .i64 (ac:Nat)):=qd XE 3;have e4:World.cell? _ ⟨eb,4,none⟩=some (.int .i64 (rc:Nat)):=qd XE 4;clear XE XB;clear hS;go_simp;rfl));simp only [qu,qv,qx])
  have hmi:min ((ac:Int)+4) (l.length:Int)=((min (ac+4) l.length:Nat):Int):=by omega
  rw [hmi]
  obtain ⟨hi,hhi⟩:∃ hi,hi=min (ac+4) l.length:=⟨_,rfl⟩
  rw [← hhi]
  obtain ⟨m,hm⟩:∃ m,hi=ac+m:=⟨hi - ac,by omega⟩
  have HM:Shut (m=min 4 (l.length - ac)):=⟨by omega⟩
  have hhl:0 < m∧ac+m≤l.length∧l.length≤c:=by have:=(Sl.caps3 (sl_of_row HE1.out.row));omega
  have hc2:¬ c=ac:=by omega
  have hlh:ac < hi∧hi≤l.length∧hi - ac=m:=by omega
  have HLH:=qj hlh
  clear hhi hmi hm hlh
  (refine mix_take1 (v:=.slice (some ⟨g,o2+ac,none⟩) m (c - ac)) rfl rfl rfl rfl (fun w hS=>?_) ?_;(focus (clear hS;go_simp;rw [if_pos (by have:=HLH.out;omega),if_pos (by have:=HLH.out;omega),HLH.out.2.2])));simp only [qu,qv,qx]
  iterate 2 (refine mix_take1 (v:=?_) rfl rfl rfl rfl (fun w hS=>?_) ?_;rotate_left;(focus (clear hS;go_simp;rfl));simp only [qu,qv,qx])
  refine mix_end ?_
  rw [← HM.out] at HB
  have HJ2:=qj (HJ.out _ _ _ HJ1.out FC)
  clear FC HE1 HX1 HJ1 HM hb
  gi_wp2
  gi_loopw [43] (fun s wr=>∃ i:Nat,i≤m∧s=.int .i64 i∧Hid (J ((List.range i).map (pkAt ⟨k,o,l,ac,rc,er⟩)) wr)) (fun s _=>m - (RowKit.intOf s).toNat)
  case atStart=>exact ⟨0,Nat.zero_le _,rfl,HJ2⟩
  case round =>
   obtain ⟨i,hi,rfl,HJi⟩:=hrel
   by_cases hlti:i < m
   ·have HE3:=qj (HEn.out _ _ HJi.out).1
    have HX3:=qj (HEn.out _ _ HJi.out).2
    have hil:ac+i < l.length:=by omega
    obtain ⟨g',o',hg,hc⟩:=(sl_of_row HE3.out.row).at_ (by show 0 < l.length;omega)
    cases hg
    have c0:wr.cell? ⟨g,o2+ac+i,none⟩=some (.string (l.getD (ac+i) ⟨#[]⟩)):=by
     have:=hc (ac+i) (.string (l.getD (ac+i) ⟨#[]⟩)) (by simp [hil])
     rw [← Nat.add_assoc] at this;exact this
    have HP:Shut (pkAt ⟨k,o,l,ac,rc,er⟩ i=⟨(ac:Int)+(i:Int)+1,rc,l.getD (ac+i) ⟨#[]⟩,⟨#[]⟩⟩):=⟨rfl⟩
    generalize l.getD (ac+i) ⟨#[]⟩=bd at *
    clear hc
    gi_wp2
    clear c0
    refine regS (Fr [] wr) 14 (by kernel_rfl) ?_
    have FD:Fr [] wr wr.drew:=Fr.drew _ _
    generalize wr.drew=wd at FD ⊢
    refine takeS (i:=0) (v:=?tkv0) rfl rfl rfl rfl (by intro c h;cases h) (by kernel_rfl) (by kernel_rfl) (by kernel_rfl) (by kernel_rfl) (fun _ _ _ h=>h) FD (fun w hS=>?tky0) ?tkr0
    case tky0=>(have XE:=hS.keep HE3.out.blk (by simp);have XB:=hS.keep HX3.out (by simp);have b0:World.cell? _ ⟨bx,0,none⟩=some (.pointer (some ⟨eb,0,none⟩)):=qd XB 0;have e2:World.cell? _ ⟨eb,2,none⟩=some (.slice (some ⟨g,o2,none⟩) l.length c):=qd XE 2;have e3:World.cell? _ ⟨eb,3,none⟩=some (.int .i64 (ac:Nat)):=qd XE 3;have e4:World.cell? _ ⟨eb,4,none⟩=some (.int .i64 (rc:Nat)):=qd XE 4;clear XE XB;clear hS;go_simp;rfl)
    simp only [qu,qv,qx]
    refine takeS (i:=1) (v:=?tkv1) rfl rfl rfl rfl (by intro c h;cases h) (by kernel_rfl) (by kernel_rfl) (by kernel_rfl) (by kernel_rfl) (fun _ _ _ h=>h) FD (fun w hS=>?tky1) ?tkr1
    case tky1=>(have XE:=hS.keep HE3.out.blk (by simp);have XB:=hS.keep HX3.out (by simp);have b0:World.cell? _ ⟨bx,0,none⟩=some (.pointer (some ⟨eb,0,none⟩)):=qd XB 0;have e2:World.cell? _ ⟨eb,2,none⟩=some (.slice (some ⟨g,o2,none⟩) l.length c):=qd XE 2;have e3:World.cell? _ ⟨eb,3,none⟩=some (.int .i64 (ac:Nat)):=qd XE 3;have e4:World.cell? _ ⟨eb,4,none⟩=some (.int .i64 (rc:Nat)):=qd XE 4;clear XE XB;clear hS;go_simp;rfl)
    simp only [qu,qv,qx]
    refine takeS (i:=2) (v:=?tkv2) rfl rfl rfl rfl (by intro c h;cases h) (by kernel_rfl) (by kernel_rfl) (by kernel_rfl) (by kernel_rfl) (fun _ _ _ h=>h) FD (fun w hS=>?tky2) ?tkr2
    case tky2=>(have XE:=hS.keep HE3.out.blk (by simp);have XB:=hS.keep HX3.out (by simp);have b0:World.cell? _ ⟨bx,0,none⟩=some (.pointer (some ⟨eb,0,none⟩)):=qd XB 0;have e2:World.cell? _ ⟨eb,2,none⟩=some (.slice (some ⟨g,o2,none⟩) l.length c):=qd XE 2;have e3:World.cell? _ ⟨eb,3,none⟩=some (.int .i64 (ac:Nat)):=qd XE 3;have e4:World.cell? _ ⟨eb,4,none⟩=some (.int .i64 (rc:Nat)):=qd XE 4;clear XE XB;clear hS;go_simp;rfl)
    simp only [qu,qv,qx]
    refine takeS (i:=3) (v:=?tkv3) rfl rfl rfl rfl (by intro c h;cases h) (by kernel_rfl) (by kernel_rfl) (by kernel_rfl) (by kernel_rfl) (fun _ _ _ h=>h) FD (fun w hS=>?tky3) ?tkr3
    case tky3=>(have XE:=hS.keep HE3.out.blk (by simp);have XB:=hS.keep HX3.out (by simp);have b0:World.cell? _ ⟨bx,0,none⟩=some (.pointer (some ⟨eb,0,none⟩)):=qd XB 0;have e2:World.cell? _ ⟨eb,2,none⟩=some (.slice (some ⟨g,o2,none⟩) l.length c):=qd XE 2;have e3:World.cell? _ ⟨eb,3,none⟩=some (.int .i64 (ac:Nat)):=qd XE 3;have e4:World.cell? _ ⟨eb,4,none⟩=some (.int .i64 (rc:Nat)):=qd XE 4;clear XE XB;clear hS;go_simp;rfl)
    simp only [qu,qv,qx]
    refine takeS (i:=4) (v:=?tkv4) rfl rfl rfl rfl (by intro c h;cases h) (by kernel_rfl) (by kernel_rfl) (by kernel_rfl) (by kernel_rfl) (fun _ _ _ h=>h) FD (fun w hS=>?tky4) ?tkr4
    case tky4=>(have XE:=hS.keep HE3.out.blk (by simp);have XB:=hS.keep HX3.out (by simp);have b0:World.cell? _ ⟨bx,0,none⟩=some (.pointer (some ⟨eb,0,none⟩)):=qd XB 0;have e2:World.cell? _ ⟨eb,2,none⟩=some (.slice (some ⟨g,o2,none⟩) l.length c):=qd XE 2;have e3:World.cell? _ ⟨eb,3,none⟩=some (.int .i64 (ac:Nat)):=qd XE 3;have e4:World.cell? _ ⟨eb,4,none⟩=some (.int .i64 (rc:Nat)):=qd XE 4;clear XE XB;clear hS;go_simp;rfl)
    simp only [qu,qv,qx]
    refine takeS (i:=5) (v:=?tkv5) rfl rfl rfl rfl (by intro c h;cases h) (by kernel_rfl) (by kernel_rfl) (by kernel_rfl) (by kernel_rfl) (fun _ _ _ h=>h) FD (fun w hS=>?tky5) ?tkr5
    case tky5=>(have XE:=hS.keep HE3.out.blk (by simp);have XB:=hS.keep HX3.out (by simp);have b0:World.cell? _ ⟨bx,0,none⟩=some (.pointer (some ⟨eb,0,none⟩)):=qd XB 0;have e2:World.cell? _ ⟨eb,2,none⟩=some (.slice (some ⟨g,o2,none⟩) l.length c):=qd XE 2;have e3:World.cell? _ ⟨eb,3,none⟩=some (.int .i64 (ac:Nat)):=qd XE 3;have e4:World.cell? _ ⟨eb,4,none⟩=some (.int .i64 (rc:Nat)):=qd XE 4;clear XE XB;clear hS;go_simp;rfl)
    simp only [qu,qv,qx]
    refine takeS (i:=6) (v:=?tkv6) rfl rfl rfl rfl (by intro c h;cases h) (by kernel_rfl) (by kernel_rfl) (by kernel_rfl) (by kernel_rfl) (fun _ _ _ h=>h) FD (fun w hS=>?tky6) ?tkr6
    case tky6=>(have XE:=hS.keep HE3.out.blk (by simp);have XB:=hS.keep HX3.out (by simp);have b0:World.cell? _ ⟨bx,0,none⟩=some (.pointer (some ⟨eb,0,none⟩)):=qd XB 0;have e2:World.cell? _ ⟨eb,2,none⟩=some (.slice (some ⟨g,o2,none⟩) l.length c):=qd XE 2;have e3:World.cell? _ ⟨eb,3,none⟩=some (.int .i64 (ac:Nat)):=qd XE 3;have e4:World.cell? _ ⟨eb,4,none⟩=some (.int .i64 (rc:Nat)):=qd XE 4;clear XE XB;clear hS;go_simp;rw [IntWalk.i64_in ((ac:Int)+(i:Int)) (by omega)])
    simp only [qu,qv,qx]
    refine takeS (i:=7) (v:=?tkv7) rfl rfl rfl rfl (by intro c h;cases h) (by kernel_rfl) (by kernel_rfl) (by kernel_rfl) (by kernel_rfl) (fun _ _ _ h=>h) FD (fun w hS=>?tky7) ?tkr7
    case tky7=>(have XE:=hS.keep HE3.out.blk (by simp);have XB:=hS.keep HX3.out (by simp);have b0:World.cell? _ ⟨bx,0,none⟩=some (.pointer (some ⟨eb,0,none⟩)):=qd XB 0;have e2:World.cell? _ ⟨eb,2,none⟩=some (.slice (some ⟨g,o2,none⟩) l.length c):=qd XE 2;have e3:World.cell? _ ⟨eb,3,none⟩=some (.int .i64 (ac:Nat)):=qd XE 3;have e4:World.cell? _ ⟨eb,4,none⟩=some (.int .i64 (rc:Nat)):=qd XE 4;clear XE XB;clear hS;go_simp;rw [IntWalk.i64_in ((ac:Int)+(i:Int)+1) (by omega)])
    simp only [qu,qv,qx]
    refine takeS (i:=8) (v:=?tkv8) rfl rfl rfl rfl (by intro c h;cases h) (by kernel_rfl) (by kernel_rfl) (by kernel_rfl) (by kernel_rfl) (fun _ _ _ h=>h) FD (fun w hS=>?tky8) ?tkr8
    case tky8=>(have XE:=hS.keep HE3.out.blk (by simp);have XB:=hS.keep HX3.out (by simp);have b0:World.cell? _ ⟨bx,0,none⟩=some (.pointer (some ⟨eb,0,none⟩)):=qd XB 0;have e2:World.cell? _ ⟨eb,2,none⟩=some (.slice (some ⟨g,o2,none⟩) l.length c):=qd XE 2;have e3:World.cell? _ ⟨eb,3,none⟩=some (.int .i64 (ac:Nat)):=qd XE 3;have e4:World.cell? _ ⟨eb,4,none⟩=some (.int .i64 (rc:Nat)):=qd XE 4;clear XE XB;clear hS;go_simp;rfl)
    simp only [qu,qv,qx]
    refine takeS (i:=9) (v:=?tkv9) rfl rfl rfl rfl (by intro c h;cases h) (by kernel_rfl) (by kernel_rfl) (by kernel_rfl) (by kernel_rfl) (fun _ _ _ h=>h) FD (fun w hS=>?tky9) ?tkr9
    case tky9=>(have XE:=hS.keep HE3.out.blk (by simp);have XB:=hS.keep HX3.out (by simp);have b0:World.cell? _ ⟨bx,0,none⟩=some (.pointer (some ⟨eb,0,none⟩)):=qd XB 0;have e2:World.cell? _ ⟨eb,2,none⟩=some (.slice (some ⟨g,o2,none⟩) l.length c):=qd XE 2;have e3:World.cell? _ ⟨eb,3,none⟩=some (.int .i64 (ac:Nat)):=qd XE 3;have e4:World.cell? _ ⟨eb,4,none⟩=some (.int .i64 (rc:Nat)):=qd XE 4;clear XE XB;clear hS;go_simp;rfl)
    simp only [qu,qv,qx]
    refine takeS (i:=10) (v:=?tkv10) rfl rfl rfl rfl (by intro c h;cases h) (by kernel_rfl) (by kernel_rfl) (by kernel_rfl) (by kernel_rfl) (fun _ _ _ h=>h) FD (fun w hS=>?tky10) ?tkr10
    case tky10=>(have XE:=hS.keep HE3.out.blk (by simp);have XB:=hS.keep HX3.out (by simp);have b0:World.cell? _ ⟨bx,0,none⟩=some (.pointer (some ⟨eb,0,none⟩)):=qd XB 0;have e2:World.cell? _ ⟨eb,2,none⟩=some (.slice (some ⟨g,o2,none⟩) l.length c):=qd XE 2;have e3:World.cell? _ ⟨eb,3,none⟩=some (.int .i64 (ac:Nat)):=qd XE 3;have e4:World.cell? _ ⟨eb,4,none⟩=some (.int .i64 (rc:Nat)):=qd XE 4;clear XE XB;clear hS;go_simp;rfl)
    simp only [qu,qv,qx]
    refine takeS (i:=11) (v:=?tkv11) rfl rfl rfl rfl (by intro c h;cases h) (by kernel_rfl) (by kernel_rfl) (by kernel_rfl) (by kernel_rfl) (fun _ _ _ h=>h) FD (fun w hS=>?tky11) ?tkr11
    case tky11=>(have XE:=hS.keep HE3.out.blk (by simp);have XB:=hS.keep HX3.out (by simp);have b0:World.cell? _ ⟨bx,0,none⟩=some (.pointer (some ⟨eb,0,none⟩)):=qd XB 0;have e2:World.cell? _ ⟨eb,2,none⟩=some (.slice (some ⟨g,o2,none⟩) l.length c):=qd XE 2;have e3:World.cell? _ ⟨eb,3,none⟩=some (.int .i64 (ac:Nat)):=qd XE 3;have e4:World.cell? _ ⟨eb,4,none⟩=some (.int .i64 (rc:Nat)):=qd XE 4;clear XE XB;clear hS;go_simp;rfl)
    simp only [qu,qv,qx]
    refine takeS (i:=12) (v:=?tkv12) rfl rfl rfl rfl (by intro c h;cases h) (by kernel_rfl) (by kernel_rfl) (by kernel_rfl) (by kernel_rfl) (fun _ _ _ h=>h) FD (fun w hS=>?tky12) ?tkr12
    case tky12=>(have XE:=hS.keep HE3.out.blk (by simp);have XB:=hS.keep HX3.out (by simp);have b0:World.cell? _ ⟨bx,0,none⟩=some (.pointer (some ⟨eb,0,none⟩)):=qd XB 0;have e2:World.cell? _ ⟨eb,2,none⟩=some (.slice (some ⟨g,o2,none⟩) l.length c):=qd XE 2;have e3:World.cell? _ ⟨eb,3,none⟩=some (.int .i64 (ac:Nat)):=qd XE 3;have e4:World.cell? _ ⟨eb,4,none⟩=some (.int .i64 (rc:Nat)):=qd XE 4;clear XE XB;clear hS;go_simp;rfl)
    simp only [qu,qv,qx]
    refine takeS (i:=13) (v:=?tkv13) rfl rfl rfl rfl (by intro c h;cases h) (by kernel_rfl) (by kernel_rfl) (by kernel_rfl) (by kernel_rfl) (fun _ _ _ h=>h) FD (fun w hS=>?tky13) ?tkr13
    case tky13=>(have XE:=hS.keep HE3.out.blk (by simp);have XB:=hS.keep HX3.out (by simp);have b0:World.cell? _ ⟨bx,0,none⟩=some (.pointer (some ⟨eb,0,none⟩)):=qd XB 0;have e2:World.cell? _ ⟨eb,2,none⟩=some (.slice (some ⟨g,o2,none⟩) l.length c):=qd XE 2;have e3:World.cell? _ ⟨eb,3,none⟩=some (.int .i64 (ac:Nat)):=qd XE 3;have e4:World.cell? _ ⟨eb,4,none⟩=some (.int .i64 (rc:Nat)):=qd XE 4;clear XE XB;clear hS;go_simp;rfl)
    simp only [qu,qv,qx]
    have HPf:Hid ((List.range i).map (pkAt ⟨k,o,l,ac,rc,er⟩)++[⟨(ac:Int)+(i:Int)+1,rc,bd,⟨#[]⟩⟩]=(List.range (i+1)).map (pkAt ⟨k,o,l,ac,rc,er⟩)):=qj (by rw [List.range_succ,List.map_append,List.map_singleton,HP.out])
    have HPr:Hid ((List.range (i+1)).map (pkAt ⟨k,o,l,ac,rc,er⟩) <+: bareP ⟨k,o,l,ac,rc,er⟩):=qj (by
     rw [HB.out]
     have:List.range m=List.range (i+1)++(List.range (m - (i+1))).map (i+1+·):=by rw [← List.range_add];congr 1;omega
     rw [this,List.map_append]
     exact List.prefix_append _ _)
    obtain ⟨fn,tmps,assign,body,hy,hR⟩:=HY.out _ ⟨(ac:Int)+(i:Int)+1,rc,bd,⟨#[]⟩⟩ wd (HJ.out _ _ _ HJi.out FD) (by rw [HPf.out];exact HPr.out)
    rw [HPf.out] at hR
    have HRR:=qj hR
    clear hR FD HE3 HX3 HP HPf
    refine onlyS (i:=14) (by kernel_rfl) (by kernel_rfl) rfl rfl (fun K hK=>?_)
    go_simp
    refine ⟨fun hh=>(by cases hh),?_⟩
    refine HRR.out.mono ?_
    rintro e w4 (⟨rfl,hJ4⟩ | ⟨rfl,hJx4⟩)
    ·refine hK _ _ ?_
     clear hK K
     refine onlyS (i:=15) (by kernel_rfl) (by kernel_rfl) rfl rfl (fun K hK=>?_)
     go_simp
     refine hK _ _ ?_
     clear hK K
     refine doneS (by kernel_rfl) ?_ _
     have H4:=qj hJ4
     clear hJ4 hy HRR
     gi_wp2
     go_roundw
     case rel=>exact ⟨i+1,by omega,by go_num,H4⟩
     case measure=>simp [RowKit.intOf];omega
    ·refine hK _ _ ?_
     clear hK K
     refine onlyS (i:=15) (by kernel_rfl) (by kernel_rfl) rfl rfl (fun K hK=>?_)
     go_simp
     refine hK _ _ ?_
     clear hK K
     refine doneS (by kernel_rfl) ?_ _
     have H4:=qj hJx4
     clear hJx4 hy HRR
     gi_wp2
     refine bodyPost_ret (results_none rfl _ _ _) rfl ?_
     exact ⟨⟨_,rfl⟩,.inr ⟨_,HPr.out,H4.out⟩⟩
   ·obtain rfl:i=m:=by omega
    gi_wp2
    go_end0
    exact ⟨⟨_,rfl⟩,.inl (by rw [HB.out];exact HJi.out)⟩
end
section
open Go.RowKit Go.Shelf Go.Lib
attribute [local go_sem] Oper.semAt_some
theorem EnIn.below {w w':World} {eb mb n₀:Nat} {vs:Value} {E:En} (h:EnIn w eb mb vs E) (hb:Below n₀ w w') (hl:∀ k,k∈enB eb mb vs→k < n₀):EnIn w' eb mb vs E:=by
 refine ⟨(hb.block eb (hl _ (by simp))).trans h.blk,⟨h.row.1,h.row.2.imp id ?_⟩,?_⟩
 ·rintro ⟨g,cap,cur,rfl,h1,h2,h3⟩
  exact ⟨g,cap,cur,rfl,h1,(hb.block g (hl _ (by simp [Value.ownBlock]))).trans h2,h3⟩
 ·obtain ⟨es,c,h1,h2⟩:=h.map.blk
  exact ⟨⟨es,c,(hb.block mb (hl _ (by simp))).trans h1,h2⟩,h.map.nodup⟩
theorem packets_seq (n₀ eb mb bx:Nat) (vs:Value) (E:En) (W0:World) (hac:E.acked≤E.sent.length) (hsl:E.sent.length≤100000) (hrc:E.recv≤100000) (h:EnIn W0 eb mb vs E) (hx:W0.heap[bx]?=some (.cells #[.pointer (some ⟨eb,0,none⟩)] 109 (0,0))) (hn:n₀≤W0.heap.size) (hl:∀ k,k∈enB eb mb vs→k < n₀) (hxl:bx < n₀) :
  SeqStopsK Fence.wide 2 Tryz.prog 125 #[.pointer (some ⟨bx,0,none⟩)] (fun m:Pk=>#[pkV m]) (Below n₀) (fun ys=>ys=bareP E) (fun pre=>pre <+: bareP E) (bareP E).length W0:=by
 intro l J Jx W hW hJ hJx hY h0
 refine (packets1_in 2 l n₀ eb mb bx vs E (fun pre W=>J pre W∧Below n₀ W0 W) Jx hac hsl hrc ?_ ?_ ?_ W ⟨h0,hW.mono hn⟩).mono ?_
 ·rintro pre W1 ⟨_,hk⟩
  exact ⟨h.below hk hl,(hk.block bx hxl).trans hx⟩
 ·rintro pre m W2 ⟨hj,hk⟩ hp
  have hlen:pre.length < (bareP E).length:=by
   have:=hp.length_le
   rw [List.length_append] at this
   simp only [List.length_cons,List.length_nil] at this
   omega
  obtain ⟨fn,tmps,assign,body,hy,hR⟩:=hY pre m W2 hj hlen
  refine ⟨fn,tmps,assign,body,hy,hR.mono ?_⟩
  rintro e W3 (⟨he,hj3,hk3⟩ | ⟨he,hj3⟩)
  ·exact .inl ⟨he,hj3,hk.trans hk3⟩
  ·exact .inr ⟨he,hj3⟩
 ·rintro s A B ⟨hj,hk⟩ hf
  exact ⟨hJ _ A B none hj ⟨hf.os,hf.tape,hf.output,hf.size,fun k hk _=>hf.block k hk (by simp)⟩ (fun r e=>by cases e),hk.trans ⟨hf.os,hf.tape,hf.output,hf.size,fun k hk2=>hf.block k (by have:=hk.size;omega) (by simp)⟩⟩
 ·rintro e W' ⟨he,⟨hj,_⟩ | ⟨pre,hpre,hj⟩⟩
  ·exact ⟨he,.inl ⟨_,rfl,hj⟩⟩
  ·exact ⟨he,.inr ⟨pre,hpre,hj⟩⟩
theorem keepsFrom_frL {B:Nat} {S:List Nat} {W W':World} (hf:Fr S W W') (hb:∀ k,k∈S→k < B):KeepsFrom B W W':=⟨hf.size,fun k o hk hB _=>hf.keep hB (fun hm=>by have:=hb k hm;omega)⟩
theorem infoPk:(Tryz.prog.info? 60).map (fun i=>(i.zero,i.size,i.bytes))=some (some (.agg #[.int .i64 0,.int .i64 0,.string ⟨#[]⟩,.string ⟨#[]⟩]),4,48):=by kernel_rfl
def pksC (l:List Pk):List Value:=l.flatMap pkC
theorem pksC_snoc (l:List Pk) (x:Pk):pksC (l++[x])=pksC l++pkC x:=by simp [pksC]
def ColI (w:World) (pre:List Pk) (W:World):Prop:=(∃ v,Boxed W w.heap.size 55 v∧W.ownsRow w.heap.size 60 4 v pre.length (pksC pre)∧True)∧Below w.heap.size w W
def ColA (w:World) (g:Nat) (lb:Array Value) (x:Pk) (a:Act) (W:World):Prop:=∃ B,a={ tmps:=#[.slice none 0 0,.func (.func g) #[] lb,.pointer (some ⟨w.heap.size,0,none⟩),undef,.slice none 0 0,.pointer (some ⟨B,0,none⟩),.func (.func g) #[] lb,pkV x,undef,undef,undef,undef,undef],defers:=[] }∧W.heap[B]?=some (.cells (pkC x).toArray 60 (0,0))
theorem colA_own (w:World) (g:Nat) (lb:Array Value) (B:Nat) (x:Pk) (a:Act):OwnFrom B (fun (_:Unit) W=>ColA w g lb x a W):=by
 rintro s X Y row ⟨B',ha,hb⟩ hg hr
 refine ⟨B',ha,(hg.block _ (blk_lt hb) (fun e=>?_)).trans hb⟩
 obtain ⟨_,o,ho,hc⟩:=hr _ e.symm
 rw [hb] at ho
 cases ho
 cases hc
theorem colI_own (w:World):OwnFrom w.heap.size (ColI w) :=
 OwnFrom.and (Own.from (holdsRow_own w.heap.size w.heap.size 55 60 4 (fun pre:List Pk=>pre.length) (fun pre=>pksC pre) (fun _ _=>True)) _) (ownFrom_below (Nat.le_refl _) (by simp))
set_option maxRecDepth 100000 in
set_option maxHeartbeats 2000000 in
theorem appendPk_in (n:Nat) (hn:2≤n) (g:Nat) (lb:Array Value) (hFg:Fence.wide.fn g) (eg:∀ args w,(callFunc g args).run Tryz.prog w=.ok (.enter g args) w)
  (zs:List Pk) (n₀:Nat) (hlen:zs.length≤1000) (w:World) (hn₀:n₀≤w.heap.size)
  (hseq:SeqStopsK Fence.wide (n - 1) Tryz.prog g lb (fun x:Pk=>#[pkV x]) (Below n₀) (fun ys=>ys=zs) (fun pre=>pre <+: zs) zs.length w) :
  CallsIn Fence.wide n Tryz.prog 124 #[.slice none 0 0,.func (.func g) #[] lb] w fun e W'=>∃ v,e=.returned v∧W'.ownsRow w.heap.size 60 4 v zs.length (pksC zs)∧Below w.heap.size w W':=by
 have h1:1≤n:=by omega
 obtain ⟨i0,hi,hz0,hz1,hz2⟩:=info_parts infoPk
 refine callsIn_of_wp_marks Tryz.func124 rfl trivial ?_ rfl
 simp only [Tryz.ntmps124,List.size_toArray,List.length_cons,List.length_nil,Nat.reduceAdd,Nat.reduceSub,Array.replicate_succ,Array.replicate_zero,List.push_toArray,List.append_toArray,List.nil_append,List.cons_append]
 gi_wp2
 have bO:=Boxed.new w 55 (.slice none 0 0)
 have hB0:Below w.heap.size w (w.alloc (.cells #[.slice none 0 0] 55)):=(Below.refl _ w).alloc (Nat.le_refl _) _
 refine wpIn_rangeFunc_ownH (F:=Fence.wide) rfl h1 (gf:=g) (lb:=lb) rfl hFg eg
  hseq belowK_t (belowK_b (by simp;omega)) hB0 (fun _=>rfl)
  (ColI w) (fun _ _ _=>False)
  ?own (fun _ _ _ _ _ hs _ _=>hs)
  ⟨⟨_,bO,World.ownsRow_nil _ _ _ _,trivial⟩,hB0⟩
  (fun x a W=>ColA w g lb x a W) ?axo ?assign ?body ?done ?stop
 case own=>exact fun s X Y row hs hg hr=>colI_own w s X Y row hs hg (fun r e=>⟨Nat.le_trans (by simp) (hr r e).1,(hr r e).2⟩)
 case axo=>exact fun x a=>colA_own w g lb _ x a
 case assign =>
  rintro l pre ⟨sn,ak,bd,sl⟩ W K hI hK
  gi_wp2
  have FA:=Fr.alloc [] W (.cells #[.int .i64 sn,.int .i64 ak,.string bd,.string sl] 60)
  have hB:Below w.heap.size W (W.alloc (.cells #[.int .i64 sn,.int .i64 ak,.string bd,.string sl] 60)):=(Below.refl _ W).alloc hI.2.size _
  refine hK _ _ (keepsFrom_frL FA (by simp)) (hB.mono hn₀) ?_ ⟨W.heap.size,rfl,qm _ _⟩
  obtain ⟨⟨v,h1,h2,_⟩,h3⟩:=hI
  exact ⟨⟨v,h1.alloc _,h2.alloc _,trivial⟩,h3.trans hB⟩
 case body =>
  rintro l pre ⟨sn,ak,bd,sl⟩ a' W hll hrr ⟨⟨v,hv,hrow,_⟩,hB⟩ ⟨B,rfl,hb⟩ hlt
  have hc:=hv.cell
  have x0:W.cell? ⟨B,0,none⟩=some (.int .i64 sn):=qd hb 0
  have x1:W.cell? ⟨B,1,none⟩=some (.int .i64 ak):=qd hb 1
  have x2:W.cell? ⟨B,2,none⟩=some (.string bd):=qd hb 2
  have x3:W.cell? ⟨B,3,none⟩=some (.string sl):=qd hb 3
  clear hb
  gi_wp2_with (gi_at_builtin;refine wpListIn_append_own _ rfl _ _ 55 rfl w.heap.size 60 i0 _ 4 48 Tryz.underlying55 hi hz0 hz1 hz2 rfl (by decide) _ _ _ rfl (hrow.alloc _) ⟨W.heap.size,0,none⟩ 1 1 (pkC ⟨sn,ak,bd,sl⟩) rfl rfl (fun j u hu=>by rw [add_at,qd (qm _ _)];simpa [pkC] using hu) (by simp [pkC,Value.oneCell']) (by simp only [maxLen];omega) (by omega) (by have:=hB.size;simp;omega) ?_;intro v' w1 hown' hgrow _;obtain ⟨g',cap',rfl⟩:=ownsRow_succ hown';obtain ⟨hv1,hv2,hr2,hk2,hb2⟩:=hv.appended (by decide) hrow hB.size (Nat.le_refl _) hown' hgrow;have hc1:=hv1.cell;have hf1:=hv1.frozen)
  exact ⟨hk2.from _,hb2.mono hn₀,⟨_,hv2,by rw [pksC_snoc];simpa using hr2,trivial⟩,hB.trans hb2⟩
 case done =>
  rintro D ys W hD rfl ⟨⟨v,hv,hrow,_⟩,hB⟩ hK
  have hc:=hv.cell
  gi_wp2
  refine ⟨by simp,.inl ⟨_,_,rfl,run_takeDeferred hK,?_⟩⟩
  exact ⟨_,results_tmp rfl _ _ _,v,rfl,ownsRow_putObj hrow _ hK rfl,hB.trans (belowK_b (w:=w) (Nat.le_refl _) W D _ _ (by simp at hD;omega) hK rfl rfl)⟩
 case stop =>
  rintro D c pre W _ _ h _
  exact h.elim
theorem row_putP {w:World} {e:TypeId} {size g n cap:Nat} {xs:List Value} (h:w.ownsRow 0 e size (.slice (some ⟨g,0,none⟩) n cap) n xs) (i:Nat) (u:Value) (_hi:i < xs.length):(w.setCell ⟨g,i,none⟩ u).ownsRow 0 e size (.slice (some ⟨g,0,none⟩) n cap) n (xs.set i u):=by
 obtain ⟨hl,h2⟩:=h
 refine ⟨by simpa using hl,?_⟩
 rcases h2 with ⟨h0,_⟩ | ⟨g',cap',cur,hv,r0,hg,r1,r2,r3,r4⟩
 ·cases h0
 ·cases hv
  refine .inr ⟨g,cap,_,rfl,r0,qs u hg,r1,r2,by simpa using r3,?_⟩
  rw [← r4,← List.take_set]
  simp
theorem flat_setP {α:Type} {enc:α→List Value} {c:Nat} (hc:∀ x,(enc x).length=c):∀ (l:List α) (k j:Nat) (x:α) (u:Value) (hk:k < l.length),j < c→(enc l[k]).set j u=enc x→(l.flatMap enc).set (k*c+j) u=(l.set k x).flatMap enc
 | [],k,_,_,_,hk,_,_=>by simp at hk
 | y :: l,0,j,x,u,_,hj,hx=>by
  simp only [List.getElem_cons_zero] at hx
  simp only [List.flatMap_cons,qx,Nat.zero_mul,Nat.zero_add]
  rw [List.set_append_left _ _ (by rw [hc];exact hj),hx]
 | y :: l,k+1,j,x,u,hk,hj,hx=>by
  simp only [List.getElem_cons_succ] at hx
  simp only [List.flatMap_cons,qv]
  rw [List.set_append_right _ _ (by rw [hc,Nat.succ_mul];omega),← flat_setP hc l k j x u (by simpa using hk) hj hx]
  congr 2
  rw [hc,Nat.succ_mul];omega
theorem row_setP {α:Type} {enc:α→List Value} {c:Nat} (hc:∀ x,(enc x).length=c) {w:World} {e:TypeId} {g cap n:Nat} {l:List α} (_hn:n=l.length) (h:w.ownsRow 0 e c (.slice (some ⟨g,0,none⟩) n cap) n (l.flatMap enc)) (k j:Nat) (x:α) (u:Value) (hk:k < l.length) (hj:j < c) (hx:(enc l[k]).set j u=enc x) :
  (w.setCell ⟨g,k*c+j,none⟩ u).ownsRow 0 e c (.slice (some ⟨g,0,none⟩) n cap) n ((l.set k x).flatMap enc):=by
 have h1:=row_putP h (k*c+j) u (by
  rw [flat_len hc]
  have:(k+1)*c≤l.length*c:=Nat.mul_le_mul_right c hk
  rw [Nat.succ_mul] at this
  omega)
 rw [flat_setP hc l k j x u hk hj hx] at h1
 exact h1
structure PkY (w W:World) (v:Value) (l:List Pk):Prop where
 row:W.ownsRow 0 60 4 v l.length (pksC l)
 young:∀ g,v.ownBlock=some g→w.heap.size≤g
 fr:Fr [] w W
theorem PkY.same {w W W':World} {v:Value} {l:List Pk} (h:PkY w W v l) (hf:Fr [] W W'):PkY w W' v l:=⟨row_fr h.row hf (by simp),h.young,h.fr.trans hf⟩
theorem PkY.put {w W:World} {g n cap:Nat} {l:List Pk} (h:PkY w W (.slice (some ⟨g,0,none⟩) n cap) l) (i:Nat) (hi:i < l.length) (s:ByteArray) :
  PkY w (W.setCell ⟨g,i*4+3,none⟩ (.string s)) (.slice (some ⟨g,0,none⟩) n cap) (l.set i ⟨l[i].ser,l[i].ack,l[i].body,s⟩):=by
 have hn:n=l.length:=by
  obtain ⟨a,c,e⟩:=(sl_of_row h.row).val
  injection e
 subst hn
 exact ⟨by rw [List.length_set];exact row_setP (enc:=pkC) (c:=4) (fun _=>rfl) rfl h.row i 3 _ _ hi (by omega) rfl,h.young,h.fr.step (Fr.setCell (fp:=[g]) (p:=⟨g,i*4+3,none⟩) _ _ (by simp)) (fun k hk=>.inr (by simp at hk;subst hk;exact h.young _ rfl))⟩
theorem PkY.free {w W:World} {g n cap:Nat} {l:List Pk} (h:PkY w W (.slice (some ⟨g,0,none⟩) n cap) l) (j:Nat):W.frozen? ⟨g,j,none⟩=false:=by
 rcases h.row.2 with ⟨h0,_⟩ | ⟨g',cap',cur,h0,_,hb,_⟩
 ·cases h0
 ·cases h0;exact ql hb j
def sealO (key:ByteArray) (p:Pk):Pk:=⟨p.ser,p.ack,p.body,sealP key p⟩
def outP (E:En):List Pk:=(bareP E).map (sealO E.key)
def midO (k:ByteArray) (B:List Pk) (i:Nat):List Pk:=(B.map (sealO k)).take i++B.drop i
theorem midO_len (k:ByteArray) (B:List Pk) (i:Nat):(midO k B i).length=B.length:=by simp [midO];omega
theorem midO_at {k:ByteArray} {B:List Pk} {i:Nat} (h:i < B.length):(midO k B i)[i]'(by rw [midO_len];exact h)=B[i]:=by
 have hl:((B.map (sealO k)).take i).length=i:=by simp;omega
 have:(midO k B i)[i]?=some B[i]:=by
  unfold midO
  rw [List.getElem?_append_right (by omega),hl,Nat.sub_self,List.getElem?_drop,Nat.add_zero,List.getElem?_eq_getElem h]
 exact (List.getElem?_eq_some_iff.1 this).2
theorem midO_next {k:ByteArray} {B:List Pk} {i:Nat} (h:i < B.length):(midO k B i).set i (sealO k B[i])=midO k B (i+1):=by
 have hl:((B.map (sealO k)).take i).length=i:=by simp;omega
 unfold midO
 rw [List.set_append_right _ _ (by omega),hl,Nat.sub_self,List.drop_eq_getElem_cons h,qx,List.take_succ_eq_append_getElem (by simpa using h),List.append_assoc]
 simp
theorem midO_end (k:ByteArray) (B:List Pk):midO k B B.length=B.map (sealO k):=by
 unfold midO
 rw [List.drop_length,List.append_nil,List.take_of_length_le (by simp)]
theorem bareP_pos {E:En} (h:E.acked≤E.sent.length):0 < (bareP E).length∧(bareP E).length≤4:=by
 unfold bareP
 split
 ·simp
 ·simp only [List.length_map,List.length_range];omega
theorem bareP_ok {E:En} (hb:∀ s,s∈E.sent→s.size≤65536) (hl:E.sent.length≤100000) (hr:E.recv≤100000) (hac:E.acked≤E.sent.length):∀ p,p∈bareP E→(-1≤p.ser∧p.ser≤4611686018427387903)∧(-1≤p.ack∧p.ack≤4611686018427387903)∧p.body.size≤65536:=by
 intro p hp
 unfold bareP at hp
 split at hp
 ·simp only [List.mem_singleton] at hp
  subst hp
  exact ⟨⟨by simp only;omega,by simp only;omega⟩,⟨by simp only;omega,by simp only;omega⟩,by simp only;decide⟩
 ·obtain ⟨i,hi,rfl⟩:=List.mem_map.1 hp
  rw [List.mem_range] at hi
  have hlt:E.acked+i < E.sent.length:=by omega
  refine ⟨by simp only [pkAt];omega,by simp only [pkAt];omega,?_⟩
  simp only [pkAt,List.getD_eq_getElem?_getD,List.getElem?_eq_getElem hlt,Option.getD_some]
  exact hb _ (List.getElem_mem hlt)
set_option maxRecDepth 100000 in
theorem lkPackets_c (eb:Nat) (w:World):Calls Tryz.prog 77 #[.pointer (some ⟨eb,0,none⟩)] w fun e w'=>e=.returned (.func (.func 125) #[] #[.pointer (some ⟨w.heap.size,0,none⟩)])∧w'=w.alloc (.cells #[.pointer (some ⟨eb,0,none⟩)] 109):=by
 go_enter Tryz.func77,Tryz.ntmps77
 go_wp2_with fail
 go_ret
 exact ⟨rfl,rfl⟩
set_option maxRecDepth 100000 in
theorem collect_c {w:World} {eb mb bx:Nat} {vs:Value} {E:En} (h:EnIn w eb mb vs E) (hx:w.heap[bx]?=some (.cells #[.pointer (some ⟨eb,0,none⟩)] 109 (0,0))) (hac:E.acked≤E.sent.length) (hsl:E.sent.length≤100000) (hrc:E.recv≤100000) :
  Calls Tryz.prog 76 #[.func (.func 125) #[] #[.pointer (some ⟨bx,0,none⟩)]] w fun e W'=>∃ v,e=.returned v∧PkY w W' v (bareP E):=by
 have hl:=bareP_pos hac
 have CA:=qj ((callsIn_wide (n:=3)).1 (appendPk_in 3 (by omega) 125 #[.pointer (some ⟨bx,0,none⟩)] trivial (fun _ _=>rfl) (bareP E) w.heap.size (by omega) w (Nat.le_refl _) (packets_seq w.heap.size eb mb bx vs E w hac hsl hrc h hx (Nat.le_refl _) h.lt (blk_lt hx))))
 clear h hx hl hac hsl hrc
 go_enter Tryz.func76,Tryz.ntmps76
 go_wp2_with fail
 refine CA.out.mono ?_
 rintro e W' ⟨v,rfl,hr,hb⟩
 have HY:Hid (PkY w W' v (bareP E)):=qj ⟨⟨hr.1,hr.2.imp id fun ⟨g,cap,cur,a,_,c⟩=>⟨g,cap,cur,a,Nat.zero_le _,c⟩⟩,(fun g hg=>by
  rcases hr.2 with ⟨rfl,_⟩ | ⟨g',cap,cur,rfl,h1,_⟩
  ·cases hg
  ·cases hg;exact h1),Fr.of_below [] hb⟩
 clear hr hb CA
 go_wp2_with fail
 go_ret
 exact ⟨v,rfl,HY.out⟩
set_option maxRecDepth 100000 in
set_option maxHeartbeats 4000000 in
theorem lkOut_c {w:World} {eb mb:Nat} {vs:Value} {E:En} (h:EnIn w eb mb vs E) (hac:E.acked≤E.sent.length) (hsl:E.sent.length≤100000) (hrc:E.recv≤100000) (hk:E.key.size≤1000000) (hb:∀ s,s∈E.sent→s.size≤65536) (hR:RndAt w) :
  Calls Tryz.prog 41 #[.pointer (some ⟨eb,0,none⟩)] w fun e w'=>∃ v,e=.returned v∧PkY w w' v (outP E):=by
 have hbp:=bareP_pos hac
 have hok:=bareP_ok hb hsl hrc hac
 have CC:=qj fun (W:World) (bx:Nat) (hf:Fr [] w W) (hx:W.heap[bx]?=some (.cells #[.pointer (some ⟨eb,0,none⟩)] 109 (0,0)))=>collect_c (h.same hf) hx hac hsl hrc
 have CS0:=qj fun (p:Pk) (hp:p∈bareP E) (W:World) (hf:Fr [] w W)=>lkSeal_c E.key p W (hok p hp).1 (hok p hp).2.1 (hok p hp).2.2 hk (hR.same hf (by simp))
 have HE0:=qj h
 have hO:outP E=(bareP E).map (sealO E.key):=rfl
 obtain ⟨k,o,l,ac,rc,er⟩:=E
 simp only at CS0 hO
 generalize bareP ⟨k,o,l,ac,rc,er⟩=B at *
 rw [hO]
 have HL:=qj h.lt
 clear h hac hsl hrc hk hb hR hok hO
 go_enter Tryz.func41,Tryz.ntmps41
 go_wp2_with fail
 refine (lkPackets_c eb w).mono ?_
 rintro e w1 ⟨rfl,hw1⟩
 have F1:=Fr.alloc [] w (.cells #[.pointer (some ⟨eb,0,none⟩)] 109)
 have B1:=qm w (.cells #[.pointer (some ⟨eb,0,none⟩)] 109)
 rw [← hw1] at F1 B1
 have CC2:=qj (CC.out w1 w.heap.size F1 B1)
 have HF1:=qj F1
 clear hw1 F1 B1 CC
 go_wp2_with fail
 refine CC2.out.mono ?_
 rintro e w2 ⟨v,rfl,hy⟩
 have HY0:Hid (PkY w w2 v B):=qj ⟨hy.row,fun g hg=>Nat.le_trans HF1.out.size (hy.young g hg),HF1.out.trans hy.fr⟩
 have HE2:=qj (HE0.out.same HY0.out.fr)
 obtain ⟨a,cap,rfl⟩:=(sl_of_row hy.row).val
 obtain ⟨g,rfl⟩:∃ g,a=some ⟨g,0,none⟩:=by
  rcases hy.row.2 with ⟨_,h0⟩ | ⟨g,_,_,h0,_⟩
  ·omega
  ·cases h0;exact ⟨g,rfl⟩
 have hgE:∀ q,q∈enB eb mb vs→q≠g:=fun q hq e=>by have:=HL.out q hq;have:=HY0.out.young g rfl;omega
 have HGE:=qj hgE
 clear hy CC2 HF1 HE0 HL hgE
 go_wp2_with fail
 go_loopw [12] (fun iv wr=>∃ (i:Nat),iv=.int .i64 i∧i≤B.length∧Hid (PkY w wr (.slice (some ⟨g,0,none⟩) B.length cap) (midO k B i))∧Hid (EnIn wr eb mb vs ⟨k,o,l,ac,rc,er⟩)) (fun iv _=>B.length - (RowKit.intOf iv).toNat)
 case atStart=>exact ⟨0,rfl,Nat.zero_le _,by simpa [midO] using HY0,HE2⟩
 case round =>
  clear HY0 HE2
  obtain ⟨i,rfl,hi,HY,HE⟩:=hrel
  by_cases hlt:i < B.length
  ·have hib:i < (midO k B i).length:=by rw [midO_len];exact hlt
   have hrow:wr.ownsRow 0 60 4 (.slice (some ⟨g,0,none⟩) B.length cap) B.length (pksC (midO k B i)):=by
    have:=HY.out.row
    rwa [midO_len] at this
   have hcl:∀ j u,(pkC B[i])[j]?=some u→wr.cell? ⟨g,i*4+j,none⟩=some u:=by
    intro j u hu
    obtain ⟨b',o',h0,hc⟩:=(sl_of_row hrow).at_ (by omega)
    cases h0
    have:=hc (i*4+j) u (by
     have hj:j < 4:=(List.getElem?_eq_some_iff.1 hu).1
     rw [pksC,flat_get (enc:=pkC) (k:=4) (fun _=>rfl) _ i hib j hj,midO_at hlt];exact hu)
    simpa using this
   have p0:=hcl 0 _ rfl;have p1:=hcl 1 _ rfl;have p2:=hcl 2 _ rfl;have p3:=hcl 3 _ rfl
   simp only [Nat.add_zero] at p0
   have CS:=qj (CS0.out B[i] (List.getElem_mem hlt))
   have HNX:=qj (midO_next (k:=k) hlt)
   have HPut:Hid (∀ W,PkY w W (.slice (some ⟨g,0,none⟩) B.length cap) (midO k B i)→PkY w (W.setCell ⟨g,i*4+3,none⟩ (.string (sealP k B[i]))) (.slice (some ⟨g,0,none⟩) B.length cap) (midO k B (i+1))):=qj fun W hW=>by
    have:=hW.put i hib (sealP k B[i])
    rw [← HNX.out]
    simp only [midO_at hlt] at this
    exact this
   clear hcl HNX hrow hib
   have hgE:=HGE.out
   generalize B[i]=x at *
   obtain ⟨sn,ak,bd,sx⟩:=x
   generalize sealP k ⟨sn,ak,bd,sx⟩=S at *
   have hf3:=HY.out.free (i*4+3)
   go_upto_region 7 with fail
   refine reg_fin (Fr [] wr) 13 [0,1,2,3,4,5,6,7,8,9,10,11,12,13] (by kernel_rfl) (by kernel_rfl) (by kernel_rfl) rfl ?_
   have FC:Fr [] wr wr.drew:=Fr.drew _ _
   generalize wr.drew=WC at FC ⊢
   iterate 10 (refine fin_take (v:=?_) rfl rfl rfl rfl FC (fun w hS=>?_) ?_;rotate_left;(focus (have XE:=hS.keep HE.out.blk (by simp);have k0:World.cell? _ ⟨eb,0,none⟩=some (.string k):=qd XE 0;have p0:=hS.cel p0 (by simp);have p1:=hS.cel p1 (by simp);have p2:=hS.cel p2 (by simp);have p3:=hS.cel p3 (by simp);clear XE;clear hS;go_simp;rfl));simp only [qu,qv,qx])
   refine fin_do rfl rfl rfl (fun K hK=>?_)
   go_simp
   refine (CS.out WC (HY.out.fr.trans FC)).mono ?_
   rintro e wq ⟨rfl,fq⟩
   have FC:=FC.trans fq
   refine hK _ _ FC ?_
   clear hK K fq
   try simp only [Act.put,qu,qv,qx]
   iterate 2 (refine fin_take (v:=?_) rfl rfl rfl rfl FC (fun w hS=>?_) ?_;rotate_left;(focus (clear hS;go_simp;rfl));simp only [qu,qv,qx])
   have q3:=FC.cel p3 (by simp)
   have HYC:=qj (HY.out.same FC)
   have y3:wq.frozen? ⟨g,i*4+3,none⟩=false:=HYC.out.free _
   refine fin_last rfl rfl rfl (fun K hK=>?_)
   go_simp
   refine hK _ _ ?_
   clear hK K p0 p1 p2 p3 q3 y3
   have HYN:=qj (HPut.out _ HYC.out)
   have HEN:=qj ((HE.out.same FC).fr (Fr.setCell (fp:=[g]) (p:=⟨g,i*4+3,none⟩) wq (.string S) (by simp)) (fun q hq hm=>by simp at hm;subst hm;exact hgE q hq rfl))
   go_wp2_with fail
   go_roundw
   case rel=>exact ⟨i+1,by go_num,by omega,HYN,HEN⟩
   case measure=>simp [RowKit.intOf];omega
  ·obtain rfl:i=B.length:=by omega
   go_wp2_with fail
   go_ret
   have hy:=HY.out
   rw [midO_end] at hy
   exact ⟨_,rfl,hy⟩
end
section
open Go.RowKit Go.Lib
open Go.MapKept
theorem ite_ok (p:Prop) [Decidable p] (d:Bool) (w:World):(if p then (Result.ok d w:Result Bool) else Result.ok false w)=Result.ok (decide p && d) w:=by
 by_cases h:p <;> simp [h]
theorem ntEq_run (a b:Nt) (w:World):(Op.equal 31 (ntV a) (ntV b)).run Tryz.prog w=.ok (decide (a=b)) w:=by
 obtain ⟨a1,a2,a3,a4,a5,a6,a7,a8,a9,a10,a11,a12,a13,a14,a15⟩:=a
 obtain ⟨b1,b2,b3,b4,b5,b6,b7,b8,b9,b10,b11,b12,b13,b14,b15⟩:=b
 show (Op.equalIn (9999+1) 31 (ntV _) (ntV _)).run Tryz.prog w=_
 rw [ntV,ntV,run_equalIn_agg w 9999 31 _ _ (by kernel_rfl) (by kernel_rfl)]
 go_simp
 simp only [ite_ok]
 congr 1
 rw [Bool.eq_iff_iff]
 simp only [Bool.and_eq_true,decide_eq_true_eq,and_true]
theorem ckI_run (em:Bool) (n:Nat) (a:Int) (w:World):(Instr.checkKey em (n+1) 3 (.int .i64 a)).run Tryz.prog w=.ok () w:=run_checkKey Tryz.underlying3 (show IsKey (.int .i64) (.int .i64 a) from rfl) em n
theorem ckB_run (em:Bool) (n:Nat) (a:Bool) (w:World):(Instr.checkKey em (n+1) 4 (.bool a)).run Tryz.prog w=.ok () w:=by
 rw [Instr.checkKey]
 go_simp
theorem ckL_run (em:Bool) (n:Nat) (a b c:Int) (w:World):(Instr.checkKey em (n+2) 25 (.agg #[.int .i64 a,.int .i64 b,.int .i64 c])).run Tryz.prog w=.ok () w:=by
 rw [Instr.checkKey]
 go_simp
 simp only [ckI_run,Result.andThen_ok]
theorem ckE_run (em:Bool) (n:Nat) (a b c:Int) (w:World):(Instr.checkKey em (n+2) 29 (.agg #[.int .i64 a,.int .i64 b,.int .i64 c])).run Tryz.prog w=.ok () w:=by
 rw [Instr.checkKey]
 go_simp
 simp only [ckI_run,Result.andThen_ok]
theorem ckC_run (em:Bool) (n:Nat) (a b c d f:Int) (g:Bool) (w:World):(Instr.checkKey em (n+2) 27 (.agg #[.int .i64 a,.int .i64 b,.int .i64 c,.int .i64 d,.int .i64 f,.bool g])).run Tryz.prog w=.ok () w:=by
 rw [Instr.checkKey]
 go_simp
 simp only [ckI_run,ckB_run,Result.andThen_ok]
theorem ntCheck_run (em:Bool) (a:Nt) (w:World):(Instr.checkKey em 10000 31 (ntV a)).run Tryz.prog w=.ok () w:=by
 rw [ntV,Instr.checkKey]
 go_simp
 simp only [ckI_run,ckL_run,ckE_run,ckC_run,Result.andThen_ok]
theorem ntStays_run (a:Nt) (w:World):(Instr.keyThatStays (ntV a) (ntV a)).run Tryz.prog w=.ok (ntV a) w:=by
 have:Instr.sameBits 10000 (ntV a) (ntV a)=true:=by
  show Instr.sameBits (9999+1) (ntV a) (ntV a)=true
  simp [Instr.sameBits]
 simp [Instr.keyThatStays,this]
theorem ntV_inj (a b:Nt) (h:ntV a=ntV b):a=b:=by
 obtain ⟨a1,a2,a3,a4,a5,a6,a7,a8,a9,a10,a11,a12,a13,a14,a15⟩:=a;obtain ⟨b1,b2,b3,b4,b5,b6,b7,b8,b9,b10,b11,b12,b13,b14,b15⟩:=b
 simp only [ntV,Value.agg.injEq,Array.mk.injEq,List.cons.injEq,Value.int.injEq,Value.bool.injEq,true_and,and_true] at h
 simp only [Nt.mk.injEq];exact h
theorem ntFind_run (w:World) (a:Nt):∀ (es:List MapEntry) (i:Nat),(∀ e∈es,∃ b:Nt,e.key=ntV b) →
  ((Instr.findAsking 31 (ntV a) es i).run Tryz.prog w=.ok none w∧∀ e∈es,e.key≠ntV a)∨∃ j e,(Instr.findAsking 31 (ntV a) es i).run Tryz.prog w=.ok (some (i+j,e.val)) w∧es[j]?=some e∧e.key=ntV a
 | [],i,_=>.inl ⟨by simp [Instr.findAsking],by simp⟩
 | e :: es,i,h=>by
  obtain ⟨b,hb⟩:=h e List.mem_cons_self
  by_cases hab:a=b
  ·subst hab
   exact .inr ⟨0,e,by simp [Instr.findAsking,hb,ntEq_run],rfl,hb⟩
  ·have h1:(Instr.findAsking 31 (ntV a) (e :: es) i).run Tryz.prog w=(Instr.findAsking 31 (ntV a) es (i+1)).run Tryz.prog w:=by
    simp [Instr.findAsking,hb,ntEq_run,hab]
   rw [h1]
   rcases ntFind_run w a es (i+1) (fun x hx=>h x (List.mem_cons_of_mem _ hx)) with ⟨h2,h3⟩ | ⟨j,x,h2,h3,h4⟩
   ·exact .inl ⟨h2,fun x hx=>by
     rcases List.mem_cons.1 hx with rfl | hx
     ·rw [hb];exact fun q=>hab (ntV_inj _ _ q).symm
     ·exact h3 x hx⟩
   ·exact .inr ⟨j+1,x,by rw [h2,show i+1+j=i+(j+1) from by omega],by simpa using h3,h4⟩
theorem keyN:KeyD Tryz.prog 31 ntV where
 check w em a:=ntCheck_run em a w
 find w a es h:=by
  cases es with
  | nil=>exact .inl ⟨by rw [Instr.findKey,Sem.run_bind,run_underlying Tryz.underlying31,Result.andThen_ok];rfl,by simp⟩
  | cons e es =>
   have h1:(Instr.findKey 31 (ntV a) (e :: es)).run Tryz.prog w=(Instr.findAsking 31 (ntV a) (e :: es) 0).run Tryz.prog w:=by
    obtain ⟨b,hb⟩:=h e List.mem_cons_self
    rw [Instr.findKey,Sem.run_bind,run_underlying Tryz.underlying31,Result.andThen_ok];rfl
   rw [h1]
   rcases ntFind_run w a (e :: es) 0 h with ⟨h2,h3⟩ | ⟨j,x,h2,h3,h4⟩
   ·exact .inl ⟨h2,h3⟩
   ·exact .inr ⟨j,x,by simpa using h2,h3,h4⟩
 stays w a:=ntStays_run a w
 inj:=ntV_inj
end
end Go.Proofs.YtledkokhghjfmaaGreatDoor
