/-
  The law CarrierReads, walked.
-/
import Derived.Test.YtledkokhghjfmaaGreatDoorPN12
import Derived.Test.YtledkokhghjfmaaGreatDoorPN13
namespace Go.Proofs.YtledkokhghjfmaaGreatDoor
open Go.RowKit Go.Shelf Go.Lib
theorem wp_join2 {α:Type} {P:Program} {c:Code} {Q:Exit→Act→World→Prop} {a:Act} {w:World} {R:Nat→α→World→Prop} (F:Nat→α→Act) (h:c.wp P (fun e a' w'=>e=.normal∧∃ nb f,a'=F nb f∧R nb f w') a w) (hq:∀ nb f w',R nb f w'→Q .normal (F nb f) w'):c.wp P Q a w :=
 Code.wp_mono (fun e a' w' he=>by obtain ⟨rfl,nb,f,rfl,hr⟩:=he;exact hq nb f w' hr) h
set_option maxRecDepth 100000 in
set_option maxHeartbeats 40000000 in
theorem reads_c (src c0 c1 c2 c3 c4 c5 at_ oth:Int) (c:UInt8) (w:World) (a:Addr) (hA:DmgAt w a) (hR:RndAt w) (hsrc:I64 src) (h0:I64 c0) (h1:I64 c1) (h2:I64 c2) (h3:I64 c3) (h4:I64 c4) (h5:I64 c5) (hat:I64 at_) (hoth:I64 oth) :
  Calls Tryz.prog 3 #[.int .i64 src,.agg #[.int .i64 c0,.int .i64 c1,.int .i64 c2,.int .i64 c3,.int .i64 c4,.int .i64 c5],.int .i64 at_,.int .u8 c.toNat,.int .i64 oth] w fun e w'=>e=.returned (.bool true)∧Fr [] w w':=by
 have hpk:=pkI_bd src (n:=8) (by decide)
 have hpk:0≤pkI src 8∧pkI src 8≤7:=⟨hpk.1,by omega⟩
 have hpo:=pkI_bd oth (n:=8) (by decide)
 have hpo:0≤pkI oth 8∧pkI oth 8≤7:=⟨hpo.1,by omega⟩
 have FB:=Fr.alloc [] w (.cells #[.int .i64 c0,.int .i64 c1,.int .i64 c2,.int .i64 c3,.int .i64 c4,.int .i64 c5] 22)
 have HB:=qj (qm w (.cells #[.int .i64 c0,.int .i64 c1,.int .i64 c2,.int .i64 c3,.int .i64 c4,.int .i64 c5] 22))
 have HD:=qj (hA.fr FB (by simp));have HR:=qj (hR.same FB (by simp));have HFB:=qj FB
 clear hA hR FB
 go_enter Tryz.func3,Tryz.ntmps3
 go_wp2_with fail
 refine (sane_c _ a HD.out HR.out).mono ?_
 rintro e w1 ⟨rfl,f1⟩
 have HX:=qj (f1.keep HB.out (by simp));have HF:=qj (HFB.out.trans f1)
 clear f1 HB HFB HD HR
 go_upto_region 4 with fail
 apply wp_join2 (R:=fun nb f w'=>Hid (NtAt w' nb f∧fmN f=true∧f.src=pkI src 8∧Fr [] w1 w'∧w1.heap.size≤nb))
 rotate_left 0
 focus
  refine reg_tree (Fr [] w1) 5 (.take 0 (.take 2 (.two 1 4 (.two 3 4 (.one 4 (.one 5 .nil)) (.one 3 (.one 5 .nil))) (.one 1 (.one 3 (.one 5 .nil)))))) (by kernel_rfl) (by kernel_rfl) (by kernel_rfl) rfl ?_
  have FC:Fr [] w1 w1.drew:=Fr.drew _ _
  generalize w1.drew=WC at FC ⊢
  refine tree_take (v:=?_) rfl rfl rfl FC (fun w hS=>?_) ?_;rotate_left;(focus (clear hS;go_simp;rfl));simp only [qu,qv,qx]
  refine tree_take (v:=?_) rfl rfl rfl FC (fun w hS=>?_) ?_;rotate_left;(focus (have X:=hS.keep HX.out (by simp);have x0:=qd X 0;have x1:=qd X 1;have x2:=qd X 2;have x3:=qd X 3;have x4:=qd X 4;have x5:=qd X 5;clear X;clear hS;go_simp;rfl));simp only [qu,qv,qx]
  refine ⟨?_,?_⟩
  ·refine tree_op rfl rfl (fun K hK=>?_)
   go_simp
   refine (w43Pick_c _ _ _ hsrc (by decide)).mono ?_
   rintro e wp ⟨rfl,hw⟩
   rw [hw]
   clear hw wp
   refine hK _ _ FC ?_
   clear hK K
   try simp only [Act.put,qu,qv,qx]
   refine ⟨?_,?_⟩
   ·refine tree_op rfl rfl (fun K hK=>?_)
    go_simp
    refine (made_c _ _ _ _ _ _ _ _ hpk h0 h1 h2 h3 h4 h5).mono ?_
    rintro e wq ⟨f,rfl,hfm,hfs,fq⟩
    have FC:=FC.trans fq
    refine hK _ _ FC ?_
    clear hK K fq
    try simp only [Act.put,qu,qv,qx]
    refine tree_one rfl rfl (fun K hK=>?_)
    go_simp
    have FA:=Fr.alloc [] wq (.cells (ntC nt0).toArray 31)
    have BN:NtAt (World.alloc wq (.cells (ntC nt0).toArray 31)) wq.heap.size nt0:=qm wq (.cells (ntC nt0).toArray 31)
    have hgl:w1.heap.size≤wq.heap.size:=FC.size
    have FC:=FC.trans FA
    refine hK _ _ FC ?_
    clear hK K FA
    try simp only [Act.put,qu,qv,qx]
    change wpTree _ _ _ _ _ _ _ (World.alloc wq (.cells (ntC nt0).toArray 31))
    generalize World.alloc wq (.cells (ntC nt0).toArray 31)=WD at *
    generalize wq.heap.size=nb at *
    refine tree_last rfl rfl (fun K hK=>?_)
    refine wp_nt (.tmp 12) (.tmp 30) nb nt0 f rfl rfl rfl BN rfl (fun W' hn fn=>hK _ _ ?_)
    clear hK K
    refine noPanicN ?_
    exact ⟨rfl,nb,f,rfl,qj ⟨hn,hfm,hfs,FC.step fn (fun k hk=>.inr (by simp at hk;omega)),hgl⟩⟩
   ·refine tree_op rfl rfl (fun K hK=>?_)
    go_simp
    have FA:=Fr.alloc [] WC (.cells (ntC nt0).toArray 31)
    have BN:NtAt (World.alloc WC (.cells (ntC nt0).toArray 31)) WC.heap.size nt0:=qm WC (.cells (ntC nt0).toArray 31)
    have hgl:w1.heap.size≤WC.heap.size:=FC.size
    have FC:=FC.trans FA
    refine hK _ _ FC ?_
    clear hK K FA
    try simp only [Act.put,qu,qv,qx]
    change wpTree _ _ _ _ _ _ _ (World.alloc WC (.cells (ntC nt0).toArray 31))
    generalize World.alloc WC (.cells (ntC nt0).toArray 31)=WD at *
    generalize WC.heap.size=nb at *
    refine tree_one rfl rfl (fun K hK=>?_)
    go_simp
    refine (made_c _ _ _ _ _ _ _ _ hpk h0 h1 h2 h3 h4 h5).mono ?_
    rintro e wq ⟨f,rfl,hfm,hfs,fq⟩
    have BN:=fq.keep BN (by simp)
    have FC:=FC.trans fq
    refine hK _ _ FC ?_
    clear hK K fq
    try simp only [Act.put,qu,qv,qx]
    refine tree_last rfl rfl (fun K hK=>?_)
    refine wp_nt (.tmp 12) (.tmp 30) nb nt0 f rfl rfl rfl BN rfl (fun W' hn fn=>hK _ _ ?_)
    clear hK K
    refine noPanicN ?_
    exact ⟨rfl,nb,f,rfl,qj ⟨hn,hfm,hfs,FC.step fn (fun k hk=>.inr (by simp at hk;omega)),hgl⟩⟩
  ·refine tree_op rfl rfl (fun K hK=>?_)
   go_simp
   have FA:=Fr.alloc [] WC (.cells (ntC nt0).toArray 31)
   have BN:NtAt (World.alloc WC (.cells (ntC nt0).toArray 31)) WC.heap.size nt0:=qm WC (.cells (ntC nt0).toArray 31)
   have hgl:w1.heap.size≤WC.heap.size:=FC.size
   have FC:=FC.trans FA
   refine hK _ _ FC ?_
   clear hK K FA
   try simp only [Act.put,qu,qv,qx]
   change wpTree _ _ _ _ _ _ _ (World.alloc WC (.cells (ntC nt0).toArray 31))
   generalize World.alloc WC (.cells (ntC nt0).toArray 31)=WD at *
   generalize WC.heap.size=nb at *
   refine tree_one rfl rfl (fun K hK=>?_)
   go_simp
   refine (w43Pick_c _ _ _ hsrc (by decide)).mono ?_
   rintro e wp ⟨rfl,hw⟩
   rw [hw]
   clear hw wp
   refine hK _ _ FC ?_
   clear hK K
   try simp only [Act.put,qu,qv,qx]
   refine tree_one rfl rfl (fun K hK=>?_)
   go_simp
   refine (made_c _ _ _ _ _ _ _ _ hpk h0 h1 h2 h3 h4 h5).mono ?_
   rintro e wq ⟨f,rfl,hfm,hfs,fq⟩
   have BN:=fq.keep BN (by simp)
   have FC:=FC.trans fq
   refine hK _ _ FC ?_
   clear hK K fq
   try simp only [Act.put,qu,qv,qx]
   refine tree_last rfl rfl (fun K hK=>?_)
   refine wp_nt (.tmp 12) (.tmp 30) nb nt0 f rfl rfl rfl BN rfl (fun W' hn fn=>hK _ _ ?_)
   clear hK K
   refine noPanicN ?_
   exact ⟨rfl,nb,f,rfl,qj ⟨hn,hfm,hfs,FC.step fn (fun k hk=>.inr (by simp at hk;omega)),hgl⟩⟩
 rintro A f w2 HA
 have hfm:=HA.out.2.1
 have HN:=qj HA.out.1;have HF2:=qj (HF.out.trans HA.out.2.2.2.1)
 clear HA HF HX
 have y0:=HN.out.cells 0 _ rfl;have y1:=HN.out.cells 1 _ rfl;have y2:=HN.out.cells 2 _ rfl;have y3:=HN.out.cells 3 _ rfl;have y4:=HN.out.cells 4 _ rfl;have y5:=HN.out.cells 5 _ rfl;have y6:=HN.out.cells 6 _ rfl;have y7:=HN.out.cells 7 _ rfl;have y8:=HN.out.cells 8 _ rfl;have y9:=HN.out.cells 9 _ rfl;have y10:=HN.out.cells 10 _ rfl;have y11:=HN.out.cells 11 _ rfl;have y12:=HN.out.cells 12 _ rfl;have y13:=HN.out.cells 13 _ rfl;have y14:=HN.out.cells 14 _ rfl
 go_wp2_with fail
 refine (CAText_c f w2).mono ?_
 rintro e w3 ⟨rfl,f3⟩
 rw [txtV_of hfm]
 have HN3:Hid (NtAt w3 A f):=qj (f3.keep HN.out (by simp));have HF3:=qj (HF2.out.trans f3)
 clear f3 HN HF2 y0 y1 y2 y3 y4 y5 y6 y7 y8 y9 y10 y11 y12 y13 y14
 have htz:=txt_size hfm;have htp:=txt_pos hfm;have HRT:=qj (readV_txt hfm)
 have CRL:=qj fun z=>readV_law hfm hpo z
 generalize str (txtN f)=st at *
 have y0:=HN3.out.cells 0 _ rfl;have y1:=HN3.out.cells 1 _ rfl;have y2:=HN3.out.cells 2 _ rfl;have y3:=HN3.out.cells 3 _ rfl;have y4:=HN3.out.cells 4 _ rfl;have y5:=HN3.out.cells 5 _ rfl;have y6:=HN3.out.cells 6 _ rfl;have y7:=HN3.out.cells 7 _ rfl;have y8:=HN3.out.cells 8 _ rfl;have y9:=HN3.out.cells 9 _ rfl;have y10:=HN3.out.cells 10 _ rfl;have y11:=HN3.out.cells 11 _ rfl;have y12:=HN3.out.cells 12 _ rfl;have y13:=HN3.out.cells 13 _ rfl;have y14:=HN3.out.cells 14 _ rfl
 go_wp2_with fail
 refine (CARead_c _ _ w3 (by omega)).mono ?_
 rintro e w4 ⟨rfl,f4⟩
 rw [HRT.out]
 have FA:=Fr.alloc [] w4 (.cells (ntC f).toArray 31)
 have HG:Hid (NtAt _ w4.heap.size f):=qj (qm w4 (.cells (ntC f).toArray 31))
 have HN4:Hid (NtAt _ A f):=qj (FA.keep (f4.keep HN3.out (by simp)) (by simp));have HF4:=qj ((HF3.out.trans f4).trans FA)
 clear f4 FA HN3 HF3 y0 y1 y2 y3 y4 y5 y6 y7 y8 y9 y10 y11 y12 y13 y14
 go_upto_region 7 with fail
 change Code.wp _ _ _ _ (World.alloc w4 (.cells (ntC f).toArray 31))
 generalize World.alloc w4 (.cells (ntC f).toArray 31)=w5 at *
 generalize w4.heap.size=G at *
 have y0:=HN4.out.cells 0 _ rfl;have y1:=HN4.out.cells 1 _ rfl;have y2:=HN4.out.cells 2 _ rfl;have y3:=HN4.out.cells 3 _ rfl;have y4:=HN4.out.cells 4 _ rfl;have y5:=HN4.out.cells 5 _ rfl;have y6:=HN4.out.cells 6 _ rfl;have y7:=HN4.out.cells 7 _ rfl;have y8:=HN4.out.cells 8 _ rfl;have y9:=HN4.out.cells 9 _ rfl;have y10:=HN4.out.cells 10 _ rfl;have y11:=HN4.out.cells 11 _ rfl;have y12:=HN4.out.cells 12 _ rfl;have y13:=HN4.out.cells 13 _ rfl;have y14:=HN4.out.cells 14 _ rfl
 have z0:=HG.out.cells 0 _ rfl;have z1:=HG.out.cells 1 _ rfl;have z2:=HG.out.cells 2 _ rfl;have z3:=HG.out.cells 3 _ rfl;have z4:=HG.out.cells 4 _ rfl;have z5:=HG.out.cells 5 _ rfl;have z6:=HG.out.cells 6 _ rfl;have z7:=HG.out.cells 7 _ rfl;have z8:=HG.out.cells 8 _ rfl;have z9:=HG.out.cells 9 _ rfl;have z10:=HG.out.cells 10 _ rfl;have z11:=HG.out.cells 11 _ rfl;have z12:=HG.out.cells 12 _ rfl;have z13:=HG.out.cells 13 _ rfl;have z14:=HG.out.cells 14 _ rfl
 go_upto_region 9 with fail
 clear y0 y1 y2 y3 y4 y5 y6 y7 y8 y9 y10 y11 y12 y13 y14
 clear z0 z1 z2 z3 z4 z5 z6 z7 z8 z9 z10 z11 z12 z13 z14
 have hpa:=pkI_bd at_ (n:=(st.size:Int)) (by omega)
 obtain ⟨k,hk⟩:∃ k:Nat,pkI at_ (st.size:Int)=k:=⟨(pkI at_ (st.size:Int)).toNat,by omega⟩
 have HK:=qj hk;have hkl:k < st.size:=by omega
 clear hk hpa
 go_wp2_with fail
 refine (w43Pick_c _ _ _ hat (by omega)).mono ?_
 rintro e wp ⟨rfl,hw⟩
 rw [hw,HK.out]
 clear hw wp
 go_upto_region 10 with fail
 have q1:IntKind.i64.wrap ((k:Int)+1)=((k+1:Nat):Int):=(IntWalk.i64_in _ (by omega)).trans (by omega)
 refine reg_mix (Fr [] w5) [0,1,2,3,7,8,9,10,12,13,14,15,16,17,18,19,20,23,4,5,6,11,21,22] (by kernel_rfl) (by kernel_rfl) (by kernel_rfl) rfl (Fr.drew _ _) ?_
 have FC:Fr [] w5 w5.drew:=Fr.drew _ _
 generalize w5.drew=WC at FC ⊢
 iterate 7 (refine mix_take1 (v:=?_) rfl rfl rfl rfl (fun w hS=>?_) ?_;rotate_left;(focus (clear hS;go_simp;first | rfl | (rw [if_pos (by omega)];try rfl) | (rw [if_neg (by omega)];try rfl)));simp only [qu,qv,qx])
 try simp only [q1]
 iterate 11 (refine mix_take1 (v:=?_) rfl rfl rfl rfl (fun w hS=>?_) ?_;rotate_left;(focus (clear hS;go_simp;first | rfl | (rw [if_pos (by omega)];try rfl) | (rw [if_neg (by omega)];try rfl)));simp only [qu,qv,qx])
 refine mix_do rfl rfl rfl (fun K hK=>?_)
 go_simp
 have FA:=FC.trans (Fr.alloc [] WC (.cells #[.int .u8 c.toNat] 5))
 have BB:BytesAt (World.alloc WC (.cells #[.int .u8 c.toNat] 5)) WC.heap.size 5 [c]:=qm WC _
 refine hK _ _ FA ?_
 clear hK K FC
 try simp only [Act.put,qu,qv,qx]
 change wpMix _ _ _ _ _ _ (World.alloc WC (.cells #[.int .u8 c.toNat] 5))
 generalize World.alloc WC (.cells #[.int .u8 c.toNat] 5)=WD at *
 generalize WC.heap.size=b0 at *
 refine mix_do rfl rfl rfl (fun K hK=>?_)
 refine wp_b2s (.tmp 67) 39 9 5 rfl Tryz.underlying39 Tryz.underlying5 Tryz.underlying9 c b0 5 rfl BB rfl ?_
 refine hK _ _ FA ?_
 clear hK K BB
 simp only [qu,qv,qx]
 iterate 2 (refine mix_take1 (v:=?_) rfl rfl rfl rfl (fun w hS=>?_) ?_;rotate_left;(focus (clear hS;go_simp;first | rfl | (rw [if_pos (by omega)];try rfl) | (rw [if_neg (by omega)];try rfl)));simp only [qu,qv,qx])
 have hs0:(st.extract 0 k++⟨#[c]⟩++st.extract (k+1) st.size).size≤200:=by have e1:(⟨#[c]⟩:ByteArray).size=1:=rfl;simp;omega
 have hs1:(st.extract 0 k).size≤200:=by have e1:(⟨#[c]⟩:ByteArray).size=1:=rfl;simp;omega
 have hs2:(st.extract k st.size).size≤200:=by have e1:(⟨#[c]⟩:ByteArray).size=1:=rfl;simp;omega
 have hs3:(st++st).size≤200:=by have e1:(⟨#[c]⟩:ByteArray).size=1:=rfl;simp;omega
 generalize st.extract 0 k++⟨#[c]⟩++st.extract (k+1) st.size=z0 at *
 generalize st.extract 0 k=z1 at *
 generalize st.extract k st.size=z2 at *
 generalize st++st=z3 at *
 refine mix_do rfl rfl rfl (fun K hK=>?_)
 go_simp
 have FB:=FA.trans (Fr.alloc [] WD (.cells #[.string z0,.string z1,.string z2,.string z3] 9))
 have HZ:=qj (qm WD (.cells #[.string z0,.string z1,.string z2,.string z3] 9))
 refine hK _ _ FB ?_
 clear hK K FA
 try simp only [Act.put,qu,qv,qx]
 change wpMix _ _ _ _ _ _ (World.alloc WD (.cells #[.string z0,.string z1,.string z2,.string z3] 9))
 generalize World.alloc WD (.cells #[.string z0,.string z1,.string z2,.string z3] 9)=w6 at *
 generalize WD.heap.size=B at *
 have HF6:=qj (HF4.out.trans FB);have HN6:Hid (NtAt w6 A f):=qj (FB.keep HN4.out (by simp))
 clear FB HF4 HN4 HG HRT
 iterate 1 (refine mix_take1 (v:=?_) rfl rfl rfl rfl (fun w hS=>?_) ?_;rotate_left;(focus (clear hS;go_simp;first | rfl | (rw [if_pos (by omega)];try rfl) | (rw [if_neg (by omega)];try rfl)));simp only [qu,qv,qx])
 refine mix_end ?_
 clear q1
 go_wp2_with fail
 go_loopw [86] (fun iv wr=>∃ i:Nat,iv=.int .i64 i∧i≤4∧Hid (wr.heap[B]?=some (.cells #[.string z0,.string z1,.string z2,.string z3] 9 (0,0)))∧Hid (Fr [] w wr)) (fun iv _=>4 - (RowKit.intOf iv).toNat)
 case atStart=>exact ⟨0,rfl,by omega,HZ,HF6⟩
 case round =>
  clear HF6 HZ HN6
  obtain ⟨i,rfl,hi,HZ,HF⟩:=hrel
  by_cases hlt:i < 4
  ·obtain ⟨z,hz,hzs⟩:∃ z:ByteArray,wr.cell? ⟨B,i,none⟩=some (.string z)∧z.size≤200:=by
    obtain rfl | rfl | rfl | rfl:i=0∨i=1∨i=2∨i=3:=by omega
    ·exact ⟨z0,qd HZ.out 0,hs0⟩
    ·exact ⟨z1,qd HZ.out 1,hs1⟩
    ·exact ⟨z2,qd HZ.out 2,hs2⟩
    ·exact ⟨z3,qd HZ.out 3,hs3⟩
   go_wp2_with fail
   refine (w43Pick_c _ _ _ hoth (by decide)).mono ?_
   rintro e wp ⟨rfl,hw⟩
   rw [hw]
   clear hw wp
   clear hz
   go_wp2_with fail
   refine (CARead_c _ _ _ (by omega)).mono ?_
   rintro e w7 ⟨rfl,f7⟩
   have HF7:=qj (HF.out.trans f7);have HZ7:=qj (f7.keep HZ.out (by simp))
   clear f7 HF HZ
   rcases CRL.out z with ⟨u,hu,hus,hut⟩ | ⟨hu,hne⟩
   ·rw [hu]
    have HUS:=qj hus;have HUT:=qj hut
    clear hu hus hut
    have FA:=Fr.alloc [] w7 (.cells (ntC u).toArray 31)
    have HU:Hid (NtAt _ w7.heap.size u):=qj (qm w7 (.cells (ntC u).toArray 31))
    have HF8:=qj (HF7.out.trans FA);have HZ8:=qj (FA.keep HZ7.out (by simp))
    clear FA HF7 HZ7
    go_upto_region 15 with fail
    change Code.wp _ _ _ _ (World.alloc w7 (.cells (ntC u).toArray 31))
    generalize World.alloc w7 (.cells (ntC u).toArray 31)=w8 at *
    generalize w7.heap.size=U at *
    have y0:=HU.out.cells 0 _ rfl;have y1:=HU.out.cells 1 _ rfl;have y2:=HU.out.cells 2 _ rfl;have y3:=HU.out.cells 3 _ rfl;have y4:=HU.out.cells 4 _ rfl;have y5:=HU.out.cells 5 _ rfl;have y6:=HU.out.cells 6 _ rfl;have y7:=HU.out.cells 7 _ rfl;have y8:=HU.out.cells 8 _ rfl;have y9:=HU.out.cells 9 _ rfl;have y10:=HU.out.cells 10 _ rfl;have y11:=HU.out.cells 11 _ rfl;have y12:=HU.out.cells 12 _ rfl;have y13:=HU.out.cells 13 _ rfl;have y14:=HU.out.cells 14 _ rfl
    go_wp2_with fail
    refine (CAText_c u _).mono ?_
    rintro e w9 ⟨rfl,f9⟩
    rw [HUT.out]
    have HU9:Hid (NtAt w9 U u):=qj (f9.keep HU.out (by simp));have HF9:=qj (HF8.out.trans f9);have HZ9:=qj (f9.keep HZ8.out (by simp))
    clear f9 HU HF8 HZ8 HUT y0 y1 y2 y3 y4 y5 y6 y7 y8 y9 y10 y11 y12 y13 y14
    go_upto_region 16 with fail
    refine reg_mix (Fr [] w9) [0,1,2,3,4,5,6,7,8,9,10,11,12,13] (by kernel_rfl) (by kernel_rfl) (by kernel_rfl) rfl (Fr.drew _ _) ?_
    have FC:Fr [] w9 w9.drew:=Fr.drew _ _
    generalize w9.drew=WC at FC ⊢
    iterate 3 (refine mix_take1 (v:=?_) rfl rfl rfl rfl (fun w hS=>?_) ?_;rotate_left;(focus (clear hS;go_simp;rfl));simp only [qu,qv,qx])
    iterate 3 (refine mix_takeg (v:=?_) rfl rfl rfl rfl rfl rfl (fun w hS=>?_) ?_;rotate_left;(focus (clear hS;go_simp;rfl));simp only [qu,qv,qx])
    iterate 2 (refine mix_take1 (v:=?_) rfl rfl rfl rfl (fun w hS=>?_) ?_;rotate_left;(focus (clear hS;go_simp;rfl));simp only [qu,qv,qx])
    iterate 3 (refine mix_takeg (v:=?_) rfl rfl rfl rfl rfl rfl (fun w hS=>?_) ?_;rotate_left;(focus (have y0:=(show NtAt w U u from hS.keep HU9.out (by simp)).cells 0 _ rfl;rw [HUS.out] at y0;clear hS;go_simp;rfl));simp only [qu,qv,qx])
    refine mix_dog rfl rfl rfl rfl rfl (fun K hK=>?_)
    go_simp
    refine (w43Pick_c _ _ _ hoth (by decide)).mono ?_
    rintro e wp ⟨rfl,hw⟩
    rw [hw]
    clear hw wp
    refine hK _ _ FC ?_
    clear hK K
    try simp only [Act.put,qu,qv,qx]
    iterate 1 (refine mix_takeg (v:=?_) rfl rfl rfl rfl rfl rfl (fun w hS=>?_) ?_;rotate_left;(focus (clear hS;go_simp;rfl));simp only [qu,qv,qx])
    iterate 1 (refine mix_take1 (v:=?_) rfl rfl rfl rfl (fun w hS=>?_) ?_;rotate_left;(focus (clear hS;go_simp;rfl));simp only [qu,qv,qx])
    refine mix_end ?_
    have HFC:=qj (HF9.out.trans FC);have HZC:=qj (FC.keep HZ9.out (by simp))
    clear FC HF9 HZ9 HU9 HUS
    go_wp2_with fail
    go_roundw
    case rel=>exact ⟨i+1,by go_num,by omega,HZC,HFC⟩
    case measure=>simp [RowKit.intOf];omega
   ·rw [hu]
    clear hu
    have FA:=Fr.alloc [] w7 (.cells (ntC nt0).toArray 31)
    have HU:Hid (NtAt _ w7.heap.size nt0):=qj (qm w7 (.cells (ntC nt0).toArray 31))
    have HF8:=qj (HF7.out.trans FA);have HZ8:=qj (FA.keep HZ7.out (by simp))
    clear FA HF7 HZ7
    have hne:(z.toList == st.toList)=false:=by rw [strs_beq];exact decide_eq_false hne
    go_upto_region 18 with fail
    change Code.wp _ _ _ _ (World.alloc w7 (.cells (ntC nt0).toArray 31))
    generalize World.alloc w7 (.cells (ntC nt0).toArray 31)=w8 at *
    generalize w7.heap.size=U at *
    have y0:w8.cell? ⟨U,0,none⟩=some (.int .i64 0):=HU.out.cells 0 _ rfl;have y1:w8.cell? ⟨U,1,none⟩=some (.int .i64 0):=HU.out.cells 1 _ rfl;have y2:w8.cell? ⟨U,2,none⟩=some (.int .i64 0):=HU.out.cells 2 _ rfl;have y3:w8.cell? ⟨U,3,none⟩=some (.int .i64 0):=HU.out.cells 3 _ rfl;have y4:w8.cell? ⟨U,4,none⟩=some (.int .i64 0):=HU.out.cells 4 _ rfl;have y5:w8.cell? ⟨U,5,none⟩=some (.int .i64 0):=HU.out.cells 5 _ rfl;have y6:w8.cell? ⟨U,6,none⟩=some (.int .i64 0):=HU.out.cells 6 _ rfl;have y7:w8.cell? ⟨U,7,none⟩=some (.int .i64 0):=HU.out.cells 7 _ rfl;have y8:w8.cell? ⟨U,8,none⟩=some (.int .i64 0):=HU.out.cells 8 _ rfl;have y9:w8.cell? ⟨U,9,none⟩=some (.int .i64 0):=HU.out.cells 9 _ rfl;have y10:w8.cell? ⟨U,10,none⟩=some (.int .i64 0):=HU.out.cells 10 _ rfl;have y11:w8.cell? ⟨U,11,none⟩=some (.bool false):=HU.out.cells 11 _ rfl;have y12:w8.cell? ⟨U,12,none⟩=some (.int .i64 0):=HU.out.cells 12 _ rfl;have y13:w8.cell? ⟨U,13,none⟩=some (.int .i64 0):=HU.out.cells 13 _ rfl;have y14:w8.cell? ⟨U,14,none⟩=some (.int .i64 0):=HU.out.cells 14 _ rfl
    go_wp2_with fail
    go_roundw
    case rel=>exact ⟨i+1,by go_num,by omega,HZ8,HF8⟩
    case measure=>simp [RowKit.intOf];omega
  ·obtain rfl:i=4:=by omega
   go_wp2_with fail
   go_ret
   exact ⟨rfl,HF.out⟩
set_option maxRecDepth 100000 in
theorem walk_CarrierReads {H:Type} {enc:TypeId × Value→H} {base:Nat} (W:World) {v0 v1 v2 v3 v4:Value} {d0 d1 d2 d3 d4:DataW H} {p0 p1 p2 p3 p4:List MemPlace} (a:Addr) (hR:RndAt W) (hD:DmgAt W a) (k0:Value.okWide Tryz.prog W .any base 3 v0) (h0:DataW.Trod enc Tryz.prog W 0 (fun _=>true) true 3 v0 d0 p0) (k1:Value.okWide Tryz.prog W .any base 22 v1) (h1:DataW.Trod enc Tryz.prog W 0 (fun _=>true) true 22 v1 d1 p1) (k2:Value.okWide Tryz.prog W .any base 3 v2) (h2:DataW.Trod enc Tryz.prog W 0 (fun _=>true) true 3 v2 d2 p2) (k3:Value.okWide Tryz.prog W .any base 5 v3) (h3:DataW.Trod enc Tryz.prog W 0 (fun _=>true) true 5 v3 d3 p3) (k4:Value.okWide Tryz.prog W .any base 3 v4) (h4:DataW.Trod enc Tryz.prog W 0 (fun _=>true) true 3 v4 d4 p4) :
  Calls Tryz.prog 3 #[v0,v1,v2,v3,v4] W fun e W'=>e=.returned (.bool true)∧Below W.heap.size W W':=by
 obtain ⟨s,rfl,hs⟩:=open_i64 Tryz.underlying3 k0 h0
 obtain ⟨a0,a1,a2,a3,a4,a5,rfl,g0,g1,g2,g3,g4,g5⟩:=open_i6 k1 h1
 obtain ⟨at_,rfl,ht⟩:=open_i64 Tryz.underlying3 k2 h2
 obtain ⟨c,rfl⟩:=open_u8 Tryz.underlying5 k3 h3
 obtain ⟨o,rfl,ho⟩:=open_i64 Tryz.underlying3 k4 h4
 exact (reads_c s a0 a1 a2 a3 a4 a5 at_ o c W a hD hR hs g0 g1 g2 g3 g4 g5 ht ho).mono fun _ _ ⟨he,hf⟩=>⟨he,hf.below⟩
end Go.Proofs.YtledkokhghjfmaaGreatDoor
