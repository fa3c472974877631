/-
  carrier: In, of a packet that is taken.
-/
import Derived.Test.YtledkokhghjfmaaGreatDoorPS23
import Derived.Test.YtledkokhghjfmaaGreatDoorPS02
namespace Go.Proofs.YtledkokhghjfmaaGreatDoor
section
open Go.RowKit Go.Lib
def pkT (src:Int) (p:Pk):ByteArray:=str (putA [src,p.ser,p.ack]++putS p.body++bts p.sl)
theorem gen_b {key:ByteArray} {p:Pk} (h:genP key p=true):(0≤p.ser∧p.ser≤100)∧(0≤p.ack∧p.ack≤100)∧p.body.size≤200∧p.sl.size=32:=by
 unfold genP keyB at h
 simp only [Bool.and_eq_true,decide_eq_true_eq,inB_iff] at h
 obtain ⟨⟨⟨⟨⟨⟨_,h2⟩,h3⟩,h4⟩,h5⟩,_⟩,_⟩:=h
 exact ⟨h3,h4,h5,h2⟩
set_option maxRecDepth 100000 in
set_option maxHeartbeats 8000000 in
theorem CAIn_c {w:World} {s:Su} {x:CaR} {J:JR} (h:CjIn w s x J) {A B:List EnR} {r:EnR} (hL:x.L=A++r :: B) (hg:getA (epV x.L) r.p=some (.pointer (some ⟨r.eb,0,none⟩))) (p:Pk) (hb:x.br=false) (f:Nat) (hrp:r.p=(f:Int)) (hfl:f < s.keys.length) (hso:0≤s.own∧s.own≤1000) (hfb:f≤1000)
  (hkz:(s.keys.getD f ByteArray.empty).size≤1000000) (ho:r.E.oth=keyM s.keys f s.own) (hp:okP r.E p=true) (hrc:r.E.recv≤1000) (hac:r.E.acked≤1000) (hsl:r.E.sent.length≤1000) (hel:r.E.early.length≤1000)
  (hlb:∀ s,s∈inL r.E p→s.size≤1000000) (hll:(inL r.E p).length≤1000000)
  (hh:J.t.head.size=32) (hts:J.t.size≤J.D.dur.length) (hrl:J.t.recs.length≤10000000) (hN:(encAll J.t.head [recB 2 (pkT r.p p)]).length≤1000000000) (hR:RndAt w) (hR2:1∉cjB x J) (hpd:J.D.pend.length≤4000000000) :
  Calls Tryz.prog 14 #[.pointer (some ⟨x.cb,0,none⟩),.int .i64 r.p,pkV p] w fun e w'=>e=.returned (if (J.D.apps J.t J.br [recB 2 (pkT r.p p)]).1=0 then .tuple #[.int .i64 ((inL r.E p).length:Nat),.int .i64 0] else .tuple #[.int .i64 0,.int .i64 (J.D.apps J.t J.br [recB 2 (pkT r.p p)]).1])∧∃ vr' fp' x',CjIn w' s x' (wrJ J vr' fp' (J.D.apps J.t J.br [recB 2 (pkT r.p p)])) ∧
   Upd (cjB x J) (cjB x' (wrJ J vr' fp' (J.D.apps J.t J.br [recB 2 (pkT r.p p)]))) w w'∧x'=if (J.D.apps J.t J.br [recB 2 (pkT r.p p)]).1=0 then takeR { x with br:=false } A B r p else { x with br:=true }:=by
 have hr:r∈x.L:=by rw [hL];simp
 have hgen:genP (keyM s.keys f s.own) p=true:=by
  unfold okP at hp
  rw [Bool.and_eq_true,ho] at hp
  exact hp.1
 have hpa:p.ack≤r.E.sent.length:=by
  unfold okP at hp
  rw [Bool.and_eq_true] at hp
  exact of_decide_eq_true hp.2
 obtain ⟨hb1,hb2,hb3,hb4⟩:=gen_b hgen
 have B1:=qm w (.cells #[.int .i64 p.ser,.int .i64 p.ack,.string p.body,.string p.sl] 60)
 have F1:=Fr.alloc [] w (.cells #[.int .i64 p.ser,.int .i64 p.ack,.string p.body,.string p.sl] 60)
 have CK:=qj fun (W:World) (hf:Fr [] w W)=>caKey_c s x.bv x.kv f s.own W ((h.ca.same hf).su) hfl hso hkz (hR.same hf (by simp))
 have CG:=qj fun (W:World) (hf:Fr [] w W)=>genuine_c (keyM s.keys f s.own) p W (hR.same hf (by simp))
 rw [hgen] at CG
 have CS:=qj fun (W:World) (hf:Fr [] w W)=>lkSent_c ((h.ca.same hf).ens.all r hr)
 have CP:=qj fun (W:World)=>putStr_c p.body (by omega) W
 have hnm:∀ z,z∈([r.p,p.ser,p.ack]:List Int)→-1≤z∧z≤4611686018427387903:=by
  intro z hz
  simp only [List.mem_cons,List.not_mem_nil,or_false] at hz
  omega
 have CX:=qj fun (W:World) (b:Nat) (hb:W.heap[b]?=some (.cells #[.int .i64 r.p,.int .i64 p.ser,.int .i64 p.ack] 3 (0,0)))=>caText_c (.slice (some ⟨b,0,none⟩) 3 3) [r.p,p.ser,p.ack] W (sl_blk (cs:=([r.p,p.ser,p.ack]:List Int).map (Value.int .i64)) hb rfl (by omega)) hnm (by simp)
 have hz1:=putA_len [r.p,p.ser,p.ack] hnm
 have hz2:(putS p.body).length≤300:=by
  unfold putS
  rw [List.length_append,bts_len]
  have:=encZ_len (2*p.body.size)
  omega
 simp only [List.length_cons,List.length_nil] at hz1
 have hvz:(pkT r.p p).size≤1000000:=by
  unfold pkT
  rw [str_size]
  simp only [List.length_append,bts_len]
  omega
 have CW:=qj fun (W:World) (hf:Fr [] w W)=>caWrite_c (h.same hf) 2 (pkT r.p p) hvz hh hts hrl hN (hR.same hf (by simp)) hpd
 have CT:=qj fun (W:World) (x':CaR) (hc:CaIn W s x') (hL':x'.L=A++r :: B) (hg':getA (epV x'.L) r.p=some (.pointer (some ⟨r.eb,0,none⟩))) (hR':RndAt W)=>caTake_c hc hL' hg' p hR' hp hrc hac hsl hel hlb hll
 have hcat:str (putA [r.p,p.ser,p.ack])++str (putS p.body)++p.sl=pkT r.p p:=by
  unfold pkT
  apply ByteArray.ext
  simp [str,bts]
 have HCAT:=qj hcat
 have HRN:=qj hR
 have HR2:=qj hR2
 have HCJ:=qj h
 have HLT:=qj fun k (hk:k∈cjB x J)=>h.lt hk
 have HGE:=qj hg;have HHL:=qj hL
 have HX1:=qj (h.ca.same F1)
 have HP1:=qj B1
 have HF1:=qj F1
 obtain ⟨cb,jb,nb,mb,bv,kv,L,ns,ad,br⟩:=x
 obtain ⟨ow,bl,ra,rc,rs,rr,kl⟩:=s
 simp only at hb
 subst hb
 have hpb:w.heap.size∉cjB ⟨cb,jb,nb,mb,bv,kv,L,ns,ad,false⟩ J:=fun hm=>absurd (HLT.out _ hm) (Nat.lt_irrefl _)
 have HPB:=qj hpb
 generalize J.D.apps J.t J.br [recB 2 (pkT r.p p)]=O at *
 have HVZ:=qj hvz
 have hsz1:(str (putA [r.p,p.ser,p.ack])).size≤27:=by rw [str_size];exact hz1
 have hsz2:(str (putS p.body)).size≤300:=by rw [str_size];exact hz2
 simp only at HX1 CS CK CG
 generalize hkey:keyM kl f ow=key at *
 clear hkey
 generalize str (putA [r.p,p.ser,p.ack])=t1 at *
 generalize str (putS p.body)=t2 at *
 generalize pkT r.p p=tt at *
 rw [hrp] at *
 have hsn:¬ (p.ack > (r.E.sent.length:Int)):=by omega
 have HPA:=qj hpa
 generalize r.E.sent.length=sn at *
 clear h hL hg hfl hkz ho hp hrc hac hel hlb hll hh hts hrl hN hR hR2 hpd hr hgen hnm hz1 hz2 hvz hcat F1 B1 hpb hb1 hb2 hpa hsl
 go_enter Tryz.func14,Tryz.ntmps14
 go_wp2_with fail
 generalize hW:w.alloc (.cells #[.int .i64 p.ser,.int .i64 p.ack,.string p.body,.string p.sl] 60)=W at *
 clear hW
 generalize hpbk:w.heap.size=pb at *
 have HPK:=qj hpbk
 clear hpbk
 refine reg_mix (Fr [] W) [0,1,2,3,4,5,6,7,8,9,10,11,12,13,14,15,16,17,18,19,20,21,22,23,25,24,26,27,28,29,30,31,32,33,34,35,36,37,38,39,40] (by kernel_rfl) (by kernel_rfl) (by kernel_rfl) rfl (Fr.drew _ _) ?_
 have FC:Fr [] W (World.drew W):=Fr.drew _ _
 generalize World.drew W=WC at FC ⊢
 iterate 5 (refine mix_take1 (v:=?_) rfl rfl rfl rfl (fun w hS=>?_) ?_;rotate_left;(focus (have XE:=hS.keep HX1.out.blk (by simp);have x1:=qd XE 1;have x2:=qd XE 2;have x3:=qd XE 3;have x4:=qd XE 4;have x5:=qd XE 5;have x6:=qd XE 6;have x7:=qd XE 7;have x9:=qd XE 9;have x11:=qd XE 11;have PE:=hS.keep HP1.out (by simp);have p0:=qd PE 0;have p1:=qd PE 1;have p2:=qd PE 2;have p3:=qd PE 3;clear XE PE;clear hS;go_simp;rfl));simp only [qu,qv,qx])
 iterate 5 (refine mix_takeg (v:=?_) rfl rfl rfl rfl rfl rfl (fun w hS=>?_) ?_;rotate_left;(focus (have XE:=hS.keep HX1.out.blk (by simp);have x1:=qd XE 1;have x2:=qd XE 2;have x3:=qd XE 3;have x4:=qd XE 4;have x5:=qd XE 5;have x6:=qd XE 6;have x7:=qd XE 7;have x9:=qd XE 9;have x11:=qd XE 11;have PE:=hS.keep HP1.out (by simp);have p0:=qd PE 0;have p1:=qd PE 1;have p2:=qd PE 2;have p3:=qd PE 3;clear XE PE;clear hS;go_simp;rfl));simp only [qu,qv,qx])
 have HXCa:=qj (HX1.out.same FC)
 refine mix_dog rfl rfl rfl rfl rfl (fun K hK=>?_)
 refine wp_look 104 109 (.tmp 23) (.tmp 24) false (f:Int) rfl rfl rfl HXCa.out.ends (keyI Tryz.underlying3) Tryz.underlying104 (zeroEnd _) rfl ?_
 rw [if_neg (by simp),HGE.out,Option.getD_some]
 refine hK _ _ FC ?_
 clear hK K HXCa
 try simp only [qu,qv,qx]
 (refine mix_takeg (v:=?_) rfl rfl rfl rfl rfl rfl (fun w hS=>?_) ?_;rotate_left;(focus (clear hS;go_simp;rfl));simp only [qu,qv,qx])
 iterate 2 (refine mix_take1 (v:=?_) rfl rfl rfl rfl (fun w hS=>?_) ?_;rotate_left;(focus (clear hS;go_simp;rfl));simp only [qu,qv,qx])
 iterate 10 (refine mix_takeg (v:=?_) rfl rfl rfl rfl rfl rfl (fun w hS=>?_) ?_;rotate_left;(focus (have XE:=hS.keep HX1.out.blk (by simp);have x1:=qd XE 1;have x2:=qd XE 2;have x3:=qd XE 3;have x4:=qd XE 4;have x5:=qd XE 5;have x6:=qd XE 6;have x7:=qd XE 7;have x9:=qd XE 9;have x11:=qd XE 11;have PE:=hS.keep HP1.out (by simp);have p0:=qd PE 0;have p1:=qd PE 1;have p2:=qd PE 2;have p3:=qd PE 3;clear XE PE;clear hS;go_simp;rfl));simp only [qu,qv,qx])
 (refine mix_takeg (v:=?_) rfl rfl rfl rfl rfl rfl (fun w hS=>?_) ?_;rotate_left;(focus (have XE:=hS.keep HX1.out.blk (by simp);have x1:=qd XE 1;have x2:=qd XE 2;have x3:=qd XE 3;have x4:=qd XE 4;have x5:=qd XE 5;have x6:=qd XE 6;have x7:=qd XE 7;have x9:=qd XE 9;have x11:=qd XE 11;have PE:=hS.keep HP1.out (by simp);have p0:=qd PE 0;have p1:=qd PE 1;have p2:=qd PE 2;have p3:=qd PE 3;clear XE PE;clear hS;go_simp;rfl));simp only [qu,qv,qx])
 refine mix_dog rfl rfl rfl rfl rfl (fun K hK=>?_)
 go_simp
 refine (CK.out _ (HF1.out.trans FC)).mono ?_
 rintro e wq ⟨rfl,fq⟩
 have FC:=FC.trans fq
 refine hK _ _ FC ?_
 clear hK K fq
 try simp only [Act.put,qu,qv,qx]
 refine mix_dog rfl rfl rfl rfl rfl (fun K hK=>?_)
 go_simp
 refine (CG.out _ (HF1.out.trans FC)).mono ?_
 rintro e wr ⟨rfl,fq⟩
 have FC:=FC.trans fq
 refine hK _ _ FC ?_
 clear hK K fq
 try simp only [Act.put,qu,qv,qx]
 (refine mix_takeg (v:=?_) rfl rfl rfl rfl rfl rfl (fun w hS=>?_) ?_;rotate_left;(focus (clear hS;go_simp;rfl));simp only [qu,qv,qx])
 iterate 2 (refine mix_take1 (v:=?_) rfl rfl rfl rfl (fun w hS=>?_) ?_;rotate_left;(focus (clear hS;go_simp;rfl));simp only [qu,qv,qx])
 iterate 7 (refine mix_takeg (v:=?_) rfl rfl rfl rfl rfl rfl (fun w hS=>?_) ?_;rotate_left;(focus (have XE:=hS.keep HX1.out.blk (by simp);have x1:=qd XE 1;have x2:=qd XE 2;have x3:=qd XE 3;have x4:=qd XE 4;have x5:=qd XE 5;have x6:=qd XE 6;have x7:=qd XE 7;have x9:=qd XE 9;have x11:=qd XE 11;have PE:=hS.keep HP1.out (by simp);have p0:=qd PE 0;have p1:=qd PE 1;have p2:=qd PE 2;have p3:=qd PE 3;clear XE PE;clear hS;go_simp;rfl));simp only [qu,qv,qx])
 have HXCb:=qj (HX1.out.same FC)
 refine mix_dog rfl rfl rfl rfl rfl (fun K hK=>?_)
 refine wp_look 104 109 (.tmp 50) (.tmp 51) false (f:Int) rfl rfl rfl HXCb.out.ends (keyI Tryz.underlying3) Tryz.underlying104 (zeroEnd _) rfl ?_
 rw [if_neg (by simp),HGE.out,Option.getD_some]
 refine hK _ _ FC ?_
 clear hK K HXCb
 try simp only [qu,qv,qx]
 refine mix_dog rfl rfl rfl rfl rfl (fun K hK=>?_)
 go_simp
 refine (CS.out _ (HF1.out.trans FC)).mono ?_
 rintro e ws ⟨rfl,rfl⟩
 have fq:=Fr.refl [] wr
 have FC:=FC.trans fq
 refine hK _ _ FC ?_
 clear hK K fq
 try simp only [Act.put,qu,qv,qx]
 (refine mix_takeg (v:=?_) rfl rfl rfl rfl rfl rfl (fun w hS=>?_) ?_;rotate_left;(focus (clear hS;go_simp;rfl));simp only [qu,qv,qx])
 (refine mix_take1 (v:=?_) rfl rfl rfl rfl (fun w hS=>?_) ?_;rotate_left;(focus (clear hS;go_simp;rfl));simp only [qu,qv,qx])
 refine mix_end ?_
 have HPE:=qj (FC.keep HP1.out (by simp))
 have p2:=qd HPE.out 2
 have HFA:=qj (HF1.out.trans FC)
 clear FC CK CG CS HX1 HP1 HF1
 go_wp2_with fail
 refine (CP.out _).mono ?_
 rintro e w5 ⟨rfl,f5⟩
 have HFB:=qj (HFA.out.trans f5)
 have HPF:=qj (f5.keep HPE.out (by simp))
 clear f5 HFA HPE CP p2
 go_upto_region 6 with fail
 refine reg_mix (fun W'=>W'.heap[pb]?=some (.cells #[.int .i64 p.ser,.int .i64 p.ack,.string p.body,.string p.sl] 60 (0,0))) [0,1,2,3,4,5,8,10,11,6,7,9,12,13,14] (by kernel_rfl) (by kernel_rfl) (by kernel_rfl) rfl ((Fr.drew [] w5).keep HPF.out (by simp)) ?_
 have FC:Fr [] w5 (World.drew w5):=Fr.drew _ _
 generalize World.drew w5=WC at FC ⊢
 iterate 9 (refine mix_take1 (v:=?_) rfl rfl rfl rfl (fun w hS=>?_) ?_;rotate_left;(focus (have p0:=qd hS 0;have p1:=qd hS 1;have p3:=qd hS 3;clear hS;go_simp;rfl));simp only [qu,qv,qx])
 refine mix_do rfl rfl rfl (fun K hK=>?_)
 go_simp
 have FA:=Fr.alloc [] WC (.cells #[.int .i64 (f:Int),.int .i64 p.ser,.int .i64 p.ack] 3)
 have BA:=qj (qm WC (.cells #[.int .i64 (f:Int),.int .i64 p.ser,.int .i64 p.ack] 3))
 have CX2:=qj (CX.out _ _ BA.out)
 have FC:=FC.trans FA
 refine hK _ _ (FC.keep HPF.out (by simp)) ?_
 clear hK K FA BA CX
 try simp only [Act.put,qu,qv,qx]
 generalize WC.alloc (.cells #[.int .i64 (f:Int),.int .i64 p.ser,.int .i64 p.ack] 3)=WD at *
 refine mix_do rfl rfl rfl (fun K hK=>?_)
 go_simp
 refine CX2.out.mono ?_
 rintro e wq ⟨rfl,fq⟩
 have FC:=FC.trans fq
 refine hK _ _ (FC.keep HPF.out (by simp)) ?_
 clear hK K fq CX2
 try simp only [Act.put,qu,qv,qx]
 (refine mix_take1 (v:=?_) rfl rfl rfl rfl (fun w hS=>?_) ?_;rotate_left;(focus (clear hS;go_simp;rw [if_neg (by omega)]));simp only [qu,qv,qx])
 (refine mix_take1 (v:=?_) rfl rfl rfl rfl (fun w hS=>?_) ?_;rotate_left;(focus (clear hS;go_simp;rw [if_neg (by omega),HCAT.out]));simp only [qu,qv,qx])
 have CW2:=qj (CW.out _ (HFB.out.trans FC))
 refine mix_do rfl rfl rfl (fun K hK=>?_)
 go_simp
 refine CW2.out.mono ?_
 rintro e w8 ⟨rfl,vr',fp',h8,hU8⟩
 have hpk:w8.heap[pb]?=some (.cells #[.int .i64 p.ser,.int .i64 p.ack,.string p.body,.string p.sl] 60 (0,0)):=hU8.fr.keep (FC.keep HPF.out (by simp)) HPB.out
 refine hK _ _ hpk ?_
 have HPG:=qj hpk
 have HX8:=qj h8
 have hRn:RndAt w8:=(HRN.out.same (HFB.out.trans FC) (by simp)).same hU8.fr HR2.out
 have HRN8:=qj hRn
 have HU8:=qj (Upd.trans (f1:=cjB ⟨cb,jb,nb,mb,bv,kv,L,ns,ad,false⟩ J) ⟨(HFB.out.trans FC).mono (by simp),fun _ h=>.inl h⟩ hU8)
 clear hK K hpk h8 hU8 hRn CW CW2 FC HFB HPF HRN
 try simp only [Act.put,qu,qv,qx]
 (refine mix_take1 (v:=?_) rfl rfl rfl rfl (fun w hS=>?_) ?_;rotate_left;(focus (clear hS;go_simp;rfl));simp only [qu,qv,qx])
 refine mix_end ?_
 obtain ⟨o1,o2⟩:=O
 simp only at HX8 HU8 ⊢
 by_cases ho:o1=0
 ·subst ho
  have hbr:(!decide ((0:Int)=0))=false:=rfl
  rw [hbr] at HX8 HU8
  have CT2:=qj (CT.out w8 ⟨cb,jb,nb,mb,bv,kv,L,ns,ad,false⟩ HX8.out.ca HHL.out HGE.out HRN8.out)
  clear CT hbr
  have p0:=qd HPG.out 0;have p1:=qd HPG.out 1;have p2:=qd HPG.out 2;have p3:=qd HPG.out 3
  go_wp2_with fail
  refine CT2.out.mono ?_
  rintro e w9 ⟨rfl,h9,hU9⟩
  obtain ⟨h10,hU10⟩:=HX8.out.step h9 hU9 rfl ⟨rfl,rfl⟩
  have HX10:=qj h10
  have HU10:=qj (HU8.out.trans hU10)
  clear h9 hU9 h10 hU10 HX8 HU8 CT2
  go_wp2_with fail
  go_ret2
  exact ⟨rfl,vr',fp',HX10.out,HU10.out⟩
 ·have hbr:(!decide (o1=0))=true:=by simp [ho]
  rw [hbr] at HX8 HU8
  clear CT hbr
  go_wp2_with fail
  go_ret2
  exact ⟨rfl,vr',fp',HX8.out,HU8.out⟩
end
section
open Go.RowKit Go.Lib
structure Cp where
 nts:List (Nt × Bool)
 added:Nat
 ends:List (Int × En)
def CaR.cp (x:CaR):Cp:=⟨x.nts,x.added,x.L.map fun r=>(r.p,r.E)⟩
def Cp.add (c:Cp) (t:Nt):Cp:=⟨setA c.nts t true,c.added+1,mapV (fun E=>sendE E (str (txtN t))) c.ends⟩
def Cp.take (c:Cp) (i:Int) (E:En) (p:Pk):Cp:=⟨tkN i (inL E p) c.nts,c.added,setA c.ends i (inE E p)⟩
theorem addR_cp (x:CaR) (t:Nt) (q:Int→Value):(addR x t q).cp=x.cp.add t:=by
 simp [CaR.cp,addR,Cp.add,sentL,mapV]
theorem takeR_cp {x:CaR} {A B:List EnR} {r:EnR} (hL:x.L=A++r :: B) (hn:(x.L.map (·.p)).Nodup) (p:Pk):(takeR x A B r p).cp=x.cp.take r.p r.E p:=by
 rw [hL] at hn
 have h1:((x.L.map fun r=>(r.p,r.E)).map Prod.fst).Nodup:=by rw [List.map_map,hL];exact hn
 unfold CaR.cp takeR Cp.take
 simp only [Cp.mk.injEq,true_and]
 rw [setA_at h1 (u:=r.E) (j:=A.length) (by rw [hL];simp),hL]
 simp
theorem cp_get {L:List EnR} {i:Int} {E:En} (h:getA (L.map fun r=>(r.p,r.E)) i=some E):∃ A r B,L=A++r :: B∧r.p=i∧r.E=E∧getA (epV L) i=some (.pointer (some ⟨r.eb,0,none⟩)):=by
 induction L with
 | nil=>simp [getA] at h
 | cons r L ih =>
  simp only [List.map_cons,getA] at h
  by_cases hp:r.p=i
  ·rw [if_pos hp] at h
   exact ⟨[],r,L,rfl,hp,Option.some.inj h,by simp [epV,getA,hp]⟩
  ·rw [if_neg hp] at h
   obtain ⟨A,s,B,h1,h2,h3,h4⟩:=ih h
   exact ⟨r :: A,s,B,by rw [h1];rfl,h2,h3,by simpa [epV,getA,hp] using h4⟩
inductive RepOk (own:Int):Cp→List ByteArray→Cp→Prop
 | nil (c:Cp):RepOk own c [] c
 | own {c c':Cp} (f:Nt) (l:List ByteArray) (h1:fmN f=true) (h2:f.src=own) (h3:c.added < 40) (h4:∀ e,e∈c.ends→e.2.sent.length < 100) (h:RepOk own (c.add f) l c'):RepOk own c (recB 1 (str (txtN f)) :: l) c'
 | pkt {c c':Cp} (i:Int) (E:En) (p:Pk) (l:List ByteArray) (h1:getA c.ends i=some E) (h2:okP E p=true) (h3:0≤i∧i≤1000) (h4:E.recv≤1000) (h5:E.acked≤1000) (h6:E.sent.length≤1000) (h7:E.early.length≤1000)
   (h8:∀ s,s∈inL E p→s.size≤1000000) (h9:(inL E p).length≤1000000) (h:RepOk own (c.take i E p) l c'):RepOk own c (recB 2 (pkT i p) :: l) c'
theorem okP_b {E:En} {p:Pk} (h:okP E p=true):(0≤p.ser∧p.ser≤100)∧(0≤p.ack∧p.ack≤100)∧p.body.size≤200∧p.sl.size=32:=by
 unfold okP at h
 rw [Bool.and_eq_true] at h
 exact gen_b h.1
theorem rec_bts (k:UInt8) (v:ByteArray):bts (recB k v)=k :: bts v:=rfl
theorem pkT_bts (i:Int) (p:Pk):bts (recB 2 (pkT i p))=2 :: (putA [i,p.ser,p.ack]++putS p.body++bts p.sl):=rfl
theorem okI_of {n:Int} (h:0≤n∧n≤1000):okI n:=by unfold okI;omega
theorem pk_nums {i:Int} {p:Pk} (hi:0≤i∧i≤1000) (hs:0≤p.ser∧p.ser≤100) (ha:0≤p.ack∧p.ack≤100):getN (bts (recB 2 (pkT i p))) 3 1=some ([i,p.ser,p.ack],1+(putA [i,p.ser,p.ack]).length):=by
 rw [pkT_bts]
 exact getN_put [i,p.ser,p.ack] _ 1 (putS p.body++bts p.sl) (by simp [List.append_assoc]) (by
  intro n hn
  simp only [List.mem_cons,List.not_mem_nil,or_false] at hn
  exact okI_of (by omega))
theorem pk_body {i:Int} {p:Pk} (hb:p.body.size≤200):getS (bts (recB 2 (pkT i p))) (1+(putA [i,p.ser,p.ack]).length)=some (bts p.body,1+(putA [i,p.ser,p.ack]).length+(putS p.body).length):=by
 rw [pkT_bts]
 have:=getS_put (2 :: putA [i,p.ser,p.ack]) (bts p.sl) p.body (by omega)
 simp only [List.length_cons,List.cons_append] at this
 rw [show 1+(putA [i,p.ser,p.ack]).length=(putA [i,p.ser,p.ack]).length+1 from by omega]
 simpa [List.append_assoc] using this
theorem pk_seal {i:Int} {p:Pk}:(bts (recB 2 (pkT i p))).drop (1+(putA [i,p.ser,p.ack]).length+(putS p.body).length)=bts p.sl:=by
 rw [pkT_bts,show 1+(putA [i,p.ser,p.ack]).length+(putS p.body).length=((putA [i,p.ser,p.ack]++putS p.body).length)+1 from by simp;omega,List.drop_succ_cons,List.drop_append_of_le_length (by simp)]
 simp
theorem rec_tail (k:UInt8) (v:ByteArray):(recB k v).extract 1 (recB k v).size=v:=by
 have hs:(recB k v).size=v.size+1:=by
  show (k :: bts v).length=_
  rw [List.length_cons,bts_len]
 rw [hs]
 apply ByteArray.ext
 rw [ByteArray.data_extract]
 apply Array.ext'
 rw [Array.toList_extract]
 show List.extract (k :: bts v) 1 (v.size+1)=v.data.toList
 simp [List.extract,bts]
 exact List.take_of_length_le (Nat.le_refl _)
theorem str_drop (s:ByteArray) (n:Nat) (_h:n≤s.size):s.extract n s.size=str ((bts s).drop n):=by
 apply ByteArray.ext
 rw [ByteArray.data_extract]
 apply Array.ext'
 rw [Array.toList_extract]
 show List.extract (bts s) n s.size=(bts s).drop n
 have:s.size=(bts s).length:=by rw [bts_len]
 rw [this]
 simp [List.extract]
 exact List.take_of_length_le (by simp)
theorem cell_load (w:World) (B:Nat) (n:Int) (hB:w.heap[B]?=some (.cells #[.int .i64 n] 34 (0,0))) (tmps:Array Value) (h2:tmps[2]?=some (.pointer (some ⟨B,0,none⟩))):(results Tryz.f51 tmps).run Tryz.prog w=.ok (.int .i64 n) w:=by
 have c0:=qd hB 0
 have r1:(loadVar 34 ⟨B,0,none⟩).run Tryz.prog w=.ok (.int .i64 n) w:=by
  go_simp
 unfold results
 rw [show Tryz.f51.results=#[Go.ResultVar.cell 2 34] from rfl]
 have e2:tmps[2]?.getD undef=.pointer (some ⟨B,0,none⟩):=by rw [h2];rfl
 simp [e2,asAddr,r1]
end
section
open Go.RowKit Go.Lib
abbrev rpDs (B:Nat):List Deferred:=[{ target:=.fn (.func 31) #[],args:=#[.pointer (some ⟨B,0,none⟩)] }]
theorem RndAt.lt {w:World} (h:RndAt w):1 < w.heap.size:=by
 obtain ⟨t,fz,h⟩:=h
 exact blk_lt h
theorem rp_ok {tmps:Array Value} {R:Ending→World→Prop} {w:World} (B:Nat) (hB:w.heap[B]?=some (.cells #[.int .i64 0] 34 (0,0))) (h2:tmps[2]?=some (.pointer (some ⟨B,0,none⟩)))
  (hR:R (.returned (.int .i64 0)) w):Leaves Tryz.prog Tryz.f51 tmps R (rpDs B) .returning w:=by
 refine leaves_cons (f:=31) (args:=#[.pointer (some ⟨B,0,none⟩)]) (by simp) (by simp [go_sem]) ?_
 refine (recd_idle ⟨B,0,none⟩ w).mono ?_
 rintro e u' w1 ⟨rfl,rfl,rfl⟩
 exact ⟨_,cell_load _ B 0 hB _ h2,hR⟩
theorem rp_next {w wr wA w':World} {x0 x1 x2:CaR} {eb:Nat} {o:Obj} {vs:Value} {n:Nat} {xs:List Value} (HV:wr.ownsRow 0 9 1 vs n xs) (HU:Upd (caB x0) (caB x1) w wr) (HE:wr.heap[eb]?=some o) (HRN:RndAt wr) (HR2:1∉caB x1)
  (HD:∀ k,k∈caB x1→k≠eb∧∀ g,vs.ownBlock=some g→k≠g) (fA:Fr [] wr wA) (hU:Upd (caB x1) (caB x2) wA w') :
  w'.ownsRow 0 9 1 vs n xs∧Upd (caB x0) (caB x2) w w'∧w'.heap[eb]?=some o∧RndAt w'∧1∉caB x2∧∀ k,k∈caB x2→k≠eb∧∀ g,vs.ownBlock=some g→k≠g:=by
 have hrl:=RndAt.lt HRN
 have hel:=blk_lt HE
 have hsz:=fA.size
 refine ⟨row_fr (row_fr HV fA (by simp)) hU.fr fun g hg hm=>(HD g hm).2 g hg rfl,(HU.trans (f3:=caB x1) ⟨fA.mono (by simp),fun _ h=>.inl h⟩).trans hU,hU.fr.keep (fA.keep HE (by simp)) fun hm=>(HD eb hm).1 rfl,(HRN.same fA (by simp)).same hU.fr HR2,fun hm=>?_,fun k hk=>?_⟩
 ·rcases hU.2 _ hm with h | h
  ·exact HR2 h
  ·omega
 ·rcases hU.2 k hk with h | h
  ·exact HD k h
  ·exact ⟨by omega,fun g hg e=>by have:=ownsRow_lt HV hg;omega⟩
set_option maxRecDepth 100000 in
set_option maxHeartbeats 8000000 in
theorem caReplay_c {w:World} {s:Su} {x:CaR} {J:JR} (h:CjIn w s x J) {c':Cp} (hrep:RepOk s.own x.cp J.t.recs c') (hR:RndAt w) (hR2:1∉caB x) (hlen:J.t.recs.length≤1000000) :
  Calls Tryz.prog 51 #[.pointer (some ⟨x.cb,0,none⟩)] w fun e w'=>e=.returned (.int .i64 0)∧∃ L1 n1 a1,CaIn w' s { x with L:=L1,nts:=n1,added:=a1 }∧CaR.cp { x with L:=L1,nts:=n1,added:=a1 }=c'∧Upd (caB x) (caB { x with L:=L1,nts:=n1,added:=a1 }) w w':=by
 have hmf:∀ (fn:Fn) (first cap:Array Value) (w:World),(Instr.makeFunc fn first cap).run Tryz.prog w=.ok (.func fn first cap) w:=fun _ _ _ _=>rfl
 have CR:=qj fun (W:World) (hf:Fr [] w W)=>records_c (h.jn.same hf) (by omega)
 have F1:=Fr.alloc [] w (.cells #[.int .i64 0] 34)
 have B1:=qm w (.cells #[.int .i64 0] 34)
 have HX:=qj (h.ca.same F1)
 have HLT:=qj fun k (hk:k∈caB x)=>h.ca.lt hk
 have HSU:=qj fun g (hg:x.bv.ownBlock=some g∨x.kv.ownBlock=some g)=>(h.ca.suA g hg).1
 have HF1:=qj F1
 have HB1:=qj B1
 have HRP:=qj hrep;have HRN:=qj (hR.same F1 (by simp));have HR2:=qj hR2
 have HRL:Hid (1 < w.heap.size):=qj (RndAt.lt hR)
 obtain ⟨cb,jb,nb,mb,bv,kv,L,ns,ad,br⟩:=x
 obtain ⟨ow,bl,ra,rc,rs,rr,kl⟩:=s
 have x0:(w.alloc (.cells #[.int .i64 0] 34)).cell? ⟨cb,0,none⟩=some (.pointer (some ⟨jb,0,none⟩)):=qd HX.out.blk 0
 simp only at HRP CR
 generalize J.t.recs=l at *
 clear h F1 B1 hrep hR hR2
 go_enter_defers Tryz.func51,Tryz.ntmps51
 go_wp2_with fail
 generalize w.alloc (.cells #[.int .i64 0] 34)=W at *
 refine (CR.out _ HF1.out).mono ?_
 rintro e w1 ⟨v,rfl,hrow,hyng,f1⟩
 obtain ⟨a,cap,rfl⟩:=(sl_of_row hrow).val
 have HX1:=qj (HX.out.same f1)
 have HB2:=qj (f1.keep HB1.out (by simp))
 have HV:=qj hrow
 have HRN1:=qj (HRN.out.same f1 (by simp))
 have HU1:Hid (Upd (caB ⟨cb,jb,nb,mb,bv,kv,L,ns,ad,br⟩) (caB ⟨cb,jb,nb,mb,bv,kv,L,ns,ad,br⟩) w w1):=qj ⟨(HF1.out.trans f1).mono (by simp),fun _ h=>.inl h⟩
 have HD1:Hid (∀ k,k∈caB ⟨cb,jb,nb,mb,bv,kv,L,ns,ad,br⟩→k≠w.heap.size∧∀ g,(Value.slice a l.length cap).ownBlock=some g→k≠g):=qj fun k hk=>⟨fun e=>by have:=HLT.out k hk;omega,fun g hg e=>by have:=HLT.out k hk;have:=hyng g hg;have:=HF1.out.size;omega⟩
 have HLW:Hid (w.heap.size≤w1.heap.size∧w.heap.size < w1.heap.size∧∀ g,(Value.slice a l.length cap).ownBlock=some g→g < w1.heap.size):=qj ⟨(HF1.out.trans f1).size,blk_lt HB2.out,fun g hg=>ownsRow_lt hrow hg⟩
 generalize hEB:w.heap.size=eb at *
 have HEB:=qj hEB
 clear hrow hyng f1 HX HB1 HRN CR x0 hEB
 go_wp2_with fail
 go_loopw [18] (fun iv wr=>∃ (i:Nat) (L1:List EnR) (n1:List (Nt × Bool)) (a1:Nat),iv=.int .i64 i∧i≤l.length∧Hid (wr.ownsRow 0 9 1 (.slice a l.length cap) l.length (l.map Value.string))∧Hid (RepOk ow (CaR.cp ⟨cb,jb,nb,mb,bv,kv,L1,n1,a1,br⟩) (l.drop i) c')∧Hid (CaIn wr ⟨ow,bl,ra,rc,rs,rr,kl⟩ ⟨cb,jb,nb,mb,bv,kv,L1,n1,a1,br⟩)∧Hid (Upd (caB ⟨cb,jb,nb,mb,bv,kv,L,ns,ad,br⟩) (caB ⟨cb,jb,nb,mb,bv,kv,L1,n1,a1,br⟩) w wr)∧Hid (wr.heap[eb]?=some (.cells #[.int .i64 0] 34 (0,0)))∧Hid (RndAt wr)∧Hid (1∉caB ⟨cb,jb,nb,mb,bv,kv,L1,n1,a1,br⟩)∧Hid (∀ k,k∈caB ⟨cb,jb,nb,mb,bv,kv,L1,n1,a1,br⟩→k≠eb∧∀ g,(Value.slice a l.length cap).ownBlock=some g→k≠g)) (fun iv _=>l.length - (RowKit.intOf iv).toNat)
 case atStart=>exact ⟨0,L,ns,ad,rfl,Nat.zero_le _,HV,HRP,HX1,HU1,HB2,HRN1,HR2,HD1⟩
 case round =>
  clear HV HRP HX1 HU1 HB2 HRN1 HR2 HD1
  obtain ⟨i,L1,n1,a1,rfl,hi,HV,HRP,HX,HU,HE,HRN,HR2,HD⟩:=hrel
  by_cases hlt:i < l.length
  ·obtain ⟨b',off,rfl,hc⟩:=(sl_of_row HV.out).at_ (by omega)
   have c0:=hc i _ (by simp [hlt];rfl)
   have hcp:=(sl_of_row HV.out).caps3
   clear hc
   have hrp:=HRP.out
   rw [List.drop_eq_getElem_cons hlt] at hrp
   generalize l[i]=rcd at *
   cases hrp with
   | own f lt h1 h2 h3 h4 h5 =>
    have hne:(recB 1 (str (txtN f))).toList.isEmpty=false:=by
     rw [ByteArray.toList_eq];rfl
    have HRPN:=qj h5
    have hrz:(recB 1 (str (txtN f))).size≤100:=by
     have:=txt_size h1
     show (1 :: bts (str (txtN f))).length≤100
     rw [List.length_cons,bts_len];omega
    clear h5
    have hr0:∀ h:0 < (recB 1 (str (txtN f))).size,(recB 1 (str (txtN f)))[0]=1:=fun _=>rfl
    have hr1:1≤(recB 1 (str (txtN f))).size:=by
     show 1≤(1 :: bts (str (txtN f))).length
     simp
    go_wp2_with fail
    refine (must_ok _).mono ?_
    rintro e w2 ⟨rfl,rfl⟩
    have HXA:=qj (HX.out.same (Fr.alloc [] wr (.cells #[.string (recB 1 (str (txtN f))),.int .i64 1] 90)))
    have HF0:=qj (Fr.alloc [] wr (.cells #[.string (recB 1 (str (txtN f))),.int .i64 1] 90))
    have CRD:=qj fun (W:World)=>CARead_c ow (str (txtN f)) W (by have:=txt_size h1;omega)
    have hrv:readV ow (str (txtN f))=.tuple #[ntV f,.int .i64 0]:=by
     show rdV (readN ow (bts (str (txtN f))))=_
     rw [bts_str,← h2,readN_txt h1];rfl
    rw [hrv] at CRD
    have hsl:(recB 1 (str (txtN f))).extract 1 (recB 1 (str (txtN f))).size=str (txtN f):=rec_tail _ _
    have HSL:=qj hsl
    clear hrv hsl hr0
    go_upto_region 10 with fail
    generalize wr.alloc (.cells #[.string (recB 1 (str (txtN f))),.int .i64 1] 90)=W0 at *
    generalize recB 1 (str (txtN f))=rcd at *
    go_cut [6,7] from 19 to 105 (fun s6 s7 W=>∃ g,s6=.pointer (some ⟨g,0,none⟩)∧s7=.int .i64 0∧Hid (NtAt W g f∧Fr [] W0 W∧W0.heap.size≤g))
    case first =>
     refine reg_tree (Fr [] W0) 13 (.take 0 (.take 1 (.take 2 (.take 3 (.take 4 (.take 5 (.take 6 (.two 7 11 (.take 8 (.take 9 (.take 10 (.one 11 (.one 12 (.one 13 .nil)))))) (.one 7 (.take 8 (.take 9 (.take 10 (.one 12 (.one 13 .nil)))))))))))))) (by kernel_rfl) (by kernel_rfl) (by kernel_rfl) rfl ?_
     have FC:Fr [] W0 (World.drew W0):=Fr.drew _ _
     generalize World.drew W0=WC at FC ⊢
     iterate 6 (refine tree_take (v:=?_) rfl rfl rfl FC (fun w hS=>?_) ?_;rotate_left;(focus (have XE:=hS.keep HXA.out.blk (by simp);have x1:World.cell? w ⟨cb,1,none⟩=some (.int .i64 ow):=qd XE 1;clear XE;clear hS;go_simp;rfl));simp only [qu,qv,qx])
     (refine tree_take (v:=?_) rfl rfl rfl FC (fun w hS=>?_) ?_;rotate_left;(focus (clear hS;go_simp;rw [if_pos (by omega),HSL.out]));simp only [qu,qv,qx])
     refine ⟨?_,?_⟩
     ·refine tree_op rfl rfl (fun K hK=>?_)
      go_simp
      refine (CRD.out _).mono ?_
      rintro e wq ⟨rfl,fq⟩
      have FC:=FC.trans fq
      refine hK _ _ FC ?_
      clear hK K fq
      try simp only [Act.put,qu,qv,qx]
      (refine tree_take (v:=?_) rfl rfl rfl FC (fun w hS=>?_) ?_;rotate_left;(focus (clear hS;go_simp;rfl));simp only [qu,qv,qx])
      (refine tree_take (v:=?_) rfl rfl rfl FC (fun w hS=>?_) ?_;rotate_left;(focus (clear hS;go_simp;rfl));simp only [qu,qv,qx])
      (refine tree_take (v:=?_) rfl rfl rfl FC (fun w hS=>?_) ?_;rotate_left;(focus (clear hS;go_simp;rfl));simp only [qu,qv,qx])
      refine tree_one rfl rfl (fun K hK=>?_)
      go_simp
      have FA:=Fr.alloc [] wq (.cells #[.int .i64 0,.int .i64 0,.int .i64 0,.int .i64 0,.int .i64 0,.int .i64 0,.int .i64 0,.int .i64 0,.int .i64 0,.int .i64 0,.int .i64 0,.bool false,.int .i64 0,.int .i64 0,.int .i64 0] 31)
      have BN:NtAt (wq.alloc (.cells #[.int .i64 0,.int .i64 0,.int .i64 0,.int .i64 0,.int .i64 0,.int .i64 0,.int .i64 0,.int .i64 0,.int .i64 0,.int .i64 0,.int .i64 0,.bool false,.int .i64 0,.int .i64 0,.int .i64 0] 31)) wq.heap.size nt0:=qm wq _
      have hgl:W0.heap.size≤wq.heap.size:=FC.size
      have FC:=FC.trans FA
      refine hK _ _ FC ?_
      clear hK K FA
      try simp only [Act.put,qu,qv,qx]
      refine tree_one rfl rfl (fun K hK=>?_)
      refine wp_nt (.tmp 6) (.tmp 42) _ nt0 f rfl rfl rfl BN rfl ?_
      intro wx BX fx
      have FC:Fr [] W0 wx:=FC.step fx (fun k hk=>.inr (by simp at hk;omega))
      refine hK _ _ FC ?_
      clear hK K
      refine tree_last rfl rfl (fun K hK=>?_)
      go_simp
      try go_upon
      try go_simp
      refine hK _ _ ?_
      clear hK K
      refine noPanicN ?_
      go_wp2_with fail
      go_meet
      case rel=>exact ⟨_,rfl,rfl,qj ⟨BX,FC,hgl⟩⟩
     ·refine tree_op rfl rfl (fun K hK=>?_)
      go_simp
      have FA:=Fr.alloc [] WC (.cells #[.int .i64 0,.int .i64 0,.int .i64 0,.int .i64 0,.int .i64 0,.int .i64 0,.int .i64 0,.int .i64 0,.int .i64 0,.int .i64 0,.int .i64 0,.bool false,.int .i64 0,.int .i64 0,.int .i64 0] 31)
      have BN:NtAt (WC.alloc (.cells #[.int .i64 0,.int .i64 0,.int .i64 0,.int .i64 0,.int .i64 0,.int .i64 0,.int .i64 0,.int .i64 0,.int .i64 0,.int .i64 0,.int .i64 0,.bool false,.int .i64 0,.int .i64 0,.int .i64 0] 31)) WC.heap.size nt0:=qm WC _
      have hgl:W0.heap.size≤WC.heap.size:=FC.size
      have FC:=FC.trans FA
      refine hK _ _ FC ?_
      clear hK K FA
      try simp only [Act.put,qu,qv,qx]
      refine tree_one rfl rfl (fun K hK=>?_)
      go_simp
      refine (CRD.out _).mono ?_
      rintro e wq ⟨rfl,fq⟩
      have FC:=FC.trans fq
      have BN:NtAt wq WC.heap.size nt0:=fq.keep BN (by simp)
      refine hK _ _ FC ?_
      clear hK K fq
      try simp only [Act.put,qu,qv,qx]
      (refine tree_take (v:=?_) rfl rfl rfl FC (fun w hS=>?_) ?_;rotate_left;(focus (clear hS;go_simp;rfl));simp only [qu,qv,qx])
      (refine tree_take (v:=?_) rfl rfl rfl FC (fun w hS=>?_) ?_;rotate_left;(focus (clear hS;go_simp;rfl));simp only [qu,qv,qx])
      (refine tree_take (v:=?_) rfl rfl rfl FC (fun w hS=>?_) ?_;rotate_left;(focus (clear hS;go_simp;rfl));simp only [qu,qv,qx])
      refine tree_one rfl rfl (fun K hK=>?_)
      refine wp_nt (.tmp 6) (.tmp 42) _ nt0 f rfl rfl rfl BN rfl ?_
      intro wx BX fx
      have FC:Fr [] W0 wx:=FC.step fx (fun k hk=>.inr (by simp at hk;omega))
      refine hK _ _ FC ?_
      clear hK K
      refine tree_last rfl rfl (fun K hK=>?_)
      go_simp
      try go_upon
      try go_simp
      refine hK _ _ ?_
      clear hK K
      refine noPanicN ?_
      go_wp2_with fail
      go_meet
      case rel=>exact ⟨_,rfl,rfl,qj ⟨BX,FC,hgl⟩⟩
    case rest =>
     obtain ⟨g,rfl,rfl,HN⟩:=hcut
     have HNT:=qj HN.out.1
     have HFW:=qj (HF0.out.trans HN.out.2.1)
     have HXC:=qj (HX.out.same HFW.out)
     have CCA:=qj (caCanAdd_c HXC.out f (show a1≤1000000 by have:a1 < 40:=h3;omega))
     have hand:(fmN f && decide (f.src=ow) && decide (a1 < 40))=true:=by
      rw [h1,decide_eq_true h2,decide_eq_true (show a1 < 40 from h3)];rfl
     have CAD:=qj fun (W:World) (hf:Fr [] wc W)=>caAdd_c (HXC.out.same hf) f h1 (show a1≤1000000 by have:a1 < 40:=h3;omega) (fun r hr=>h4 (r.p,r.E) (List.mem_map.2 ⟨r,hr,rfl⟩))
     simp only [hand] at CCA
     have HGN:=qj (show g∉caB ⟨cb,jb,nb,mb,bv,kv,L1,n1,a1,br⟩ from fun hm=>by have h8:=HX.out.lt hm;have h9:=HN.out.2.2;have h10:=HF0.out.size;omega)
     have b0:=HNT.out.cells 0 _ rfl;have b1:=HNT.out.cells 1 _ rfl;have b2:=HNT.out.cells 2 _ rfl;have b3:=HNT.out.cells 3 _ rfl;have b4:=HNT.out.cells 4 _ rfl;have b5:=HNT.out.cells 5 _ rfl;have b6:=HNT.out.cells 6 _ rfl;have b7:=HNT.out.cells 7 _ rfl;have b8:=HNT.out.cells 8 _ rfl;have b9:=HNT.out.cells 9 _ rfl;have b10:=HNT.out.cells 10 _ rfl;have b11:=HNT.out.cells 11 _ rfl;have b12:=HNT.out.cells 12 _ rfl;have b13:=HNT.out.cells 13 _ rfl;have b14:=HNT.out.cells 14 _ rfl
     clear hand HN HXA HF0 CRD HSL hrz hr1 hne h1 h2 h3 h4
     go_wp2_with fail
     refine CCA.out.mono ?_
     rintro e w4 ⟨rfl,f4⟩
     have HF4:=qj f4
     have HNT:=qj (show NtAt w4 g f from f4.keep HNT.out (by simp))
     have b0:=HNT.out.cells 0 _ rfl;have b1:=HNT.out.cells 1 _ rfl;have b2:=HNT.out.cells 2 _ rfl;have b3:=HNT.out.cells 3 _ rfl;have b4:=HNT.out.cells 4 _ rfl;have b5:=HNT.out.cells 5 _ rfl;have b6:=HNT.out.cells 6 _ rfl;have b7:=HNT.out.cells 7 _ rfl;have b8:=HNT.out.cells 8 _ rfl;have b9:=HNT.out.cells 9 _ rfl;have b10:=HNT.out.cells 10 _ rfl;have b11:=HNT.out.cells 11 _ rfl;have b12:=HNT.out.cells 12 _ rfl;have b13:=HNT.out.cells 13 _ rfl;have b14:=HNT.out.cells 14 _ rfl
     clear f4 CCA
     go_wp2_with fail
     refine (must_ok _).mono ?_
     rintro e w5 ⟨rfl,rfl⟩
     have CAE:=qj (CAD.out _ HF4.out)
     clear CAD
     go_wp2_with fail
     refine CAE.out.mono ?_
     rintro e w6 ⟨rfl,q,h6,hU6⟩
     obtain ⟨g1,g2,g3,g4,g5,g6⟩:=rp_next HV.out HU.out HE.out HRN.out HR2.out HD.out (HFW.out.trans HF4.out) hU6
     have HH:=qj (And.intro h6 (And.intro g1 (And.intro g2 (And.intro g3 (And.intro g4 (And.intro g5 g6))))))
     clear h6 hU6 g1 g2 g3 g4 g5 g6 CAE HNT HXC HX HU HV HE HRN HR2 HD
     go_wp2_with fail
     go_roundw
     case rel=>exact ⟨i+1,_,_,_,by go_num,by omega,qj HH.out.2.1,qj (by
      have h12:=HRPN.out
      rw [← addR_cp ⟨cb,jb,nb,mb,bv,kv,L1,n1,a1,br⟩ f q] at h12
      exact h12),qj HH.out.1,qj HH.out.2.2.1,qj HH.out.2.2.2.1,qj HH.out.2.2.2.2.1,qj HH.out.2.2.2.2.2.1,qj HH.out.2.2.2.2.2.2⟩
     case measure=>simp [RowKit.intOf];omega
   | pkt j E p lt h1 h2 h3 h4 h5 h6 h7 h8 h9 h10 =>
    obtain ⟨hb1,hb2,hb3,hb4⟩:=okP_b h2
    obtain ⟨A,r,B,hL1,hrp,hrE,hge⟩:=cp_get h1
    have hq1:=pk_nums h3 hb1 hb2
    have hq2:=pk_body (i:=j) (p:=p) hb3
    have hq3:=pk_seal (i:=j) (p:=p)
    have hne:(recB 2 (pkT j p)).toList.isEmpty=false:=by rw [ByteArray.toList_eq];rfl
    have hr0:∀ h:0 < (recB 2 (pkT j p)).size,(recB 2 (pkT j p))[0]=2:=fun _=>rfl
    have hsz:(recB 2 (pkT j p)).size=1+(putA [j,p.ser,p.ack]).length+(putS p.body).length+32:=by
     show (bts (recB 2 (pkT j p))).length=_
     rw [pkT_bts]
     simp only [List.length_cons,List.length_append,bts_len,hb4]
     omega
    have hz1:=putA_len [j,p.ser,p.ack] (by
     intro z hz
     simp only [List.mem_cons,List.not_mem_nil,or_false] at hz
     omega)
    have hz2:(putS p.body).length≤300:=by
     unfold putS
     rw [List.length_append,bts_len]
     have:=encZ_len (2*p.body.size)
     omega
    simp only [List.length_cons,List.length_nil] at hz1
    have hr1:1≤(recB 2 (pkT j p)).size:=by omega
    have hdrop:(recB 2 (pkT j p)).extract (1+(putA [j,p.ser,p.ack]).length+(putS p.body).length) (recB 2 (pkT j p)).size=p.sl:=by
     rw [str_drop _ _ (by omega),hq3,str_bts]
    have HRPN:=qj h10
    have HCP:=qj (show (takeR ⟨cb,jb,nb,mb,bv,kv,L1,n1,a1,br⟩ A B r p).cp=(CaR.cp ⟨cb,jb,nb,mb,bv,kv,L1,n1,a1,br⟩).take j E p by
     rw [takeR_cp hL1 (by have:=HX.out.ends.nodup;rw [epV_keys] at this;exact this),hrp,hrE])
    have CN:=qj fun (W:World) (hb:W.heap[wr.heap.size]?=some (.cells #[.string (recB 2 (pkT j p)),.int .i64 (1:Nat)] 90 (0,0)))=>numbers_c wr.heap.size (recB 2 (pkT j p)) 1 3 W hb (by omega) (by omega) (by omega)
    rw [hq1] at CN
    have CST:=qj fun (W:World)=>string_c (recB 2 (pkT j p)) (1+(putA [j,p.ser,p.ack]).length) (by omega) (by omega) W
    rw [hq2] at CST
    simp only [strV,str_bts] at CST
    have CTK:=qj fun (W:World) (hc:CaIn W ⟨ow,bl,ra,rc,rs,rr,kl⟩ ⟨cb,jb,nb,mb,bv,kv,L1,n1,a1,br⟩) (hR:RndAt W)=>caTake_c hc hL1 (by rw [hrp];exact hge) p hR (by rw [hrE];exact h2) (by rw [hrE];exact h4) (by rw [hrE];exact h5) (by rw [hrE];exact h6) (by rw [hrE];exact h7) (by rw [hrE];exact h8) (by rw [hrE];exact h9)
    rw [hrp] at CTK
    have HGE:=qj hge;have HDR:=qj hdrop
    generalize recB 2 (pkT j p)=rcd at *
    have hq1l:1+(putA [j,p.ser,p.ack]).length≤100:=by omega
    generalize hQ1:1+(putA [j,p.ser,p.ack]).length=Q1 at *
    have hQ2l:Q1+(putS p.body).length≤rcd.size:=by omega
    have hQ2m:rcd.size≤1000:=by omega
    generalize hQ2:Q1+(putS p.body).length=Q2 at *
    have HXA:=qj (HX.out.same (Fr.alloc [] wr (.cells #[.string rcd,.int .i64 1] 90)))
    have HF0:=qj (Fr.alloc [] wr (.cells #[.string rcd,.int .i64 1] 90))
    have HBR:=qj (qm wr (.cells #[.string rcd,.int .i64 1] 90))
    clear h10 hQ1 hQ2 hz1 hz2 hsz hdrop hq1 hq2 hq3 hge hrp hrE hL1 h1 h2 h3 h4 h5 h6 h7 h8 h9 hb1 hb2 hb3 hb4
    go_wp2_with fail
    refine (must_ok _).mono ?_
    rintro e w2 ⟨rfl,rfl⟩
    have CN2:=qj (CN.out _ HBR.out)
    rw [show ((3:Nat):Int)=3 from rfl] at CN2
    clear CN
    go_wp2_with fail
    generalize wr.alloc (.cells #[.string rcd,.int .i64 1] 90)=W0 at *
    refine CN2.out.mono ?_
    rintro e w3 ⟨v,rfl,hy,hrd⟩
    have HFW:=qj (HF0.out.step hy.fr (fun k hk=>.inr (by simp at hk;omega)))
    have HX3:=qj (HX.out.same HFW.out)
    obtain ⟨ya,yc,rfl⟩:=hy.val
    obtain ⟨yb,yo,rfl,hyc⟩:=(sl_of_row hy.row).at_ (by simp)
    have Y:=qj (And.intro (hyc 0 _ rfl) (And.intro (hyc 1 _ rfl) (hyc 2 _ rfl)))
    simp only [Nat.add_zero] at Y
    have hcy:=(sl_of_row hy.row).caps3
    simp only [List.length_cons,List.length_nil] at hcy
    have HYB:=qj (show ∀ k,k∈caB ⟨cb,jb,nb,mb,bv,kv,L1,n1,a1,br⟩→k≠yb from fun k hk e=>by have h8:=HX.out.lt hk;have h9:=hy.young yb rfl;have h10:=HF0.out.size;omega)
    have rd0:=qd hrd 0;have rd1:=qd hrd 1
    clear hy hrd hyc CN2 HXA HBR HF0 hr0 hne
    go_wp2_with fail
    refine (CST.out _).mono ?_
    rintro e w4 ⟨rfl,rfl⟩
    clear rd0 rd1 CST
    go_upto_region 16 with fail
    refine reg_mix (Fr [] w3) [0,1,2,3,4,5,6,7,8,9,10,11,12,13] (by kernel_rfl) (by kernel_rfl) (by kernel_rfl) rfl (Fr.drew _ _) ?_
    have FC:Fr [] w3 (World.drew w3):=Fr.drew _ _
    generalize World.drew w3=WC at FC ⊢
    iterate 3 (refine mix_take1 (v:=?_) rfl rfl rfl rfl (fun w hS=>?_) ?_;rotate_left;(focus (clear hS;go_simp;rfl));simp only [qu,qv,qx])
    iterate 7 (refine mix_takeg (v:=?_) rfl rfl rfl rfl rfl rfl (fun w hS=>?_) ?_;rotate_left;(focus (have XE:=hS.keep HX3.out.blk (by simp);have x9:World.cell? w ⟨cb,9,none⟩=some (.map (some mb)):=qd XE 9;clear XE;have y0:=hS.cel Y.out.1 (by simp);have y1:=hS.cel Y.out.2.1 (by simp);have y2:=hS.cel Y.out.2.2 (by simp);clear hS;go_simp;rfl));simp only [qu,qv,qx])
    have HXC:=qj (HX3.out.same FC)
    refine mix_dog rfl rfl rfl rfl rfl (fun K hK=>?_)
    refine wp_look 104 109 (.tmp 75) (.tmp 78) false j rfl rfl rfl HXC.out.ends (keyI Tryz.underlying3) Tryz.underlying104 (zeroEnd _) rfl ?_
    rw [if_neg (by simp),HGE.out,Option.getD_some]
    refine hK _ _ FC ?_
    clear hK K HXC
    try simp only [qu,qv,qx]
    (refine mix_takeg (v:=?_) rfl rfl rfl rfl rfl rfl (fun w hS=>?_) ?_;rotate_left;(focus (clear hS;go_simp;rfl));simp only [qu,qv,qx])
    (refine mix_take1 (v:=?_) rfl rfl rfl rfl (fun w hS=>?_) ?_;rotate_left;(focus (clear hS;go_simp;rfl));simp only [qu,qv,qx])
    refine mix_do rfl rfl rfl (fun K hK=>?_)
    go_simp
    refine (must_ok _).mono ?_
    rintro e w5 ⟨rfl,rfl⟩
    refine hK _ _ FC ?_
    clear hK K
    try simp only [Act.put,qu,qv,qx]
    refine mix_end ?_
    have HFC:=qj FC
    clear FC
    go_upto_region 17 with fail
    have HZ:=qj (And.intro (HFC.out.cel Y.out.1 (by simp)) (And.intro (HFC.out.cel Y.out.2.1 (by simp)) (HFC.out.cel Y.out.2.2 (by simp))))
    refine reg_mix (fun W'=>W'.cell? ⟨yb,yo,none⟩=some (.int .i64 j)∧W'.cell? ⟨yb,yo+1,none⟩=some (.int .i64 p.ser)∧W'.cell? ⟨yb,yo+2,none⟩=some (.int .i64 p.ack)) [0,1,2,3,4,5,6,7,8,9,10,11,12,13,14,15,16,17,18,19] (by kernel_rfl) (by kernel_rfl) (by kernel_rfl) rfl ⟨(Fr.drew [] WC).cel HZ.out.1 (by simp),(Fr.drew [] WC).cel HZ.out.2.1 (by simp),(Fr.drew [] WC).cel HZ.out.2.2 (by simp)⟩ ?_
    have FD:Fr [] WC (World.drew WC):=Fr.drew _ _
    generalize World.drew WC=WE at FD ⊢
    have HFE:=qj (HFW.out.trans (HFC.out.trans FD))
    have HZE:=qj (And.intro (FD.cel HZ.out.1 (by simp)) (And.intro (FD.cel HZ.out.2.1 (by simp)) (FD.cel HZ.out.2.2 (by simp))))
    clear FD
    iterate 13 (refine mix_take1 (v:=?_) rfl rfl rfl rfl (fun w hS=>?_) ?_;rotate_left;(focus (have y0:=hS.1;have y1:=hS.2.1;have y2:=hS.2.2;clear hS;go_simp;rfl));simp only [qu,qv,qx])
    (refine mix_take1 (v:=?_) rfl rfl rfl rfl (fun w hS=>?_) ?_;rotate_left;(focus (clear hS;go_simp;first | rw [if_pos (by omega),HDR.out] | rw [HDR.out]));simp only [qu,qv,qx])
    (refine mix_take1 (v:=?_) rfl rfl rfl rfl (fun w hS=>?_) ?_;rotate_left;(focus (clear hS;go_simp;rfl));simp only [qu,qv,qx])
    have CTE:=qj (CTK.out WE (HX.out.same HFE.out) (HRN.out.same HFE.out (by simp)))
    refine mix_do rfl rfl rfl (fun K hK=>?_)
    go_simp
    refine CTE.out.mono ?_
    rintro e w9 ⟨rfl,h9,hU9⟩
    refine hK _ _ ⟨hU9.fr.cel HZE.out.1 (fun hm=>HYB.out _ hm rfl),hU9.fr.cel HZE.out.2.1 (fun hm=>HYB.out _ hm rfl),hU9.fr.cel HZE.out.2.2 (fun hm=>HYB.out _ hm rfl)⟩ ?_
    obtain ⟨g1,g2,g3,g4,g5,g6⟩:=rp_next HV.out HU.out HE.out HRN.out HR2.out HD.out HFE.out hU9
    have HH:=qj (And.intro h9 (And.intro g1 (And.intro g2 (And.intro g3 (And.intro g4 (And.intro g5 g6))))))
    clear hK K h9 hU9 g1 g2 g3 g4 g5 g6 CTE CTK HZE HZ HX3 HFW HFC HX HU HV HE HRN HR2 HD HYB Y
    try simp only [Act.put,qu,qv,qx]
    iterate 4 (refine mix_take1 (v:=?_) rfl rfl rfl rfl (fun w hS=>?_) ?_;rotate_left;(focus (clear hS;go_simp;rfl));simp only [qu,qv,qx])
    refine mix_end ?_
    go_wp2_with fail
    refine (must_ok _).mono ?_
    rintro e w10 ⟨rfl,rfl⟩
    go_wp2_with fail
    go_roundw
    case rel=>exact ⟨i+1,_,_,_,by go_num,by omega,qj HH.out.2.1,qj (by
     have h12:=HRPN.out
     rw [← HCP.out] at h12
     exact h12),qj HH.out.1,qj HH.out.2.2.1,qj HH.out.2.2.2.1,qj HH.out.2.2.2.2.1,qj HH.out.2.2.2.2.2.1,qj HH.out.2.2.2.2.2.2⟩
    case measure=>simp [RowKit.intOf];omega
  ·obtain rfl:i=l.length:=by omega
   have y2:=ql HE.out 0
   have x2:=qd HE.out 0
   have hrp:=HRP.out
   rw [List.drop_length] at hrp
   have hcp:CaR.cp ⟨cb,jb,nb,mb,bv,kv,L1,n1,a1,br⟩=c':=by cases hrp;rfl
   have HCP:=qj hcp
   clear hrp hcp
   go_wp2_with fail
   have fs:=Fr.setCell (fp:=[eb]) (p:=⟨eb,0,none⟩) wr (.int .i64 0) (by simp)
   have hsB:=qs (i:=0) (.int .i64 0) HE.out
   have hcn:=HX.out.fr fs (fun k hk hm=>by simp at hm;exact (HD.out k hk).1 hm) (fun g hg hm=>by simp at hm;subst hm;exact absurd (HSU.out _ hg) (Nat.lt_irrefl _))
   refine rp_ok eb hsB rfl ⟨rfl,L1,n1,a1,hcn,HCP.out,⟨HU.out.fr.step fs (fun k hk=>.inr (by simp at hk;have:=HEB.out;omega)),HU.out.2⟩⟩
end
end Go.Proofs.YtledkokhghjfmaaGreatDoor
