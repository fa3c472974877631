/-
  carrier: write.
-/
import Derived.Test.YtledkokhghjfmaaGreatDoorPS21
import Derived.Test.YtledkokhghjfmaaGreatDoorPS14
import Derived.Test.YtledkokhghjfmaaGreatDoorPS17
import Derived.Test.YtledkokhghjfmaaGreatDoorPS20
import Derived.Test.YtledkokhghjfmaaGreatDoorPS03
import Derived.Test.YtledkokhghjfmaaGreatDoorPS10
import Derived.Test.YtledkokhghjfmaaGreatDoorPS16
import Derived.Recover
import Derived.Test.YtledkokhghjfmaaGreatDoorPS02
namespace Go.Proofs.YtledkokhghjfmaaGreatDoor
section
open Go.RowKit Go.Lib
structure JR where
 db:Nat
 fp:List Nat
 vr:Value
 t:Tp
 br:Bool
 D:Dk
abbrev jnB (jb:Nat) (J:JR):List Nat:=tpB jb J.vr++J.fp
theorem JnAt.lt {w:World} {jb:Nat} {J:JR} (h:JnAt w jb J.db J.fp J.vr J.t J.br J.D) {k:Nat} (hk:k∈jnB jb J):k < w.heap.size:=by
 rcases List.mem_append.1 hk with hk | hk
 ·unfold tpB at hk
  simp only [List.mem_cons,Option.mem_toList] at hk
  rcases hk with rfl | hk
  ·exact blk_lt h.tape.blk
  ·obtain ⟨_,c,hc⟩:=ownRow_at h.tape.row k hk
   exact blk_lt hc
 ·exact DkAt.lt h.disk k hk
structure CjIn (w:World) (s:Su) (x:CaR) (J:JR):Prop where
 ca:CaIn w s x
 jn:JnAt w x.jb J.db J.fp J.vr J.t J.br J.D
 ap:∀ k,k∈caB x→k∉jnB x.jb J
 apS:∀ g,(x.bv.ownBlock=some g∨x.kv.ownBlock=some g)→g∉jnB x.jb J
abbrev cjB (x:CaR) (J:JR):List Nat:=caB x++jnB x.jb J
theorem JnAt.fr {w w':World} {jb:Nat} {J:JR} {S:List Nat} (h:JnAt w jb J.db J.fp J.vr J.t J.br J.D) (hf:Fr S w w') (hS:∀ k,k∈jnB jb J→k∉S):JnAt w' jb J.db J.fp J.vr J.t J.br J.D :=
 ⟨h.tape.fr hf fun k hk=>hS k (List.mem_append.2 (.inl hk)),h.disk.keep hf fun k hk=>hS k (List.mem_append.2 (.inr hk)),h.apart⟩
theorem CjIn.same {w w':World} {s:Su} {x:CaR} {J:JR} (h:CjIn w s x J) (hf:Fr [] w w'):CjIn w' s x J:=⟨h.ca.same hf,h.jn.same hf,h.ap,h.apS⟩
theorem CjIn.fr {w w':World} {s:Su} {x:CaR} {J:JR} {S:List Nat} (h:CjIn w s x J) (hf:Fr S w w') (hS:∀ k,k∈cjB x J→k∉S) (hA:∀ g,(x.bv.ownBlock=some g∨x.kv.ownBlock=some g)→g∉S):CjIn w' s x J :=
 ⟨h.ca.fr hf (fun k hk=>hS k (List.mem_append.2 (.inl hk))) hA,h.jn.fr hf fun k hk=>hS k (List.mem_append.2 (.inr hk)),h.ap,h.apS⟩
theorem CjIn.lt {w:World} {s:Su} {x:CaR} {J:JR} (h:CjIn w s x J) {k:Nat} (hk:k∈cjB x J):k < w.heap.size:=by
 rcases List.mem_append.1 hk with hk | hk
 ·exact h.ca.lt hk
 ·exact h.jn.lt hk
theorem CjIn.step {w w':World} {s:Su} {x x':CaR} {J:JR} (h:CjIn w s x J) (hc:CaIn w' s x') (hU:Upd (caB x) (caB x') w w') (hj:x'.jb=x.jb) (hv:x'.bv=x.bv∧x'.kv=x.kv):CjIn w' s x' J∧Upd (cjB x J) (cjB x' J) w w':=by
 have h1:∀ k,k∈jnB x.jb J→k∉caB x:=fun k hk hm=>h.ap k hm hk
 refine ⟨⟨hc,by rw [hj];exact h.jn.fr hU.fr h1,fun k hk hm=>?_,fun g hg hm=>?_⟩,hU.fr.mono fun k hk=>List.mem_append.2 (.inl hk),fun k hk=>?_⟩
 ·rw [hj] at hm
  rcases hU.2 k hk with h2 | h2
  ·exact h.ap k h2 hm
  ·have:=h.jn.lt hm;omega
 ·rw [hj] at hm
  rw [hv.1,hv.2] at hg
  exact h.apS g hg hm
 ·rcases List.mem_append.1 hk with hk | hk
  ·rcases hU.2 k hk with h2 | h2
   ·exact .inl (List.mem_append.2 (.inl h2))
   ·exact .inr h2
  ·rw [hj] at hk
   exact .inl (List.mem_append.2 (.inr hk))
theorem CjIn.jstep {w w':World} {s:Su} {x:CaR} {J J':JR} (h:CjIn w s x J) (hj:JnAt w' x.jb J'.db J'.fp J'.vr J'.t J'.br J'.D) (hU:Upd (jnB x.jb J) (jnB x.jb J') w w'):CjIn w' s x J'∧Upd (cjB x J) (cjB x J') w w':=by
 refine ⟨⟨h.ca.fr hU.fr h.ap h.apS,hj,fun k hk hm=>?_,fun g hg hm=>?_⟩,hU.fr.mono fun k hk=>List.mem_append.2 (.inr hk),fun k hk=>?_⟩
 ·rcases hU.2 k hm with h2 | h2
  ·exact h.ap k hk h2
  ·have:=h.ca.lt hk;omega
 ·rcases hU.2 g hm with h2 | h2
  ·exact h.apS g hg h2
  ·have:=(h.ca.suA g hg).1;omega
 ·rcases List.mem_append.1 hk with hk | hk
  ·exact .inl (List.mem_append.2 (.inl hk))
  ·rcases hU.2 k hk with h2 | h2
   ·exact .inl (List.mem_append.2 (.inr h2))
   ·exact .inr h2
theorem wp_b2s {P:Program} {w:World} {o:Oper} {a:Act} {K:Act→World→Prop} {Q:Exit→Act→World→Prop} (x:Operand) (src dst e:TypeId) (ho:o.op=.convert src dst x)
  (hs:P.underlying src=some (.slice e)) (he:P.underlying e=some (.int .u8)) (hd:P.underlying dst=some .string) (k:UInt8) (g:Nat) (e':TypeId) (hx:a.eval x=.slice (some ⟨g,0,none⟩) 1 1) (hb:BytesAt w g e' [k]) {d:Tmp} (hod:o.dst=some d)
  (h:K { a with tmps:=a.tmps.setIfInBounds d (.string ⟨#[k]⟩) } w):o.wp P a w K Q:=by
 refine wp_bytes_str x src dst e ho hs he hd g 0 1 1 [k] e' hx hb (by simp) ?_
 rw [put_some hod]
 exact h
def recB (k:UInt8) (v:ByteArray):ByteArray:=str (k :: bts v)
abbrev wrJ (J:JR) (vr:Value) (fp:List Nat) (o:Int × Tp × Bool × Dk):JR:=⟨J.db,fp,vr,o.2.1,o.2.2.1,o.2.2.2⟩
set_option maxRecDepth 100000 in
set_option maxHeartbeats 4000000 in
theorem caWrite_c {w:World} {s:Su} {x:CaR} {J:JR} (h:CjIn w s x J) (k:UInt8) (v:ByteArray) (hv:v.size≤1000000) (hh:J.t.head.size=32) (hts:J.t.size≤J.D.dur.length) (hrl:J.t.recs.length≤10000000) (hN:(encAll J.t.head [recB k v]).length≤1000000000) (hR:RndAt w) (hp:J.D.pend.length≤4000000000) :
  Calls Tryz.prog 39 #[.pointer (some ⟨x.cb,0,none⟩),.int .u8 (k.toNat:Int),.string v] w fun e w'=>e=.returned (.int .i64 (J.D.apps J.t J.br [recB k v]).1)∧∃ vr' fp',
   CjIn w' s { x with br:=!decide ((J.D.apps J.t J.br [recB k v]).1=0) } (wrJ J vr' fp' (J.D.apps J.t J.br [recB k v]))∧Upd (cjB x J) (cjB { x with br:=!decide ((J.D.apps J.t J.br [recB k v]).1=0) } (wrJ J vr' fp' (J.D.apps J.t J.br [recB k v]))) w w':=by
 have CA:=qj fun (W:World) (b:Nat) (hf:Fr [] w W) (hb:W.heap[b]?=some (.cells #[.string (recB k v)] 9 (0,0))) =>
  app_c (h.jn.same hf) [recB k v] (some ⟨b,0,none⟩) 1 (sl_blk (n:=1) (cs:=[Value.string (recB k v)]) hb rfl (by omega)) hh hts hrl (by simp) (fun _=>hN) (hR.same hf (by simp)) hp
 have HX:=qj h
 have hcat:(⟨#[k]⟩:ByteArray)++v=recB k v:=by
  apply ByteArray.ext;simp [recB,str,bts]
 have HC:=qj hcat
 have hsz:(⟨#[k]⟩:ByteArray).size=1:=rfl
 have HZ:=qj hsz
 obtain ⟨cb,jb,nb,mb,bv,kv,L,ns,ad,br⟩:=x
 obtain ⟨ow,bl,ra,rc,rs,rr,kl⟩:=s
 have blk0:=h.ca.blk
 simp only at *
 generalize J.D.apps J.t J.br [recB k v]=O at *
 clear h hcat hsz hh hts hrl hN hp hR
 go_enter Tryz.func39,Tryz.ntmps39
 go_wp2_with fail
 refine reg_mix (fun W=>W.heap[cb]?=some (.cells (caC ⟨ow,bl,ra,rc,rs,rr,kl⟩ ⟨cb,jb,nb,mb,bv,kv,L,ns,ad,br⟩).toArray 106 (0,0))) [0,1,2,3,4,7,5,6,8,9,10,11] (by kernel_rfl) (by kernel_rfl) (by kernel_rfl) rfl ((Fr.drew [] w).keep blk0 (by simp)) ?_
 have FC:Fr [] w (World.drew w):=Fr.drew _ _
 generalize World.drew w=WC at FC ⊢
 iterate 6 (refine mix_take1 (v:=?_) rfl rfl rfl rfl (fun w hS=>?_) ?_;rotate_left;(focus (have c0:World.cell? w ⟨cb,0,none⟩=some (.pointer (some ⟨jb,0,none⟩)):=qd hS 0;clear hS;go_simp;rfl));simp only [qu,qv,qx])
 refine mix_do rfl rfl rfl (fun K hK=>?_)
 go_simp
 have FA:=Fr.alloc [] WC (.cells #[.int .u8 (k.toNat:Int)] 5)
 have BA:BytesAt (WC.alloc (.cells #[.int .u8 (k.toNat:Int)] 5)) WC.heap.size 5 [k]:=qm WC _
 have FC:=FC.trans FA
 have SA:=FC.keep blk0 (by simp)
 refine hK _ _ SA ?_
 clear hK K FA
 try simp only [Act.put,qu,qv,qx]
 generalize WC.alloc (.cells #[.int .u8 (k.toNat:Int)] 5)=WD at *
 refine mix_do rfl rfl rfl (fun K hK=>?_)
 refine wp_b2s (.tmp 13) 39 9 5 rfl Tryz.underlying39 Tryz.underlying5 Tryz.underlying9 k _ 5 rfl BA rfl ?_
 refine hK _ _ SA ?_
 clear hK K BA SA
 try simp only [qu,qv,qx]
 (refine mix_take1 (v:=?_) rfl rfl rfl rfl (fun w hS=>?_) ?_;rotate_left;(focus (clear hS;go_simp;rw [if_neg (by omega),HC.out]));simp only [qu,qv,qx])
 refine mix_do rfl rfl rfl (fun K hK=>?_)
 go_simp
 have FA:=Fr.alloc [] WD (.cells #[.string (recB k v)] 9)
 have BA:=qm WD (.cells #[.string (recB k v)] 9)
 have FC:=FC.trans FA
 have SA:=FC.keep blk0 (by simp)
 refine hK _ _ SA ?_
 have CA2:=qj (CA.out _ _ FC BA)
 have HX2:=qj (HX.out.same FC)
 clear hK K FA BA SA
 try simp only [Act.put,qu,qv,qx]
 generalize WD.alloc (.cells #[.string (recB k v)] 9)=WE at *
 refine mix_do rfl rfl rfl (fun K hK=>?_)
 go_simp
 refine CA2.out.mono ?_
 rintro e w2 ⟨rfl,vr',fp',hJ,hU⟩
 obtain ⟨h3,hU3⟩:=HX2.out.jstep (J':=wrJ J vr' fp' O) hJ hU
 have HX3:=qj h3
 have HU3:=qj hU3
 refine hK _ _ h3.ca.blk ?_
 clear hK K hJ hU h3 hU3
 try simp only [Act.put,qu,qv,qx]
 (refine mix_take1 (v:=?_) rfl rfl rfl rfl (fun w hS=>?_) ?_;rotate_left;(focus (clear hS;go_simp;rfl));simp only [qu,qv,qx])
 refine mix_end ?_
 have HF0:=qj FC
 have y11:=ql HX3.out.ca.blk 11
 have x11:w2.cell? ⟨cb,11,none⟩=some (.bool br):=qd HX3.out.ca.blk 11
 clear FC blk0 CA CA2 HX2 HX
 go_wp2_with fail
 go_ret
 have hbq:(O.1 != 0)=!decide (O.1=0):=rfl
 rw [hbq]
 have hs:=Fr.setCell (fp:=[cb]) (p:=⟨cb,11,none⟩) w2 (.bool (!decide (O.1=0))) (by simp)
 have hc:=HX3.out.ca.own (ad:=ad) (br:=!decide (O.1=0)) hs (qs (i:=11) (.bool (!decide (O.1=0))) HX3.out.ca.blk)
 obtain ⟨h4,hU4⟩:=HX3.out.step hc ⟨hs.mono (by simp),fun _ h=>.inl h⟩ rfl ⟨rfl,rfl⟩
 exact ⟨rfl,vr',fp',h4,(Upd.trans ⟨HF0.out.mono (by simp),fun _ h=>.inl h⟩ HU3.out).trans hU4⟩
end
section
open Go.RowKit Go.Lib
theorem zeroEnd (w:World):(zeroValue 109).run Tryz.prog w=.ok (.pointer none) w:=by kernel_rfl
theorem ends_look {w:World} {s:Su} {x:CaR} (h:CaIn w s x) (p:Int):(Instr.lookup 104 (.map (some x.mb)) (.int .i64 p) false).run Tryz.prog w=.ok ((getA (epV x.L) p).getD (.pointer none)) w:=by
 have:=h.ends.look (keyI Tryz.underlying3) Tryz.underlying104 (zeroEnd w) p false
 simpa using this
set_option maxRecDepth 100000 in
set_option maxHeartbeats 1000000 in
theorem caOut_c {w:World} {s:Su} {x:CaR} (h:CaIn w s x) (p:Int) (hb:x.br=false) {r:EnR} (hr:r∈x.L) (hrp:getA (epV x.L) p=some (.pointer (some ⟨r.eb,0,none⟩))) (hac:r.E.acked≤r.E.sent.length) (hsl:r.E.sent.length≤100000) (hrc:r.E.recv≤100000) (hk:r.E.key.size≤1000000) (hbd:∀ s,s∈r.E.sent→s.size≤65536) (hR:RndAt w) :
  Calls Tryz.prog 13 #[.pointer (some ⟨x.cb,0,none⟩),.int .i64 p] w fun e w'=>∃ v,e=.returned v∧PkY w w' v (outP r.E):=by
 have hlk:=ends_look h p
 rw [hrp] at hlk
 have CO:=qj (lkOut_c (h.ens.all r hr) hac hsl hrc hk hbd hR)
 obtain ⟨cb,jb,nb,mb,bv,kv,L,ns,ad,br⟩:=x
 have x9:=qd h.blk 9
 have x11:=qd h.blk 11
 simp only at hb
 subst hb
 simp only [Option.getD_some] at hlk
 clear h hac hsl hrc hk hbd hR hr hrp
 go_enter Tryz.func13,Tryz.ntmps13
 go_wp2_with fail
 refine CO.out.mono ?_
 rintro e w1 ⟨v,rfl,hy⟩
 have HY:=qj hy
 clear hy
 go_wp2_with fail
 go_ret
 exact ⟨v,rfl,HY.out⟩
set_option maxRecDepth 100000 in
set_option maxHeartbeats 4000000 in
theorem CAAdd_bad {w:World} {s:Su} {x:CaR} (h:CaIn w s x) (t:Nt) (hx:x.added≤1000000) (hp:x.br=true∨(fmN t && decide (t.src=s.own) && decide (x.added < 40))=false) :
  Calls Tryz.prog 12 #[.pointer (some ⟨x.cb,0,none⟩),ntV t] w fun e w'=>e=.returned (.int .i64 430)∧Fr [] w w':=by
 have B1:=qm w (.cells #[Value.int .i64 t.src,Value.int .i64 t.kind,Value.int .i64 t.num,Value.int .i64 t.lk,Value.int .i64 t.la,Value.int .i64 t.lh,Value.int .i64 t.cn,Value.int .i64 t.cf,Value.int .i64 t.ct,Value.int .i64 t.ch,Value.int .i64 t.ca,Value.bool t.cb,Value.int .i64 t.ek,Value.int .i64 t.ea,Value.int .i64 t.er] 31)
 have F1:=Fr.alloc [] w (.cells #[Value.int .i64 t.src,Value.int .i64 t.kind,Value.int .i64 t.num,Value.int .i64 t.lk,Value.int .i64 t.la,Value.int .i64 t.lh,Value.int .i64 t.cn,Value.int .i64 t.cf,Value.int .i64 t.ct,Value.int .i64 t.ch,Value.int .i64 t.ca,Value.bool t.cb,Value.int .i64 t.ek,Value.int .i64 t.ea,Value.int .i64 t.er] 31)
 have CC:=qj (caCanAdd_c (h.same F1) t hx)
 have x11:=qd (h.same F1).blk 11
 have HF1:=qj F1
 have b0:=qd B1 0;have b1:=qd B1 1;have b2:=qd B1 2;have b3:=qd B1 3;have b4:=qd B1 4;have b5:=qd B1 5;have b6:=qd B1 6;have b7:=qd B1 7;have b8:=qd B1 8;have b9:=qd B1 9;have b10:=qd B1 10;have b11:=qd B1 11;have b12:=qd B1 12;have b13:=qd B1 13;have b14:=qd B1 14
 obtain ⟨cb,jb,nb,mb,bv,kv,L,ns,ad,br⟩:=x
 simp only at hp
 generalize (fmN t && decide (t.src=s.own) && decide (ad < 40))=q at *
 clear h F1 B1
 cases br with
 | true =>
  clear hp
  go_enter Tryz.func12,Tryz.ntmps12
  go_wp2_with fail
  go_ret
  exact ⟨rfl,HF1.out⟩
 | false =>
  obtain rfl:q=false:=by simpa using hp
  go_enter Tryz.func12,Tryz.ntmps12
  go_wp2_with fail
  refine CC.out.mono ?_
  rintro e w1 ⟨rfl,f1⟩
  have HF2:=qj (HF1.out.trans f1)
  clear f1
  go_wp2_with fail
  go_ret
  exact ⟨rfl,HF2.out⟩
set_option maxRecDepth 100000 in
set_option maxHeartbeats 4000000 in
theorem CAAdd_c {w:World} {s:Su} {x:CaR} {J:JR} (h:CjIn w s x J) (t:Nt) (hx:x.added≤1000000) (hb:x.br=false) (hq:(fmN t && decide (t.src=s.own) && decide (x.added < 40))=true) (hl:∀ r,r∈x.L→r.E.sent.length < 100)
  (hh:J.t.head.size=32) (hts:J.t.size≤J.D.dur.length) (hrl:J.t.recs.length≤10000000) (hN:(encAll J.t.head [recB 1 (str (txtN t))]).length≤1000000000) (hR:RndAt w) (hp:J.D.pend.length≤4000000000) :
  Calls Tryz.prog 12 #[.pointer (some ⟨x.cb,0,none⟩),ntV t] w fun e w'=>e=.returned (.int .i64 (J.D.apps J.t J.br [recB 1 (str (txtN t))]).1)∧∃ vr' fp' x',CjIn w' s x' (wrJ J vr' fp' (J.D.apps J.t J.br [recB 1 (str (txtN t))])) ∧
   Upd (cjB x J) (cjB x' (wrJ J vr' fp' (J.D.apps J.t J.br [recB 1 (str (txtN t))]))) w w'∧((J.D.apps J.t J.br [recB 1 (str (txtN t))]).1=0→∃ q,x'=addR { x with br:=false } t q)∧((J.D.apps J.t J.br [recB 1 (str (txtN t))]).1≠0→x'={ x with br:=true }):=by
 have hfm:fmN t=true:=by
  rw [Bool.and_eq_true,Bool.and_eq_true] at hq
  exact hq.1.1
 have htv:txtV t=.tuple #[.string (str (txtN t)),.int .i64 0]:=by unfold txtV;rw [if_pos hfm]
 have htz:=txt_size hfm
 have CT:=qj fun W=>CAText_c t W
 rw [htv] at CT
 have B1:=qm w (.cells #[Value.int .i64 t.src,Value.int .i64 t.kind,Value.int .i64 t.num,Value.int .i64 t.lk,Value.int .i64 t.la,Value.int .i64 t.lh,Value.int .i64 t.cn,Value.int .i64 t.cf,Value.int .i64 t.ct,Value.int .i64 t.ch,Value.int .i64 t.ca,Value.bool t.cb,Value.int .i64 t.ek,Value.int .i64 t.ea,Value.int .i64 t.er] 31)
 have F1:=Fr.alloc [] w (.cells #[Value.int .i64 t.src,Value.int .i64 t.kind,Value.int .i64 t.num,Value.int .i64 t.lk,Value.int .i64 t.la,Value.int .i64 t.lh,Value.int .i64 t.cn,Value.int .i64 t.cf,Value.int .i64 t.ct,Value.int .i64 t.ch,Value.int .i64 t.ca,Value.bool t.cb,Value.int .i64 t.ek,Value.int .i64 t.ea,Value.int .i64 t.er] 31)
 have CC:=qj (caCanAdd_c (h.ca.same F1) t hx)
 rw [hq] at CC
 have CW:=qj fun (W:World) (hf:Fr [] w W)=>caWrite_c (h.same hf) 1 (str (txtN t)) (by omega) hh hts hrl hN (hR.same hf (by simp)) hp
 have CD:=qj fun (W:World) (x':CaR) (hc:CaIn W s x') (h1:x'.added≤1000000) (h2:∀ r,r∈x'.L→r.E.sent.length < 100)=>caAdd_c hc t hfm h1 h2
 have x11:=qd (h.ca.same F1).blk 11
 have HF1:=qj F1
 have HB1:=qj B1
 have HL:=qj hl
 have h0lt:=qj fun k (hk:k∈cjB x J)=>h.lt hk
 obtain ⟨cb,jb,nb,mb,bv,kv,L,ns,ad,br⟩:=x
 simp only at hb
 subst hb
 have hdiff:=qj (show w.heap.size∉cjB ⟨cb,jb,nb,mb,bv,kv,L,ns,ad,false⟩ J from fun hm=>absurd (h0lt.out _ hm) (Nat.lt_irrefl _))
 generalize J.D.apps J.t J.br [recB 1 (str (txtN t))]=O at *
 have b0:=qd B1 0;have b1:=qd B1 1;have b2:=qd B1 2;have b3:=qd B1 3;have b4:=qd B1 4;have b5:=qd B1 5;have b6:=qd B1 6;have b7:=qd B1 7;have b8:=qd B1 8;have b9:=qd B1 9;have b10:=qd B1 10;have b11:=qd B1 11;have b12:=qd B1 12;have b13:=qd B1 13;have b14:=qd B1 14
 clear h F1 B1 hfm htv hh hts hrl hN hR hp hl hq
 go_enter Tryz.func12,Tryz.ntmps12
 go_wp2_with fail
 refine CC.out.mono ?_
 rintro e w1 ⟨rfl,f1⟩
 have HF2:=qj (HF1.out.trans f1)
 have HB2:=qj (f1.keep HB1.out (by simp))
 have b0:=qd HB2.out 0;have b1:=qd HB2.out 1;have b2:=qd HB2.out 2;have b3:=qd HB2.out 3;have b4:=qd HB2.out 4;have b5:=qd HB2.out 5;have b6:=qd HB2.out 6;have b7:=qd HB2.out 7;have b8:=qd HB2.out 8;have b9:=qd HB2.out 9;have b10:=qd HB2.out 10;have b11:=qd HB2.out 11;have b12:=qd HB2.out 12;have b13:=qd HB2.out 13;have b14:=qd HB2.out 14
 clear f1 CC x11 HF1 HB1
 go_wp2_with fail
 refine (CT.out _).mono ?_
 rintro e w2 ⟨rfl,f2⟩
 have HF3:=qj (HF2.out.trans f2)
 have HB3:=qj (f2.keep HB2.out (by simp))
 clear f2 HF2 HB2 CT
 have CW2:=qj (CW.out _ HF3.out)
 clear CW
 go_wp2_with fail
 refine CW2.out.mono ?_
 rintro e w3 ⟨rfl,vr',fp',h3,hU3⟩
 have HB4:=qj (hU3.fr.keep HB3.out hdiff.out)
 have HU4:=qj (Upd.trans (f1:=cjB ⟨cb,jb,nb,mb,bv,kv,L,ns,ad,false⟩ J) ⟨HF3.out.mono (by simp),fun _ h=>.inl h⟩ hU3)
 have HX4:=qj h3
 clear HB3 HF3 CW2 h3 hU3
 obtain ⟨o1,o2⟩:=O
 simp only at *
 by_cases ho:o1=0
 ·subst ho
  have hbr:(!decide ((0:Int)=0))=false:=rfl
  rw [hbr] at HX4 HU4
  have CD2:=qj (CD.out w3 ⟨cb,jb,nb,mb,bv,kv,L,ns,ad,false⟩ HX4.out.ca (by simpa using hx) HL.out)
  clear CD hbr
  have b0:=qd HB4.out 0;have b1:=qd HB4.out 1;have b2:=qd HB4.out 2;have b3:=qd HB4.out 3;have b4:=qd HB4.out 4;have b5:=qd HB4.out 5;have b6:=qd HB4.out 6;have b7:=qd HB4.out 7;have b8:=qd HB4.out 8;have b9:=qd HB4.out 9;have b10:=qd HB4.out 10;have b11:=qd HB4.out 11;have b12:=qd HB4.out 12;have b13:=qd HB4.out 13;have b14:=qd HB4.out 14
  go_wp2_with fail
  refine CD2.out.mono ?_
  rintro e w4 ⟨rfl,q,h5,hU5⟩
  obtain ⟨h6,hU6⟩:=HX4.out.step h5 hU5 rfl ⟨rfl,rfl⟩
  have HX6:=qj h6
  have HU6:=qj (HU4.out.trans hU6)
  clear h5 hU5 h6 hU6 HX4 HU4 CD2
  go_wp2_with fail
  go_ret
  exact ⟨rfl,vr',fp',_,HX6.out,HU6.out,q,rfl⟩
 ·have hbr:(!decide (o1=0))=true:=by simp [ho]
  rw [hbr] at HX4 HU4
  clear CD hbr HB4
  go_wp2_with fail
  go_ret
  exact ⟨rfl,vr',fp',HX4.out,HU4.out⟩
end
section
open Go.RowKit Go.Lib
abbrev flP:List PanicEntry:=[{ v:=.iface 146 (.agg #[.int .i64 430]),recovered:=false }]
abbrev flQ:List PanicEntry:=[{ v:=.iface 146 (.agg #[.int .i64 430]),recovered:=true }]
theorem must_ok (w:World):Calls Tryz.prog 33 #[.bool true] w fun e w'=>e=.returned (.tuple #[])∧w=w':=by
 go_enter Tryz.func33,Tryz.ntmps33
 go_wp2
 go_end0
 exact ⟨rfl,rfl⟩
set_option maxRecDepth 100000 in
theorem must_bad (w:World):Calls Tryz.prog 33 #[.bool false] w fun e w'=>e=.panicked flP∧w=w':=by
 go_enter Tryz.func33,Tryz.ntmps33
 go_wp2
 exact ⟨rfl,rfl,rfl⟩
set_option maxRecDepth 100000 in
theorem recd_idle (p:Addr) (w:World):CallsD Tryz.prog 31 #[.pointer (some p)] .returning w fun e u' w'=>e=.returned (.tuple #[])∧u'=.returning∧w'=w:=by
 refine callsD_of_wpS Tryz.func31 rfl fun c₀ cs hu=>?_
 apply wpS_seq
 apply wpS_region
 simp [wpOpsS,go_sem,recoverD,hu,Tryz.ntmps31,Exit.thenS]
 simp only [Array.replicate_succ,Array.replicate_zero]
 refine wpS_of_wp ?_
 go_wp2_with fail
 exact ⟨rfl,_,by cases c₀;simp_all,_,by simp [results,Tryz.results31,go_sem],rfl,rfl,rfl⟩
set_option maxRecDepth 100000 in
theorem recd_fail (p:Nat) (vp:Value) (w:World) (hp:w.heap[p]?=some (.cells #[vp] 34 (0,0))) :
  CallsD Tryz.prog 31 #[.pointer (some ⟨p,0,none⟩)] (.panicking flP) w fun e u' w'=>e=.returned (.tuple #[])∧u'=.panicking flQ∧w'.heap[p]?=some (.cells #[.int .i64 430] 34 (0,0))∧Fr [p] w w':=by
 refine callsD_of_wpS Tryz.func31 rfl fun c₀ cs hu=>?_
 apply wpS_seq
 apply wpS_region
 simp [wpOpsS,go_sem,recoverD,hu,Tryz.ntmps31,Exit.thenS]
 simp only [Array.replicate_succ,Array.replicate_zero]
 refine wpS_of_wp ?_
 have tA:∀ w:World,(Instr.typeAssert (.iface 146 (.agg #[.int .i64 430])) 20 146 true).run Tryz.prog w=.ok (.tuple #[.agg #[.int .i64 430],.bool true]) w:=fun w=>by kernel_rfl
 have B1:=qm w (.cells #[.int .i64 430] 146)
 have hA:=heap_alloc_old (.cells #[.int .i64 430] 146) hp
 have x0:=qd B1 0
 have y0:=qd hA 0
 have z0:=ql hA 0
 have HR:=qj (And.intro (qs (i:=0) (.int .i64 430) hA) ((Fr.alloc [p] w (.cells #[.int .i64 430] 146)).trans (Fr.setCell (p:=⟨p,0,none⟩) _ (.int .i64 430) (by simp))))
 clear B1 hA hp
 go_wp2_with fail
 exact ⟨rfl,_,by cases c₀;simp_all,_,by simp [results,Tryz.results31,go_sem],rfl,rfl,HR.out⟩
theorem infoIntT:(Tryz.prog.info? 3).map (fun i=>(i.zero,i.size,i.bytes))=some (some (.int .i64 0),1,8):=by kernel_rfl
structure RiY (fp:List Nat) (w W:World) (v:Value) (l:List Int):Prop where
 row:W.ownsRow 0 3 1 v l.length (l.map (Value.int .i64))
 young:∀ g,v.ownBlock=some g→w.heap.size≤g
 fr:Fr fp w W
theorem RiY.nil {fp:List Nat} {w W:World} (hf:Fr fp w W):RiY fp w W (.slice none 0 0) []:=⟨World.ownsRow_nil _ _ _ _,(fun g hg=>by cases hg),hf⟩
theorem RiY.same {fp:List Nat} {w W W':World} {v:Value} {l:List Int} (h:RiY fp w W v l) (hf:Fr [] W W'):RiY fp w W' v l:=⟨row_fr h.row hf (by simp),h.young,h.fr.trans (hf.mono (by simp))⟩
theorem RiY.upd {fp:List Nat} {w W W':World} {v:Value} {l:List Int} (h:RiY fp w W v l) (hf:Fr fp W W') (hl:∀ k,k∈fp→k < w.heap.size):RiY fp w W' v l :=
 ⟨row_fr h.row hf (fun g hg hm=>by have:=h.young g hg;have:=hl g hm;omega),h.young,h.fr.trans hf⟩
theorem RiY.val {fp:List Nat} {w W:World} {v:Value} {l:List Int} (h:RiY fp w W v l):∃ a c,v=.slice a l.length c:=(sl_of_row h.row).val
theorem wp_ri_app {fp:List Nat} {w W:World} {o:Oper} {a:Act} {K:Act→World→Prop} {Q:Exit→Act→World→Prop} (s x:Operand) (ho:o.op=.call { callee:=.builtin .append,args:=#[s,x],argTypes:=#[83,83] })
  (v:Value) (l:List Int) (r:Int) (g:Nat) (hs:a.eval s=v) (hx:a.eval x=.slice (some ⟨g,0,none⟩) 1 1) (h:RiY fp w W v l) (hg:W.heap[g]?=some (.cells #[.int .i64 r] 3 (0,0))) (hl:l.length≤100000)
  (hK:∀ v' W',RiY fp w W' v' (l++[r])→Fr v.ownBlock.toList W W'→K (a.put o.dst v') W'):o.wp Tryz.prog a W K Q:=by
 refine wp_append_src s x 83 3 (.int .i64 0) 1 8 ho Tryz.underlying83 infoIntT rfl (by decide) v l.length (l.map (Value.int .i64)) hs h.row (.slice (some ⟨g,0,none⟩) 1 1) 1 [.int .i64 r] hx ⟨.inr ⟨_,1,rfl,fun j u hu=>by rw [add_at,qd hg];simpa using hu⟩⟩ (by simp) (by simp [Value.oneCell']) (by omega) (by omega) ?_
 intro ga cap W' r1 f1 o1
 refine hK _ _ ⟨by simpa using r1,fun g' hg'=>?_,h.fr.step f1 (fun i hi=>.inr (h.young i (by simpa using hi)))⟩ f1
 rcases o1 with h1 | h1
 ·exact h.young g' (h1 ▸ hg')
 ·rw [hg'] at h1
  have:=h.fr.size
  simp at h1;omega
theorem getI_le {s:List UInt8} {p:Nat} {n:Int} {q:Nat} (h:getI s p=some (n,q)):q≤s.length:=(getI_sound h).2
def NumPost (rb:Nat) (s:ByteArray) (w:World) (o:Option (List Int × Nat)) (e:Ending) (w':World):Prop:=match o with
 | some (l,q)=>∃ v,e=.returned v∧RiY [rb] w w' v l∧w'.heap[rb]?=some (.cells #[.string s,.int .i64 q] 90 (0,0))
 | none=>e=.panicked flP∧Fr [rb] w w'
set_option maxRecDepth 100000 in
set_option maxHeartbeats 2000000 in
theorem numbers_c (rb:Nat) (s:ByteArray) (p many:Nat) (w:World) (h:w.heap[rb]?=some (.cells #[.string s,.int .i64 p] 90 (0,0))) (hp:p≤s.size) (hs:s.size≤1000000000) (hm:many≤100) :
  Calls Tryz.prog 32 #[.pointer (some ⟨rb,0,none⟩),.int .i64 many] w (NumPost rb s w (getN (bts s) many p)):=by
 have H0:=qj h
 have hlt:=blk_lt h
 generalize hO:getN (bts s) many p=O
 have HO:Shut (O=getN (bts s) many p):=⟨hO.symm⟩
 clear h hO
 go_enter Tryz.func32,Tryz.ntmps32
 go_wp2_with fail
 go_loopw [5,10] (fun ov iv wr=>∃ (k q:Nat) (l:List Int),iv=.int .i64 k∧k≤many∧l.length=k∧q≤s.size∧Shut (O=(getN (bts s) (many - k) q).map fun x:List Int × Nat=>(l++x.1,x.2))∧Hid (wr.heap[rb]?=some (.cells #[.string s,.int .i64 q] 90 (0,0)))∧Hid (RiY [rb] w wr ov l)) (fun _ iv _=>many - (RowKit.intOf iv).toNat)
 case atStart=>exact ⟨0,p,[],rfl,Nat.zero_le _,rfl,hp,⟨by rw [HO.out,Nat.sub_zero];cases getN (bts s) many p with
  | none=>rfl
  | some x=>rfl⟩,H0,qj (RiY.nil (Fr.refl _ _))⟩
 case round =>
  obtain ⟨k,q,l,rfl,hk,rfl,hq,HG0,HB,HY⟩:=hrel
  obtain ⟨va,vc,rfl⟩:=HY.out.val
  by_cases hlt2:l.length < many
  ·obtain ⟨j,hj⟩:∃ j,many - l.length=j+1:=⟨many - l.length - 1,by omega⟩
   have hj2:many - (l.length+1)=j:=by omega
   rw [hj] at HG0
   generalize hg:getI (bts s) q=G
   have HG:Shut (getI (bts s) q=G):=⟨hg⟩
   have HG1:Shut (O=(match G with
    | none=>none
    | some (n,q')=>match getN (bts s) j q' with
     | none=>none
     | some (l2,r)=>some (n :: l2,r)).map fun x:List Int × Nat=>(l++x.1,x.2)):=⟨by
    rw [HG0.out,getN,hg]
    cases G with
    | none=>rfl
    | some x=>rfl⟩
   have hqb:∀ n q',G=some (n,q')→q'≤s.size:=fun n q' e=>getI_le (hg.trans e)
   clear hg HG0 HO H0
   cases G with
   | none =>
    have HGI:Shut (intV (getI (bts s) q)=.tuple #[.int .i64 0,.int .i64 0,.int .i64 10]):=⟨by rw [HG.out];rfl⟩
    clear HG hqb
    go_upto_region 4 with fail
    refine reg_mix (Fr [] wr) [0,1,2,3,4,5,6,7,8,9,10,11,12,13,14,15] (by kernel_rfl) (by kernel_rfl) (by kernel_rfl) rfl (Fr.drew _ _) ?_
    have FC:Fr [] wr wr.drew:=Fr.drew _ _
    generalize wr.drew=WC at FC ⊢
    iterate 8 (refine mix_take1 (v:=?_) rfl rfl rfl rfl (fun w hS=>?_) ?_;rotate_left;(focus (have X:=hS.keep HB.out (by simp);have x0:World.cell? _ ⟨rb,0,none⟩=some (.string s):=qd X 0;have x1:World.cell? _ ⟨rb,1,none⟩=some (.int .i64 q):=qd X 1;clear X;clear hS;go_simp;rfl));simp only [qu,qv,qx])
    refine mix_do rfl rfl rfl (fun K hK=>?_)
    go_simp
    refine (int_c s q hq (by omega) _).mono ?_
    rintro e w00 ⟨rfl,rfl⟩
    rw [HGI.out]
    refine hK _ _ FC ?_
    clear hK K
    try simp only [Act.put,qu,qv,qx]
    iterate 7 (refine mix_take1 (v:=?_) rfl rfl rfl rfl (fun w hS=>?_) ?_;rotate_left;(focus (clear hS;go_simp;rfl));simp only [qu,qv,qx])
    refine mix_end ?_
    have HE:Shut (O=none):=⟨HG1.out⟩
    clear HG1 HGI
    go_wp2_with fail
    refine (must_bad _).mono ?_
    rintro e w9 ⟨rfl,rfl⟩
    go_wp2_with fail
    refine ⟨rfl,?_⟩
    rw [HE.out]
    exact ⟨rfl,HY.out.fr.trans (FC.mono (by simp))⟩
   | some x =>
    obtain ⟨n,q'⟩:=x
    have hq':=hqb n q' rfl
    have HGI:Shut (intV (getI (bts s) q)=.tuple #[.int .i64 n,.int .i64 q',.int .i64 0]):=⟨by rw [HG.out];rfl⟩
    clear hqb HG
    go_upto_region 4 with fail
    refine reg_mix (Fr [] wr) [0,1,2,3,4,5,6,7,8,9,10,11,12,13,14,15] (by kernel_rfl) (by kernel_rfl) (by kernel_rfl) rfl (Fr.drew _ _) ?_
    have FC:Fr [] wr wr.drew:=Fr.drew _ _
    generalize wr.drew=WC at FC ⊢
    iterate 8 (refine mix_take1 (v:=?_) rfl rfl rfl rfl (fun w hS=>?_) ?_;rotate_left;(focus (have X:=hS.keep HB.out (by simp);have x0:World.cell? _ ⟨rb,0,none⟩=some (.string s):=qd X 0;have x1:World.cell? _ ⟨rb,1,none⟩=some (.int .i64 q):=qd X 1;clear X;clear hS;go_simp;rfl));simp only [qu,qv,qx])
    refine mix_do rfl rfl rfl (fun K hK=>?_)
    go_simp
    refine (int_c s q hq (by omega) _).mono ?_
    rintro e w00 ⟨rfl,rfl⟩
    rw [HGI.out]
    refine hK _ _ FC ?_
    clear hK K
    try simp only [Act.put,qu,qv,qx]
    iterate 7 (refine mix_take1 (v:=?_) rfl rfl rfl rfl (fun w hS=>?_) ?_;rotate_left;(focus (clear hS;go_simp;rfl));simp only [qu,qv,qx])
    refine mix_end ?_
    clear HGI
    have HYC:=qj (HY.out.same FC)
    have HBC:=qj (FC.keep HB.out (by simp))
    clear FC HY HB
    go_wp2_with fail
    refine (must_ok _).mono ?_
    rintro e w9 ⟨rfl,rfl⟩
    go_wp2_with (first | ((with_reducible refine wpList_of_wp (o:=⟨some 32,_,_,_,_,_⟩) rfl (fun K hK=>?_));apply stopD;case _other=>exact trivial))
    (refine stopD ?_ ?_;rotate_left;exact trivial)
    have H1:=qj (HYC.out.same (Fr.alloc [] WC (.cells #[.int .i64 n] 3)))
    have G1:=qm WC (.cells #[.int .i64 n] 3)
    have HBA:=qj (heap_alloc_old (.cells #[.int .i64 n] 3) HBC.out)
    refine wp_ri_app (.tmp 29) (.tmp 31) rfl (.slice va l.length vc) l n WC.heap.size rfl rfl H1.out G1 (by omega) ?_
    intro v2 W2 h2 f2
    refine hK _ _ ?_
    clear hK K
    have hb2:=f2.keep HBA.out (fun hm=>by have:=H1.out.young rb (by simpa using hm);omega)
    have x1:=qd hb2 1
    have y1:=ql hb2 1
    have HB3:=qj (qs (i:=1) (.int .i64 q') hb2)
    have HY3:=qj (h2.upd (Fr.setCell (fp:=[rb]) (p:=⟨rb,1,none⟩) W2 (.int .i64 q') (by simp)) (by simpa using hlt))
    clear h2 f2 hb2 H1 G1 HBA HYC HBC
    go_wp2_with fail
    go_roundw
    case rel=>exact ⟨l.length+1,q',l++[n],by go_num,by omega,by simp,hq',⟨by
     rw [HG1.out,hj2]
     cases getN (bts s) j q' with
     | none=>rfl
     | some y=>simp⟩,HB3,HY3⟩
    case measure=>simp [RowKit.intOf];omega
  ·have hk2:many - l.length=0:=by omega
   have HE:Shut (O=some (l,q)):=⟨by rw [HG0.out,hk2];simp [getN]⟩
   obtain rfl:l.length=many:=by omega
   clear HG0 HO
   go_wp2_with fail
   go_ret
   rw [HE.out]
   exact ⟨_,rfl,HY.out,HB.out⟩
end
end Go.Proofs.YtledkokhghjfmaaGreatDoor
