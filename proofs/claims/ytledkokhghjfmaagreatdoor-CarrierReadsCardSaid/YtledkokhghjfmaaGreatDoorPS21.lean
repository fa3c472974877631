/-
  carrier: Valid, of a setup; the key of a peer.
-/
import Derived.Test.YtledkokhghjfmaaGreatDoorPS17
import Derived.Test.YtledkokhghjfmaaGreatDoorPCX
import Derived.Test.YtledkokhghjfmaaGreatDoorPS20
import Derived.Test.YtledkokhghjfmaaGreatDoorPS19
import Derived.Deep.LoopGhost
namespace Go.Proofs.YtledkokhghjfmaaGreatDoor
section
open Go.RowKit Go.Lib
structure Su where
 own:Int
 bks:List Bk
 ra:Int
 rc:Int
 rs:Int
 rr:Int
 keys:List ByteArray
abbrev suC (s:Su) (bv kv:Value):List Value:=[.int .i64 s.own,bv,.int .i64 s.ra,.int .i64 s.rc,.int .i64 s.rs,.int .i64 s.rr,kv]
abbrev suV (s:Su) (bv kv:Value):Value:=.agg (suC s bv kv).toArray
structure SuAt (w:World) (bv kv:Value) (s:Su):Prop where
 bks:Sl w bv s.bks.length (s.bks.flatMap bkC)
 keys:Sl w kv s.keys.length (s.keys.map Value.string)
 bn:s.bks.length≤1000000
 kn:s.keys.length≤1000000
theorem SuAt.same {w w':World} {bv kv:Value} {s:Su} (h:SuAt w bv kv s) (hf:Fr [] w w'):SuAt w' bv kv s:=⟨h.bks.same hf,h.keys.same hf,h.bn,h.kn⟩
def noneK (l:List ByteArray) (k:Nat):Bool:=!decide ((l.getD k ByteArray.empty).size=32)
def otherK (n:Int) (l:List Bk) (k:Nat):Bool:=!inB (l.getD k default).car 0 (n - 1)
def suOk (s:Su):Bool:=inB s.keys.length 1 4 && inB s.own 0 ((s.keys.length:Int) - 1) && !anyN (noneK s.keys) s.keys.length && validBk s.bks && !anyN (otherK s.keys.length s.bks) s.bks.length && rulB s.ra s.rc s.rs s.rr
theorem caValid1_c (s:ByteArray) (w:World):Calls Tryz.prog 61 #[.string s] w fun e w'=>e=.returned (.bool (!decide (s.size=32)))∧w'=w:=by
 have hsz:s.size≤1000000000000000000∨1000000000000000000 < s.size:=by omega
 have hne:(!decide ((s.size:Int)=32))=!decide (s.size=32):=by rw [Bool.eq_iff_iff];simp;omega
 go_enter Tryz.func61,Tryz.ntmps61
 go_wp2_with fail
 go_ret
 exact ⟨by rw [← hne];show Ending.returned (.bool ((s.size:Int) != 32))=_;rw [bne,BEq.beq,instBEqOfDecidableEq],rfl⟩
set_option maxRecDepth 100000 in
theorem caValid2_c (n:Int) (hn:-1000000≤n∧n≤1000000) (b:Bk) (bn:Nat) (w:World) (h:w.heap[bn]?=some (.cells #[.int .i64 n] 3 (0,0))):Calls Tryz.prog 62 #[bkV b,.pointer (some ⟨bn,0,none⟩)] w fun e w'=>e=.returned (.bool (!inB b.car 0 (n - 1)))∧Fr [] w w':=by
 obtain ⟨b0,b1,b2⟩:=b
 have c0:=heap_alloc_old (.cells #[.int .i64 b0,.int .i64 b1,.int .i64 b2] 99) h
 have g0:=qd c0 0
 have CW:=qj fun (n lo hi:Int) (W:World)=>caIsWithin_c n lo hi W
 go_enter Tryz.func62,Tryz.ntmps62
 go_wp2_with fail
 refine (CW.out _ _ _ _).mono ?_
 rintro e w1 ⟨rfl,rfl⟩
 go_wp2_with fail
 go_ret
 exact ⟨rfl,Fr.alloc _ _ _⟩
set_option maxRecDepth 100000 in
set_option maxHeartbeats 4000000 in
theorem caValid_c (s:Su) (bv kv:Value) (w:World) (h:SuAt w bv kv s) :
  Calls Tryz.prog 26 #[suV s bv kv] w fun e w'=>e=.returned (.bool (suOk s))∧Fr [] w w':=by
 obtain ⟨ad,cap,rfl⟩:=h.bks.val
 obtain ⟨kd,kap,rfl⟩:=h.keys.val
 obtain ⟨F2,B1,B2⟩:=two_more w (.cells (suC s (.slice ad s.bks.length cap) (.slice kd s.keys.length kap)).toArray 48) (.cells #[.int .i64 (s.keys.length:Int)] 3)
 have hbn:=h.bn;have hkn:=h.kn
 have CW:=qj fun (n lo hi:Int) (W:World)=>caIsWithin_c n lo hi W
 have CK:=qj fun W (hf:Fr [] w W)=>cfSt_c 61 #[] (fun _ _=>rfl) kd kap s.keys (noneK s.keys) (fun _ V=>Fr [] W V) W
  (fun j V hJ=>(h.keys.same hf).same hJ) (fun j V _ _ hJ=>(caValid1_c _ V).mono fun e V' ⟨he,hw⟩=>⟨he,hw ▸ hJ⟩) (Fr.refl _ _)
 have CB:=qj fun W (hf:Fr [] w W)=>bkValid_c (.slice ad s.bks.length cap) s.bks W (h.bks.same hf) hbn
 have CO:=qj fun W (hf:Fr [] w W) bn (hb:W.heap[bn]?=some (.cells #[.int .i64 (s.keys.length:Int)] 3 (0,0)))=>cfBk_c 62 #[.pointer (some ⟨bn,0,none⟩)] (fun _ _=>rfl) ad cap s.bks (otherK s.keys.length s.bks) (fun _ V=>Fr [] W V) W
  (fun j V hJ=>(h.bks.same hf).same hJ) (fun j V _ _ hJ=>(caValid2_c (s.keys.length:Int) (by omega) _ bn V (hJ.keep hb (by simp))).mono fun e V' ⟨he,hw⟩=>⟨he,hJ.trans hw⟩) (Fr.refl _ _)
 have CC:=qj fun W=>clValid_c s.ra s.rc s.rs s.rr 0 0 1 0 0 false (.slice none 0 0) [] W (Sl.nil W) (by simp)
 have HF2:=qj F2;have HB:=qj (And.intro B1 B2)
 unfold suOk
 obtain ⟨ow,bl,ra,rc,rs,rr,kl⟩:=s
 simp only at *
 generalize hx1:inB (kl.length:Int) 1 4=x1 at *
 generalize hx2:inB ow 0 ((kl.length:Int) - 1)=x2 at *
 generalize anyN (noneK kl) kl.length=x3 at *
 generalize validBk bl=x4 at *
 generalize anyN (otherK kl.length bl) bl.length=x5 at *
 have hx6:(rulB ra rc rs rr && cmB 0 0 1 0 0 && decide (([]:List Ev).length≤20) && evsGo 0 [])=rulB ra rc rs rr:=by
  cases rulB ra rc rs rr <;> rfl
 simp only [hx6] at CC
 generalize rulB ra rc rs rr=x6 at *
 have c0:=qd B1 0;have c1:=qd B1 1;have c2:=qd B1 2;have c3:=qd B1 3;have c4:=qd B1 4;have c5:=qd B1 5;have c6:=qd B1 6
 have d0:=qd B2 0
 clear F2 B1 B2 h hx6
 go_enter Tryz.func26,Tryz.ntmps26
 go_wp2_with fail
 generalize (w.alloc (Obj.cells (suC ⟨ow,bl,ra,rc,rs,rr,kl⟩ (.slice ad bl.length cap) (.slice kd kl.length kap)).toArray 48)).alloc (.cells #[.int .i64 (kl.length:Int)] 3)=W at *
 refine (CW.out _ _ _ _).mono ?_
 rintro e w1 ⟨rfl,rfl⟩
 rw [hx1]
 cases x1 with
 | false =>
  go_wp2_with fail
  go_ret
  exact ⟨by simp,HF2.out⟩
 | true =>
  go_wp2_with fail
  refine (CW.out _ _ _ _).mono ?_
  rintro e w1 ⟨rfl,rfl⟩
  rw [hx2]
  cases x2 with
  | false =>
   go_wp2_with fail
   go_ret
   exact ⟨by simp,HF2.out⟩
  | true =>
   go_wp2_with fail
   refine (CK.out _ HF2.out).mono ?_
   rintro e w2 ⟨rfl,_,f2⟩
   have HF3:=qj (HF2.out.trans f2)
   have HB2:=qj (And.intro (f2.keep HB.out.1 (by simp)) (f2.keep HB.out.2 (by simp)))
   have c1:=qd HB2.out.1 1;have c2:=qd HB2.out.1 2;have c3:=qd HB2.out.1 3;have c4:=qd HB2.out.1 4;have c5:=qd HB2.out.1 5
   have d0:=qd HB2.out.2 0
   clear f2 CK
   cases x3 with
   | true =>
    go_wp2_with fail
    go_ret
    exact ⟨by simp,HF3.out⟩
   | false =>
    go_wp2_with fail
    refine (CB.out _ HF3.out).mono ?_
    rintro e w3 ⟨rfl,f3⟩
    have HF4:=qj (HF3.out.trans f3)
    have HB3:=qj (And.intro (f3.keep HB2.out.1 (by simp)) (f3.keep HB2.out.2 (by simp)))
    have c1:=qd HB3.out.1 1;have c2:=qd HB3.out.1 2;have c3:=qd HB3.out.1 3;have c4:=qd HB3.out.1 4;have c5:=qd HB3.out.1 5
    have d0:=qd HB3.out.2 0
    clear f3 CB
    cases x4 with
    | false =>
     go_wp2_with fail
     go_ret
     exact ⟨by simp,HF4.out⟩
    | true =>
     go_wp2_with fail
     refine (CO.out _ HF4.out _ HB3.out.2).mono ?_
     rintro e w4 ⟨rfl,_,f4⟩
     have HF5:=qj (HF4.out.trans f4)
     have HB4:=qj (f4.keep HB3.out.1 (by simp))
     have c2:=qd HB4.out 2;have c3:=qd HB4.out 3;have c4:=qd HB4.out 4;have c5:=qd HB4.out 5
     clear f4 CO
     cases x5 with
     | true =>
      go_wp2_with fail
      go_ret
      exact ⟨by simp,HF5.out⟩
     | false =>
      go_wp2_with fail
      refine (CC.out _).mono ?_
      rintro e w5 ⟨rfl,f5⟩
      have HF6:=qj (HF5.out.trans f5)
      clear f5
      go_wp2_with fail
      go_ret
      exact ⟨by simp,HF6.out⟩
end
section
open Go.RowKit Go.Lib
def keyM (l:List ByteArray) (f:Nat) (t:Int):ByteArray:=nodeM (l.getD f ByteArray.empty) (leafM (putA [t]))
theorem sl_one {w:World} {b:Nat} {x:Int} {e:TypeId} (h:w.heap[b]?=some (.cells #[.int .i64 x] e (0,0))):Sl w (.slice (some ⟨b,0,none⟩) 1 1) 1 [.int .i64 x] :=
 sl_blk (cs:=[.int .i64 x]) h rfl (by omega)
set_option maxRecDepth 100000 in
set_option maxHeartbeats 4000000 in
theorem caKey_c (s:Su) (bv kv:Value) (f:Nat) (t:Int) (w:World) (h:SuAt w bv kv s) (hf:f < s.keys.length) (ht:0≤t∧t≤1000) (hk:(s.keys.getD f ByteArray.empty).size≤1000000) (hR:RndAt w) :
  Calls Tryz.prog 43 #[suV s bv kv,.int .i64 (f:Int),.int .i64 t] w fun e w'=>e=.returned (.string (keyM s.keys f t))∧Fr [] w w':=by
 obtain ⟨ad,cap,rfl⟩:=h.bks.val
 obtain ⟨kd,kap,rfl⟩:=h.keys.val
 have F1:=Fr.alloc [] w (.cells (suC s (.slice ad s.bks.length cap) (.slice kd s.keys.length kap)).toArray 48)
 have B1:=qm w (.cells (suC s (.slice ad s.bks.length cap) (.slice kd s.keys.length kap)).toArray 48)
 obtain ⟨kb,ko,rfl,hcl⟩:=h.keys.at_ (by omega)
 have hkc:w.cell? ⟨kb,ko+f,none⟩=some (.string (s.keys.getD f ByteArray.empty)):=hcl f _ (by simp [List.getElem?_eq_getElem hf])
 have hkc1:=F1.cel hkc (by simp)
 have CT:=qj fun (W:World) (bk:Nat) (hb:W.heap[bk]?=some (.cells #[.int .i64 t] 3 (0,0)))=>caText_c (.slice (some ⟨bk,0,none⟩) 1 1) [t] W (sl_one hb) (by simp;omega) (by simp)
 have CL:=qj fun (W:World) (hw:Fr [] w W)=>leaf_c (str (putA [t])) (by rw [str_size];have h9:=putA_len [t] (by simp;omega);simp only [List.length_cons,List.length_nil] at h9;omega) W (hR.same hw (by simp))
 have CN:=qj fun (W:World) (hw:Fr [] w W)=>node_c (s.keys.getD f ByteArray.empty) (leafM (putA [t])) (by have:(leafM (putA [t])).size=32:=shaB_size _;omega) W (hR.same hw (by simp))
 rw [show keyM s.keys f t=nodeM (s.keys.getD f ByteArray.empty) (leafM (putA [t])) from rfl]
 rw [bts_str] at CL
 have hbn:=h.bn;have hkn:=h.kn
 have hcp:s.keys.length≤kap∧kap≤9223372036854775807:=h.keys.caps3
 generalize leafM (putA [t])=L at *
 generalize nodeM (s.keys.getD f ByteArray.empty) L=N at *
 generalize s.keys.getD f ByteArray.empty=K0 at *
 generalize str (putA [t])=P at *
 have HF1:=qj F1
 obtain ⟨ow,bl,ra,rc,rs,rr,kl⟩:=s
 simp only at *
 have c6:=qd B1 6
 clear F1 B1 h hcl hkc hR hk
 generalize kl.length=n at *
 go_enter Tryz.func43,Tryz.ntmps43
 go_wp2_with fail
 generalize w.alloc (Obj.cells (suC ⟨ow,bl,ra,rc,rs,rr,kl⟩ (.slice ad bl.length cap) (.slice (some ⟨kb,ko,none⟩) n kap)).toArray 48)=W at *
 refine reg_mix (Fr [] W) [0,1,2,3,4,5,6,7,8,9,10] (by kernel_rfl) (by kernel_rfl) (by kernel_rfl) rfl (Fr.drew _ _) ?_
 have FC:Fr [] W W.drew:=Fr.drew _ _
 generalize W.drew=WC at FC ⊢
 iterate 6 (refine mix_take1 (v:=?_) rfl rfl rfl rfl (fun w hS=>?_) ?_;rotate_left;(focus (have c6:=hS.cel c6 (by simp);have hkc1:=hS.cel hkc1 (by simp);clear hS;go_simp;rfl));simp only [qu,qv,qx])
 refine mix_do rfl rfl rfl (fun K hK=>?_)
 go_simp
 have FA:=Fr.alloc [] WC (.cells #[.int .i64 t] 3)
 have BA:=qj (qm WC (.cells #[.int .i64 t] 3))
 have CT2:=qj (CT.out _ _ BA.out)
 have FC:=FC.trans FA
 refine hK _ _ FC ?_
 clear hK K FA BA
 try simp only [Act.put,qu,qv,qx]
 generalize WC.alloc (.cells #[.int .i64 t] 3)=WD at *
 refine mix_do rfl rfl rfl (fun K hK=>?_)
 go_simp
 refine CT2.out.mono ?_
 rintro e wq ⟨rfl,fq⟩
 have FC:=FC.trans fq
 refine hK _ _ FC ?_
 clear hK K fq
 try simp only [Act.put,qu,qv,qx]
 refine mix_do rfl rfl rfl (fun K hK=>?_)
 go_simp
 refine (CL.out _ (HF1.out.trans FC)).mono ?_
 rintro e wr ⟨rfl,fq⟩
 have FC:=FC.trans fq
 refine hK _ _ FC ?_
 clear hK K fq
 try simp only [Act.put,qu,qv,qx]
 refine mix_do rfl rfl rfl (fun K hK=>?_)
 go_simp
 refine (CN.out _ (HF1.out.trans FC)).mono ?_
 rintro e ws ⟨rfl,fq⟩
 have FC:=FC.trans fq
 refine hK _ _ FC ?_
 clear hK K fq
 try simp only [Act.put,qu,qv,qx]
 (refine mix_take1 (v:=?_) rfl rfl rfl rfl (fun w hS=>?_) ?_;rotate_left;(focus (clear hS;go_simp;rfl));simp only [qu,qv,qx])
 refine mix_end ?_
 have HF:=qj (HF1.out.trans FC)
 clear FC c6 hkc1
 go_wp2_with fail
 go_ret
 exact ⟨rfl,HF.out⟩
end
section
open Go.RowKit Go.Lib
structure EnR where
 p:Int
 eb:Nat
 mb:Nat
 vs:Value
 E:En
abbrev EnR.B (r:EnR):List Nat:=enB r.eb r.mb r.vs
abbrev EnR.put (r:EnR) (vs:Value) (E:En):EnR:=⟨r.p,r.eb,r.mb,vs,E⟩
def enFp (L:List EnR):List Nat:=L.flatMap EnR.B
def epV (L:List EnR):List (Int × Value):=L.map fun r=>(r.p,.pointer (some ⟨r.eb,0,none⟩))
structure EnsIn (w:World) (L:List EnR):Prop where
 all:∀ r,r∈L→EnIn w r.eb r.mb r.vs r.E
 apart:L.Pairwise fun r s=>∀ k,k∈r.B→k∉s.B
theorem enFp_mem {L:List EnR} {r:EnR} (h:r∈L) {k:Nat} (hk:k∈r.B):k∈enFp L:=List.mem_flatMap.2 ⟨r,h,hk⟩
theorem epV_put (A B:List EnR) (r:EnR) (vs:Value) (E:En):epV (A++r.put vs E :: B)=epV (A++r :: B):=by simp [epV]
theorem EnsIn.fr {w w':World} {L:List EnR} {S:List Nat} (h:EnsIn w L) (hf:Fr S w w') (hS:∀ k,k∈enFp L→k∉S):EnsIn w' L :=
 ⟨fun r hr=>(h.all r hr).fr hf fun k hk=>hS k (enFp_mem hr hk),h.apart⟩
theorem EnsIn.lt {w:World} {L:List EnR} (h:EnsIn w L) {k:Nat} (hk:k∈enFp L):k < w.heap.size:=by
 obtain ⟨r,hr,hk⟩:=List.mem_flatMap.1 hk
 exact (h.all r hr).lt k hk
theorem EnsIn.put {w w':World} {A B:List EnR} {r:EnR} (h:EnsIn w (A++r :: B)) {vs:Value} {E:En} (hE:EnIn w' r.eb r.mb vs E) (hU:Upd r.B (enB r.eb r.mb vs) w w'):EnsIn w' (A++r.put vs E :: B):=by
 obtain ⟨h1,h2,h3⟩:=List.pairwise_append.1 h.apart
 obtain ⟨h4,h5⟩:=List.pairwise_cons.1 h2
 have low:∀ s,s∈A++r :: B→∀ k,k∈s.B→k < w.heap.size:=fun s hs k hk=>(h.all s hs).lt k hk
 have far:∀ s,s∈A∨s∈B→(∀ k,k∈s.B→k∉r.B)∧(∀ k,k∈r.B→k∉s.B):=fun s hs=>by
  rcases hs with hs | hs
  ·exact ⟨h3 s hs r (by simp),fun k hk hm=>h3 s hs r (by simp) k hm hk⟩
  ·exact ⟨fun k hk hm=>h4 s hs k hm hk,h4 s hs⟩
 refine ⟨fun s hs=>?_,?_⟩
 ·rcases List.mem_append.1 hs with hs | hs
  ·exact (h.all s (by simp [hs])).fr hU.fr (far s (.inl hs)).1
  ·rcases List.mem_cons.1 hs with rfl | hs
   ·exact hE
   ·exact (h.all s (by simp [hs])).fr hU.fr (far s (.inr hs)).1
 ·refine List.pairwise_append.2 ⟨h1,List.pairwise_cons.2 ⟨fun s hs k hk hm=>?_,h5⟩,fun s hs t ht k hk hm=>?_⟩
  ·rcases hU.2 k hk with h6 | h6
   ·exact (far s (.inr hs)).2 k h6 hm
   ·have:=low s (by simp [hs]) k hm;omega
  ·rcases List.mem_cons.1 ht with rfl | ht
   ·rcases hU.2 k hm with h6 | h6
    ·exact (far s (.inl hs)).1 k hk h6
    ·have:=low s (by simp [hs]) k hk;omega
   ·exact h3 s hs t (by simp [ht]) k hk hm
theorem enFp_put {A B:List EnR} {r:EnR} {vs:Value} {E:En} {w w':World} (hU:Upd r.B (enB r.eb r.mb vs) w w'):Upd (enFp (A++r :: B)) (enFp (A++r.put vs E :: B)) w w' :=
 ⟨hU.fr.mono fun k hk=>enFp_mem (by simp) hk,fun k hk=>by
  simp only [enFp,List.flatMap_append,List.flatMap_cons,List.mem_append] at hk ⊢
  rcases hk with hk | hk | hk
  ·exact .inl (.inl hk)
  ·rcases hU.2 k hk with h | h
   ·exact .inl (.inr (.inl h))
   ·exact .inr h
  ·exact .inl (.inr (.inr hk))⟩
structure CaR where
 cb:Nat
 jb:Nat
 nb:Nat
 mb:Nat
 bv:Value
 kv:Value
 L:List EnR
 nts:List (Nt × Bool)
 added:Nat
 br:Bool
abbrev caC (s:Su) (x:CaR):List Value:=[.pointer (some ⟨x.jb,0,none⟩),.int .i64 s.own,x.bv,.int .i64 s.ra,.int .i64 s.rc,.int .i64 s.rs,.int .i64 s.rr,x.kv,.map (some x.nb),.map (some x.mb),.int .i64 (x.added:Int),.bool x.br]
abbrev caB (x:CaR):List Nat:=x.cb :: x.nb :: x.mb :: enFp x.L
structure CaIn (w:World) (s:Su) (x:CaR):Prop where
 blk:w.heap[x.cb]?=some (.cells (caC s x).toArray 106 (0,0))
 nts:MpAt ntV w x.nb (mapV Value.bool x.nts)
 ends:MpAt (fun a:Int=>Value.int .i64 a) w x.mb (epV x.L)
 ens:EnsIn w x.L
 nm:x.nb≠x.mb
 dis:x.cb∉enFp x.L∧x.nb∉enFp x.L∧x.mb∉enFp x.L
 su:SuAt w x.bv x.kv s
 suA:∀ g,(x.bv.ownBlock=some g∨x.kv.ownBlock=some g)→g < w.heap.size∧g∉caB x
theorem CaIn.ne {w:World} {s:Su} {x:CaR} (h:CaIn w s x):x.cb≠x.nb∧x.cb≠x.mb:=by
 have hb:=h.blk
 constructor
 ·intro e
  obtain ⟨es,c,h1,_⟩:=h.nts.blk
  rw [← e,hb] at h1;cases h1
 ·intro e
  obtain ⟨es,c,h1,_⟩:=h.ends.blk
  rw [← e,hb] at h1;cases h1
theorem CaIn.lt {w:World} {s:Su} {x:CaR} (h:CaIn w s x) {k:Nat} (hk:k∈caB x):k < w.heap.size:=by
 simp only [List.mem_cons] at hk
 rcases hk with rfl | rfl | rfl | hk
 ·exact blk_lt h.blk
 ·exact h.nts.lt
 ·exact h.ends.lt
 ·exact h.ens.lt hk
theorem SuAt.fr {w w':World} {bv kv:Value} {s:Su} {S:List Nat} (h:SuAt w bv kv s) (hf:Fr S w w') (hS:∀ g,(bv.ownBlock=some g∨kv.ownBlock=some g)→g∉S):SuAt w' bv kv s :=
 ⟨h.bks.fr hf fun g hg=>hS g (.inl hg),h.keys.fr hf fun g hg=>hS g (.inr hg),h.bn,h.kn⟩
theorem CaIn.fr {w w':World} {s:Su} {x:CaR} {S:List Nat} (h:CaIn w s x) (hf:Fr S w w') (hS:∀ k,k∈caB x→k∉S) (hA:∀ g,(x.bv.ownBlock=some g∨x.kv.ownBlock=some g)→g∉S):CaIn w' s x :=
 ⟨hf.keep h.blk (hS _ (by simp)),h.nts.keep hf (hS _ (by simp)),h.ends.keep hf (hS _ (by simp)),h.ens.fr hf fun k hk=>hS k (by simp [hk]),h.nm,h.dis,h.su.fr hf hA,fun g hg=>⟨Nat.lt_of_lt_of_le (h.suA g hg).1 hf.size,(h.suA g hg).2⟩⟩
theorem CaIn.same {w w':World} {s:Su} {x:CaR} (h:CaIn w s x) (hf:Fr [] w w'):CaIn w' s x:=h.fr hf (by simp) (by simp)
theorem CaIn.own {w w':World} {s:Su} {x:CaR} (h:CaIn w s x) (hf:Fr [x.cb] w w') {ad:Nat} {br:Bool} (hb:w'.heap[x.cb]?=some (.cells (caC s { x with added:=ad,br:=br }).toArray 106 (0,0))):CaIn w' s { x with added:=ad,br:=br } :=
 ⟨hb,h.nts.keep hf (by simpa using h.ne.1.symm),h.ends.keep hf (by simpa using h.ne.2.symm),h.ens.fr hf (fun k hk hm=>by simp at hm;subst hm;exact h.dis.1 hk),h.nm,h.dis,h.su.fr hf (fun g hg hm=>by simp at hm;subst hm;exact (h.suA _ hg).2 (by simp)),fun g hg=>⟨Nat.lt_of_lt_of_le (h.suA g hg).1 hf.size,(h.suA g hg).2⟩⟩
theorem CaIn.note {w w':World} {s:Su} {x:CaR} (h:CaIn w s x) (hf:Fr [x.nb] w w') {ns:List (Nt × Bool)} (hb:MpAt ntV w' x.nb (mapV Value.bool ns)):CaIn w' s { x with nts:=ns } :=
 ⟨hf.keep h.blk (by simpa using h.ne.1),hb,h.ends.keep hf (by simpa using h.nm.symm),h.ens.fr hf (fun k hk hm=>by simp at hm;subst hm;exact h.dis.2.1 hk),h.nm,h.dis,h.su.fr hf (fun g hg hm=>by simp at hm;subst hm;exact (h.suA _ hg).2 (by simp)),fun g hg=>⟨Nat.lt_of_lt_of_le (h.suA g hg).1 hf.size,(h.suA g hg).2⟩⟩
theorem CaIn.endp {w w':World} {s:Su} {x:CaR} {A B:List EnR} {r:EnR} (h:CaIn w s x) (hL:x.L=A++r :: B) {vs:Value} {E:En} (hE:EnIn w' r.eb r.mb vs E) (hU:Upd r.B (enB r.eb r.mb vs) w w') :
  CaIn w' s { x with L:=A++r.put vs E :: B }∧Upd (caB x) (caB { x with L:=A++r.put vs E :: B }) w w':=by
 have hU2:=enFp_put (A:=A) (B:=B) (E:=E) hU
 have hrs:∀ k,k∈r.B→k∈enFp x.L:=fun k hk=>by rw [hL];exact enFp_mem (by simp) hk
 have hin:∀ k,k∈enFp (A++r.put vs E :: B)→k∈enFp x.L∨w.heap.size≤k:=fun k hk=>by rw [hL];exact hU2.2 k hk
 have he:=h.ens
 rw [hL] at he
 have cbl:=h.lt (k:=x.cb) (by simp);have nbl:=h.lt (k:=x.nb) (by simp);have mbl:=h.lt (k:=x.mb) (by simp)
 refine ⟨⟨hU.fr.keep h.blk fun hm=>h.dis.1 (hrs _ hm),h.nts.keep hU.fr fun hm=>h.dis.2.1 (hrs _ hm),?_,he.put hE hU,h.nm,⟨?_,?_,?_⟩,h.su.fr hU.fr fun g hg hm=>(h.suA g hg).2 (by simp [hrs _ hm]),fun g hg=>⟨Nat.lt_of_lt_of_le (h.suA g hg).1 hU.fr.size,fun hm=>?_⟩⟩,?_⟩
 ·show MpAt _ w' x.mb (epV (A++r.put vs E :: B))
  rw [epV_put,← hL]
  exact h.ends.keep hU.fr fun hm=>h.dis.2.2 (hrs _ hm)
 ·intro hm
  rcases hin _ hm with h1 | h1
  ·exact h.dis.1 h1
  ·exact absurd cbl (Nat.not_lt.2 h1)
 ·intro hm
  rcases hin _ hm with h1 | h1
  ·exact h.dis.2.1 h1
  ·exact absurd nbl (Nat.not_lt.2 h1)
 ·intro hm
  rcases hin _ hm with h1 | h1
  ·exact h.dis.2.2 h1
  ·exact absurd mbl (Nat.not_lt.2 h1)
 ·obtain ⟨h1,h2⟩:=h.suA g hg
  simp only [List.mem_cons] at hm h2
  rcases hm with rfl | rfl | rfl | hm
  ·exact h2 (.inl rfl)
  ·exact h2 (.inr (.inl rfl))
  ·exact h2 (.inr (.inr (.inl rfl)))
  ·rcases hin _ hm with h3 | h3
   ·exact h2 (.inr (.inr (.inr h3)))
   ·omega
 ·refine ⟨hU.fr.mono fun k hk=>by simp [hrs k hk],fun k hk=>?_⟩
  simp only [List.mem_cons] at hk ⊢
  rcases hk with rfl | rfl | rfl | hk
  ·exact .inl (.inl rfl)
  ·exact .inl (.inr (.inl rfl))
  ·exact .inl (.inr (.inr (.inl rfl)))
  ·rcases hin _ hk with h3 | h3
   ·exact .inl (.inr (.inr (.inr h3)))
   ·exact .inr h3
set_option maxRecDepth 100000 in
set_option maxHeartbeats 2000000 in
theorem caCanAdd_c {w:World} {s:Su} {x:CaR} (h:CaIn w s x) (t:Nt) (hx:x.added≤1000000) :
  Calls Tryz.prog 38 #[.pointer (some ⟨x.cb,0,none⟩),ntV t] w fun e w'=>e=.returned (.bool (fmN t && decide (t.src=s.own) && decide (x.added < 40)))∧Fr [] w w':=by
 have B1:=qm w (.cells #[Value.int .i64 t.src,Value.int .i64 t.kind,Value.int .i64 t.num,Value.int .i64 t.lk,Value.int .i64 t.la,Value.int .i64 t.lh,Value.int .i64 t.cn,Value.int .i64 t.cf,Value.int .i64 t.ct,Value.int .i64 t.ch,Value.int .i64 t.ca,Value.bool t.cb,Value.int .i64 t.ek,Value.int .i64 t.ea,Value.int .i64 t.er] 31)
 have F1:=Fr.alloc [] w (.cells #[Value.int .i64 t.src,Value.int .i64 t.kind,Value.int .i64 t.num,Value.int .i64 t.lk,Value.int .i64 t.la,Value.int .i64 t.lh,Value.int .i64 t.cn,Value.int .i64 t.cf,Value.int .i64 t.ct,Value.int .i64 t.ch,Value.int .i64 t.ca,Value.bool t.cb,Value.int .i64 t.ek,Value.int .i64 t.ea,Value.int .i64 t.er] 31)
 have K1:=F1.keep h.blk (by simp)
 have CI:=qj fun W=>caIsFormed_c t W
 have HB1:=qj B1
 have c0:=qd B1 0
 have x1:=qd K1 1
 have x10:=qd K1 10
 have HF1:=qj F1
 obtain ⟨xcb,xjb,xnb,xmb,xbv,xkv,xL,xn,xa,xbr⟩:=x
 have hda:decide ((xa:Int) < 40)=decide (xa < 40):=by rw [Bool.eq_iff_iff];simp;omega
 obtain ⟨ow,bl,ra,rc,rs,rr,kl⟩:=s
 simp only at *
 rw [← hda]
 clear F1 K1 B1 h hda
 generalize fmN t=b at *
 generalize hq:decide (t.src=ow)=q at *
 go_enter Tryz.func38,Tryz.ntmps38
 go_wp2_with fail
 generalize w.alloc (.cells #[Value.int .i64 t.src,Value.int .i64 t.kind,Value.int .i64 t.num,Value.int .i64 t.lk,Value.int .i64 t.la,Value.int .i64 t.lh,Value.int .i64 t.cn,Value.int .i64 t.cf,Value.int .i64 t.ct,Value.int .i64 t.ch,Value.int .i64 t.ca,Value.bool t.cb,Value.int .i64 t.ek,Value.int .i64 t.ea,Value.int .i64 t.er] 31)=W at *
 refine reg_mix (Fr [] W) [0,1,2,3,4,5,6,7,8,9,10,11,12,13,14,15,16,17,18,19] (by kernel_rfl) (by kernel_rfl) (by kernel_rfl) rfl (Fr.drew _ _) ?_
 have FC:Fr [] W (World.drew W):=Fr.drew _ _
 generalize World.drew W=WC at FC ⊢
 (refine mix_take1 (v:=?_) rfl rfl rfl rfl (fun w hS=>?_) ?_;rotate_left;(focus (have BE:=hS.keep HB1.out (by simp);have b0:=qd BE 0;have b1:=qd BE 1;have b2:=qd BE 2;have b3:=qd BE 3;have b4:=qd BE 4;have b5:=qd BE 5;have b6:=qd BE 6;have b7:=qd BE 7;have b8:=qd BE 8;have b9:=qd BE 9;have b10:=qd BE 10;have b11:=qd BE 11;have b12:=qd BE 12;have b13:=qd BE 13;have b14:=qd BE 14;clear BE;clear hS;go_simp;rfl));simp only [qu,qv,qx])
 refine mix_do rfl rfl rfl (fun K hK=>?_)
 go_simp
 refine (CI.out WC).mono ?_
 rintro e wq ⟨rfl,fq⟩
 have FC:=FC.trans fq
 refine hK _ _ FC ?_
 clear hK K fq
 try simp only [Act.put,qu,qv,qx]
 (refine mix_take1 (v:=?_) rfl rfl rfl rfl (fun w hS=>?_) ?_;rotate_left;(focus (clear hS;go_simp;rfl));simp only [qu,qv,qx])
 cases b with
 | false =>
  iterate 8 (refine mix_skipT rfl rfl rfl rfl rfl FC ?_;simp only [qu,qv,qx])
  iterate 2 (refine mix_take1 (v:=?_) rfl rfl rfl rfl (fun w hS=>?_) ?_;rotate_left;(focus (clear hS;go_simp;rfl));simp only [qu,qv,qx])
  iterate 5 (refine mix_skipT rfl rfl rfl rfl rfl FC ?_;simp only [qu,qv,qx])
  iterate 2 (refine mix_take1 (v:=?_) rfl rfl rfl rfl (fun w hS=>?_) ?_;rotate_left;(focus (clear hS;go_simp;rfl));simp only [qu,qv,qx])
  refine mix_end ?_
  have HF:=qj (HF1.out.trans FC)
  clear FC c0 x1 x10
  go_wp2_with fail
  go_ret
  exact ⟨by simp,HF.out⟩
 | true =>
  iterate 8 (refine mix_takeg (v:=?_) rfl rfl rfl rfl rfl rfl (fun w hS=>?_) ?_;rotate_left;(focus (have c0:=hS.cel c0 (by simp);have x1:=hS.cel x1 (by simp);have x10:=hS.cel x10 (by simp);clear hS;go_simp;rfl));simp only [qu,qv,qx])
  iterate 2 (refine mix_take1 (v:=?_) rfl rfl rfl rfl (fun w hS=>?_) ?_;rotate_left;(focus (clear hS;go_simp;rfl));simp only [qu,qv,qx])
  rw [show (t.src == ow)=q from hq]
  cases q with
  | false =>
   iterate 5 (refine mix_skipT rfl rfl rfl rfl rfl FC ?_;simp only [qu,qv,qx])
   iterate 2 (refine mix_take1 (v:=?_) rfl rfl rfl rfl (fun w hS=>?_) ?_;rotate_left;(focus (clear hS;go_simp;rfl));simp only [qu,qv,qx])
   refine mix_end ?_
   have HF:=qj (HF1.out.trans FC)
   clear FC c0 x1 x10
   go_wp2_with fail
   go_ret
   exact ⟨by simp,HF.out⟩
  | true =>
   iterate 5 (refine mix_takeg (v:=?_) rfl rfl rfl rfl rfl rfl (fun w hS=>?_) ?_;rotate_left;(focus (have x10:=hS.cel x10 (by simp);clear hS;go_simp;rfl));simp only [qu,qv,qx])
   iterate 2 (refine mix_take1 (v:=?_) rfl rfl rfl rfl (fun w hS=>?_) ?_;rotate_left;(focus (clear hS;go_simp;rfl));simp only [qu,qv,qx])
   refine mix_end ?_
   have HF:=qj (HF1.out.trans FC)
   clear FC c0 x1 x10
   go_wp2_with fail
   go_ret
   exact ⟨by simp,HF.out⟩
end
section
open Go.RowKit Go.Lib
open Go.ChangeMaps (setBlock)
section
variable {α:Type} {enc:α→Value} {P:Program} {r b:Nat} {l left:List (α × Value)}
theorem wp_range {o:Oper} {a:Act} {W:World} {K:Act→World→Prop} {Q:Exit→Act→World→Prop} (t k e:TypeId) (x:Operand) (ho:o.op=.range t x) (hx:a.eval x=.map (some b)) (h:MpAt enc W b l) (ht:P.underlying t=some (.map k e)) {d:Tmp} (hd:o.dst=some d)
  (hK:∀ W',Fr [] W W'→ItAt enc W' W.heap.size b l l→K { a with tmps:=a.tmps.setIfInBounds d (.pointer (some ⟨W.heap.size,0,none⟩)) } W'):o.wp P a W K Q:=by
 obtain ⟨c,h1,h2⟩:=h.range ht
 unfold Oper.wp execOp
 simp only [ho,hx,Sem.run_bind,Sem.run_pure,Result.andThen_ok,h1]
 show K (a.put o.dst _) _
 rw [hd]
 exact hK _ (Fr.alloc [] _ _) h2
theorem wp_next {o:Oper} {a:Act} {W:World} {K:Act→World→Prop} {Q:Exit→Act→World→Prop} (x:Operand) (ho:o.op=.next x false) (hx:a.eval x=.pointer (some ⟨r,0,none⟩)) (h:ItAt enc W r b l left) (hne:r≠b) {d:Tmp} (hd:o.dst=some d)
  (h0:left=[]→K { a with tmps:=a.tmps.setIfInBounds d (.tuple #[.bool false]) } W)
  (h1:∀ l1 y v l2 W',left=l1++(y,v) :: l2→Fr [r] W W'→ItAt enc W' r b l (l1++l2)→(∀ w2:World,w2.heap[r]?=W'.heap[r]?→w2.heap[b]?=W'.heap[b]?→(Instr.entry (.pointer (some ⟨r,0,none⟩))).run P w2=.ok (.tuple #[enc y,v]) w2)→K { a with tmps:=a.tmps.setIfInBounds d (.tuple #[.bool true,enc y,v]) } W'):o.wp P a W K Q:=by
 unfold Oper.wp execOp
 rcases h.next (P:=P) hne o.type with ⟨h2,h3⟩ | ⟨l1,y,v,l2,W',h2,h3,h4,_,h6,h7⟩
 ·simp only [ho,hx,Sem.run_bind,Sem.run_pure,Result.andThen_ok,h3]
  show K (a.put o.dst _) _
  rw [hd]
  exact h0 h2
 ·simp only [ho,hx,Sem.run_bind,Sem.run_pure,Result.andThen_ok,h3]
  show K (a.put o.dst _) _
  rw [hd]
  exact h1 l1 y v l2 W' h2 h4 h6 h7
end
end
section
open Go.RowKit Go.Lib
attribute [local go_sem] Oper.semAt_some
theorem txt_size {t:Nt} (h:fmN t=true):(str (txtN t)).size≤72:=by
 rw [str_size]
 have h1:=putA_len (numsN t) (nums_ok h)
 have h2:(numsN t).length≤8:=by
  unfold numsN
  split
  ·simp
  ·split <;> simp
 unfold txtN
 omega
def sendE (E:En) (s:ByteArray):En:=⟨E.key,E.oth,E.sent++[s],E.acked,E.recv,E.early⟩
def midR (s:ByteArray) (left:List Int) (q:Int→Value) (r:EnR):EnR:=if r.p∈left then r else r.put (q r.p) (sendE r.E s)
def upq (q:Int→Value) (a:Int) (v:Value):Int→Value:=fun p=>if p=a then v else q p
theorem mid_all (s:ByteArray) (q:Int→Value) (L:List EnR):L.map (midR s (L.map (·.p)) q)=L :=
 (List.map_congr_left (g:=id) fun r hr=>by unfold midR;rw [if_pos (List.mem_map.2 ⟨r,hr,rfl⟩)];rfl).trans (List.map_id _)
theorem mid_step {s:ByteArray} {A B:List EnR} {r:EnR} {left left':List Int} {q:Int→Value} {vs:Value} (hn:((A++r :: B).map (·.p)).Nodup) (hin:∀ p,p∈left'↔p∈left∧p≠r.p) :
  (A++r :: B).map (midR s left' (upq q r.p vs))=A.map (midR s left q)++r.put vs (sendE r.E s) :: B.map (midR s left q):=by
 rw [List.map_append,List.map_cons] at hn
 obtain ⟨_,h2,h3⟩:=List.nodup_append.1 hn
 obtain ⟨h4,_⟩:=List.nodup_cons.1 h2
 have other:∀ x:EnR,x.p≠r.p→midR s left' (upq q r.p vs) x=midR s left q x:=fun x hx=>by
  unfold midR upq
  rw [if_neg hx]
  by_cases hm:x.p∈left
  ·rw [if_pos ((hin _).2 ⟨hm,hx⟩),if_pos hm]
  ·rw [if_neg (fun h=>hm ((hin _).1 h).1),if_neg hm]
 rw [List.map_append,List.map_cons]
 congr 1
 ·exact List.map_congr_left fun x hx=>other x fun e=>h3 x.p (List.mem_map.2 ⟨x,hx,rfl⟩) r.p (by simp) e
 ·congr 1
  ·unfold midR upq
   rw [if_neg (fun h=>((hin _).1 h).2 rfl),if_pos rfl]
  ·exact List.map_congr_left fun x hx=>other x fun e=>h4 (by rw [← e];exact List.mem_map.2 ⟨x,hx,rfl⟩)
def sentL (s:ByteArray) (q:Int→Value) (L:List EnR):List EnR:=L.map fun r=>r.put (q r.p) (sendE r.E s)
theorem mid_none (s:ByteArray) (q:Int→Value) (L:List EnR):L.map (midR s [] q)=sentL s q L:=List.map_congr_left fun r _=>by unfold midR;rw [if_neg (by simp)]
theorem epV_split {L:List EnR} {l1 l2:List (Int × Value)} {y:Int} {v:Value} (hs:(l1++(y,v) :: l2).Sublist (epV L)) (hn:((epV L).map Prod.fst).Nodup) :
  (∃ A r B,L=A++r :: B∧r.p=y∧v=.pointer (some ⟨r.eb,0,none⟩))∧(l1++l2).Sublist (epV L)∧∀ p,p∈(l1++l2).map Prod.fst↔p∈(l1++(y,v) :: l2).map Prod.fst∧p≠y:=by
 refine ⟨?_,(List.Sublist.append_left (List.sublist_cons_self _ _) _).trans hs,fun p=>?_⟩
 ·have hm:(y,v)∈epV L:=hs.subset (by simp)
  obtain ⟨r,hr,he⟩:=List.mem_map.1 hm
  obtain ⟨A,B,rfl⟩:=List.append_of_mem hr
  exact ⟨A,r,B,rfl,congrArg Prod.fst he,(congrArg Prod.snd he).symm⟩
 ·have hn2:=hn.sublist (hs.map Prod.fst)
  rw [List.map_append,List.map_cons] at hn2
  obtain ⟨_,h2,h3⟩:=List.nodup_append.1 hn2
  obtain ⟨h4,_⟩:=List.nodup_cons.1 h2
  simp only [List.map_append,List.map_cons,List.mem_append,List.mem_cons]
  constructor
  ·rintro (h | h)
   ·exact ⟨.inl h,fun e=>h3 p h y (by simp) e⟩
   ·exact ⟨.inr (.inr h),fun e=>h4 (e ▸ h)⟩
  ·rintro ⟨h | h | h,hne⟩
   ·exact .inl h
   ·exact absurd h hne
   ·exact .inr h
theorem epV_keys (L:List EnR):(epV L).map Prod.fst=L.map (·.p):=by unfold epV;rw [List.map_map];rfl
def addR (x:CaR) (t:Nt) (q:Int→Value):CaR:={ x with added:=x.added+1,nts:=setA x.nts t true,L:=sentL (str (txtN t)) q x.L }
set_option maxRecDepth 100000 in
set_option maxHeartbeats 4000000 in
theorem caAdd_c {w:World} {s:Su} {x:CaR} (h:CaIn w s x) (t:Nt) (ht:fmN t=true) (hx:x.added≤1000000) (hl:∀ r,r∈x.L→r.E.sent.length < 100) :
  Calls Tryz.prog 40 #[.pointer (some ⟨x.cb,0,none⟩),ntV t] w fun e w'=>e=.returned (.tuple #[])∧∃ q,CaIn w' s (addR x t q)∧Upd (caB x) (caB (addR x t q)) w w':=by
 have B1:=qm w (.cells #[Value.int .i64 t.src,Value.int .i64 t.kind,Value.int .i64 t.num,Value.int .i64 t.lk,Value.int .i64 t.la,Value.int .i64 t.lh,Value.int .i64 t.cn,Value.int .i64 t.cf,Value.int .i64 t.ct,Value.int .i64 t.ch,Value.int .i64 t.ca,Value.bool t.cb,Value.int .i64 t.ek,Value.int .i64 t.ea,Value.int .i64 t.er] 31)
 have F1:=Fr.alloc [] w (.cells #[Value.int .i64 t.src,Value.int .i64 t.kind,Value.int .i64 t.num,Value.int .i64 t.lk,Value.int .i64 t.la,Value.int .i64 t.lh,Value.int .i64 t.cn,Value.int .i64 t.cf,Value.int .i64 t.ct,Value.int .i64 t.ch,Value.int .i64 t.ca,Value.bool t.cb,Value.int .i64 t.ek,Value.int .i64 t.ea,Value.int .i64 t.er] 31)
 have hx1:=h.same F1
 have CT:=qj fun W=>CAText_c t W
 have htv:txtV t=.tuple #[.string (str (txtN t)),.int .i64 0]:=by unfold txtV;rw [if_pos ht]
 rw [htv] at CT
 have hts:=txt_size ht
 have HB1:=qj B1
 have HX:=qj hx1
 have HF1:=qj F1
 have HL:=qj hl
 have h0lt:∀ k,k∈caB x→k < w.heap.size:=fun k hk=>h.lt hk
 have HLT:=qj h0lt
 obtain ⟨cb,jb,nb,mb,bv,kv,L,ns,ad,br⟩:=x
 obtain ⟨ow,bl,ra,rc,rs,rr,kl⟩:=s
 simp only at hx
 generalize hT:str (txtN t)=X at *
 clear F1 B1 h hx1 htv hl h0lt
 go_enter Tryz.func40,Tryz.ntmps40
 go_wp2_with fail
 generalize w.alloc (.cells #[Value.int .i64 t.src,Value.int .i64 t.kind,Value.int .i64 t.num,Value.int .i64 t.lk,Value.int .i64 t.la,Value.int .i64 t.lh,Value.int .i64 t.cn,Value.int .i64 t.cf,Value.int .i64 t.ct,Value.int .i64 t.ch,Value.int .i64 t.ca,Value.bool t.cb,Value.int .i64 t.ek,Value.int .i64 t.ea,Value.int .i64 t.er] 31)=W at *
 refine (CT.out _).mono ?_
 rintro e w1 ⟨rfl,f1⟩
 have HX1:=qj (HX.out.same f1)
 have HB2:=qj (f1.keep HB1.out (by simp))
 have HF2:=qj (HF1.out.trans f1)
 clear f1 CT HB1 HF1 HX
 have x10:w1.cell? ⟨cb,10,none⟩=some (.int .i64 (ad:Int)):=qd HX1.out.blk 10
 have y10:=ql HX1.out.blk 10
 have xu:=qs (i:=10) (.int .i64 ((ad+1:Nat):Int)) HX1.out.blk
 have HX2:Hid (CaIn (w1.setCell ⟨cb,10,none⟩ (.int .i64 ((ad+1:Nat):Int))) ⟨ow,bl,ra,rc,rs,rr,kl⟩ ⟨cb,jb,nb,mb,bv,kv,L,ns,ad+1,br⟩):=qj (HX1.out.own (ad:=ad+1) (br:=br) (Fr.setCell (fp:=[cb]) (p:=⟨cb,10,none⟩) w1 _ (by simp)) xu)
 have HF3:Hid (Fr [cb] w1 (w1.setCell ⟨cb,10,none⟩ (.int .i64 ((ad+1:Nat):Int)))):=qj (Fr.setCell (fp:=[cb]) (p:=⟨cb,10,none⟩) w1 _ (by simp))
 clear xu
 have hx2:(ad:Int)≤1000000:=by omega
 go_upto_region 3 with fail
 have hn1:Hid ((ad:Int)+1=((ad+1:Nat):Int)):=qj (by omega)
 rw [hn1.out]
 clear x10 y10 hx2
 generalize w1.setCell ⟨cb,10,none⟩ (.int .i64 ((ad+1:Nat):Int))=w2 at *
 have HB3:=qj (HF3.out.keep HB2.out (by have:=HLT.out cb (by simp);simp;omega))
 have x8:w2.cell? ⟨cb,8,none⟩=some (.map (some nb)):=qd HX2.out.blk 8
 refine reg_fin (Fr [] w2) 5 [0,1,2,3,4,5] (by kernel_rfl) (by kernel_rfl) (by kernel_rfl) rfl ?_
 have FC:Fr [] w2 (World.drew w2):=Fr.drew _ _
 generalize World.drew w2=WC at FC ⊢
 iterate 5 (refine fin_take (v:=?_) rfl rfl rfl rfl FC (fun w hS=>?_) ?_;rotate_left;(focus (have x8:=hS.cel x8 (by simp);have BE:=hS.keep HB3.out (by simp);have b0:=qd BE 0;have b1:=qd BE 1;have b2:=qd BE 2;have b3:=qd BE 3;have b4:=qd BE 4;have b5:=qd BE 5;have b6:=qd BE 6;have b7:=qd BE 7;have b8:=qd BE 8;have b9:=qd BE 9;have b10:=qd BE 10;have b11:=qd BE 11;have b12:=qd BE 12;have b13:=qd BE 13;have b14:=qd BE 14;  clear BE;clear hS;go_simp;rfl));simp only [qu,qv,qx])
 refine fin_last rfl rfl rfl (fun K hK=>?_)
 have HXC:=qj (HX2.out.same FC)
 refine wp_upd 103 4 (.tmp 23) (.tmp 24) (.const (.bool true)) t rfl rfl rfl HXC.out.nts keyN Tryz.underlying103 rfl ?_
 intro w3 f3 hz3 hm3
 have hm4:MpAt ntV w3 nb (mapV Value.bool (setA ns t true)):=by rw [← setA_mapV];exact hm3
 have HX3:Hid (CaIn w3 ⟨ow,bl,ra,rc,rs,rr,kl⟩ ⟨cb,jb,nb,mb,bv,kv,L,setA ns t true,ad+1,br⟩):=qj (HXC.out.note f3 hm4)
 have HF4:Hid (Fr [cb,nb] w1 w3):=qj ((HF3.out.mono (by simp)).trans ((FC.mono (by simp)).trans (f3.mono (by simp))))
 refine hK _ _ ?_
 clear hK K x8 f3 hm3 hm4 HXC HX2 HX1 FC HF3 HB3 HB2 hz3
 have x9:w3.cell? ⟨cb,9,none⟩=some (.map (some mb)):=qd HX3.out.blk 9
 go_wp2_with (first | ((with_reducible refine wpList_of_wp (o:=⟨some 29,_,_,_,_,_⟩) rfl (fun K hK=>?_));apply stopD;case _other=>exact trivial))
 (refine stopD ?_ ?_;rotate_left;exact trivial)
 refine wp_range 104 3 109 (.tmp 28) rfl rfl HX3.out.ends Tryz.underlying104 rfl ?_
 intro w4 f4 it4
 refine hK _ _ ?_
 clear hK K
 have hnd:((epV L).map Prod.fst).Nodup:=HX3.out.ends.nodup
 have HND:=qj hnd
 have HX4:=qj (HX3.out.same f4)
 have HI4:=qj it4
 have hrl:w3.heap.size < w4.heap.size:=it4.lt.1
 have HR0:Hid (w3.heap.size∉caB ⟨cb,jb,nb,mb,bv,kv,L,setA ns t true,ad+1,br⟩):=qj fun hm=>absurd (HX3.out.lt hm) (Nat.lt_irrefl _)
 have HU4:Hid (Upd (caB ⟨cb,jb,nb,mb,bv,kv,L,setA ns t true,ad+1,br⟩) (caB ⟨cb,jb,nb,mb,bv,kv,L,setA ns t true,ad+1,br⟩) w3 w4):=qj ⟨f4.mono (by simp),fun _ h=>.inl h⟩
 generalize hR:w3.heap.size=R at *
 have HRS:=qj hR
 have HX0:Hid (∀ g,(bv.ownBlock=some g∨kv.ownBlock=some g)→g < w3.heap.size):=qj fun g hg=>(HX3.out.suA g hg).1
 clear it4 f4 x9 hnd hR HX3
 go_wp2_with fail
 go_loopg [7] (epV L).length (fun gk p wr=>∃ (left:List (Int × Value)) (q:Int→Value),gk=left.length∧Hid (left.Sublist (epV L))∧Hid (ItAt (fun a:Int=>Value.int .i64 a) wr R mb (epV L) left) ∧
  Hid (CaIn wr ⟨ow,bl,ra,rc,rs,rr,kl⟩ ⟨cb,jb,nb,mb,bv,kv,L.map (midR X (left.map Prod.fst) q),setA ns t true,ad+1,br⟩)∧Hid (Upd (caB ⟨cb,jb,nb,mb,bv,kv,L,setA ns t true,ad+1,br⟩) (caB ⟨cb,jb,nb,mb,bv,kv,L.map (midR X (left.map Prod.fst) q),setA ns t true,ad+1,br⟩) w3 wr)∧Hid (R∉caB ⟨cb,jb,nb,mb,bv,kv,L.map (midR X (left.map Prod.fst) q),setA ns t true,ad+1,br⟩∧R < wr.heap.size))
 case atStart =>
  have hm:L.map (midR X ((epV L).map Prod.fst) fun _=>undef)=L:=by rw [epV_keys];exact mid_all _ _ _
  exact ⟨epV L,fun _=>undef,rfl,qj (List.Sublist.refl _),HI4,by rw [hm];exact HX4,by rw [hm];exact HU4,by rw [hm];exact qj ⟨HR0.out,hrl⟩⟩
 case round =>
  clear HI4 HX4 HU4 HR0 hrl
  obtain ⟨left,q,rfl,HS,HI,HX,HU,HR⟩:=hrel
  go_wp2_with (first | ((with_reducible refine wpList_of_wp (o:=⟨some 30,_,_,_,_,_⟩) rfl (fun K hK=>?_));apply stopD;case _other=>exact trivial))
  (refine stopD ?_ ?_;rotate_left;exact trivial)
  refine wp_next (.tmp 29) rfl rfl HI.out (fun e=>HR.out.1 (by simp [e])) rfl ?_ ?_
  ·intro h0
   subst h0
   refine hK _ _ ?_
   clear hK K
   go_wp2_with fail
   go_end0
   have h1:=HX.out
   have h2:=HU.out
   simp only [List.map_nil,mid_none] at h1 h2
   subst hT
   have h3:Upd (caB ⟨cb,jb,nb,mb,bv,kv,L,ns,ad,br⟩) (caB ⟨cb,jb,nb,mb,bv,kv,L,setA ns t true,ad+1,br⟩) w w3:=⟨(HF2.out.mono (by simp)).trans (HF4.out.mono (fun k hk=>by simp at hk ⊢;omega)),fun _ h=>.inl h⟩
   exact ⟨rfl,q,h1,h3.trans h2⟩
  ·intro l1 y v l2 W' h0 f5 it5 hen
   subst h0
   obtain ⟨⟨A,r,B,hLr,rfl,rfl⟩,hsub,hkeys⟩:=epV_split HS.out HND.out
   have hrp:r.p∈(l1++(r.p,Value.pointer (some ⟨r.eb,0,none⟩)) :: l2).map Prod.fst:=by simp
   have hmr:midR X ((l1++(r.p,Value.pointer (some ⟨r.eb,0,none⟩)) :: l2).map Prod.fst) q r=r:=by unfold midR;rw [if_pos hrp]
   have hLm:L.map (midR X ((l1++(r.p,Value.pointer (some ⟨r.eb,0,none⟩)) :: l2).map Prod.fst) q)=A.map (midR X ((l1++(r.p,Value.pointer (some ⟨r.eb,0,none⟩)) :: l2).map Prod.fst) q)++r :: B.map (midR X ((l1++(r.p,Value.pointer (some ⟨r.eb,0,none⟩)) :: l2).map Prod.fst) q):=by
    rw [hLr,List.map_append,List.map_cons,hmr]
   have hst:∀ vs',L.map (midR X ((l1++l2).map Prod.fst) (upq q r.p vs'))=A.map (midR X ((l1++(r.p,Value.pointer (some ⟨r.eb,0,none⟩)) :: l2).map Prod.fst) q)++r.put vs' (sendE r.E X) :: B.map (midR X ((l1++(r.p,Value.pointer (some ⟨r.eb,0,none⟩)) :: l2).map Prod.fst) q):=fun vs'=>by
    have hn:=HND.out
    rw [epV_keys,hLr] at hn
    rw [hLr]
    exact mid_step hn hkeys
   have HST:=qj hst;have HSUB:=qj hsub
   have hXW:CaIn W' ⟨ow,bl,ra,rc,rs,rr,kl⟩ ⟨cb,jb,nb,mb,bv,kv,L.map (midR X ((l1++(r.p,Value.pointer (some ⟨r.eb,0,none⟩)) :: l2).map Prod.fst) q),setA ns t true,ad+1,br⟩ :=
    HX.out.fr f5 (fun k hk hm=>by simp at hm;subst hm;exact HR.out.1 hk) (fun g hg hm=>by simp at hm;subst hm;have h1:=(HX.out.suA _ hg).1;have h2:=(HX0.out _ hg);rw [HRS.out] at h2;exact absurd h2 (Nat.lt_irrefl _))
   have hUW:Upd (caB ⟨cb,jb,nb,mb,bv,kv,L,setA ns t true,ad+1,br⟩) (caB ⟨cb,jb,nb,mb,bv,kv,L.map (midR X ((l1++(r.p,Value.pointer (some ⟨r.eb,0,none⟩)) :: l2).map Prod.fst) q),setA ns t true,ad+1,br⟩) w3 W' :=
    ⟨HU.out.fr.step f5 (fun k hk=>.inr (by simp at hk;subst hk;rw [HRS.out];exact Nat.le_refl _)),HU.out.2⟩
   rw [hLm] at hXW hUW
   have hR2:=HR.out
   rw [hLm] at hR2
   have hEr:EnIn W' r.eb r.mb r.vs r.E:=hXW.ens.all r (by simp)
   have hIl:=it5.lt.1
   have CS:=qj (lkSend_c hEr X (by omega) (HL.out r (by rw [hLr];simp)))
   have HXW:=qj hXW;have HUW:=qj hUW;have HR2:=qj hR2;have HI5:=qj it5
   have HRl:=qj hIl
   have hen2:=hen
   clear hLm hst hsub hmr hrp hkeys hXW hUW hR2 hEr hIl it5 f5 HX HU HR HI HS hLr hen2
   refine hK _ _ ?_
   clear hK K
   go_wp2_with fail
   refine CS.out.mono ?_
   rintro e w6 ⟨rfl,vs',hE6,hU6⟩
   obtain ⟨hX6,hUX⟩:=HXW.out.endp (A:=A.map _) (B:=B.map _) rfl hE6 hU6
   have hI6:ItAt (fun a:Int=>Value.int .i64 a) w6 R mb (epV L) (l1++l2):=HI5.out.keep hU6.fr (fun hm=>HXW.out.dis.2.2 (enFp_mem (by simp) hm)) (fun hm=>HR2.out.1 (by simp only [List.mem_cons];exact .inr (.inr (.inr (enFp_mem (by simp) hm)))))
   have hX7:Hid (CaIn w6 ⟨ow,bl,ra,rc,rs,rr,kl⟩ ⟨cb,jb,nb,mb,bv,kv,L.map (midR X ((l1++l2).map Prod.fst) (upq q r.p vs')),setA ns t true,ad+1,br⟩):=qj (by rw [HST.out];exact hX6)
   have hU7:Hid (Upd (caB ⟨cb,jb,nb,mb,bv,kv,L,setA ns t true,ad+1,br⟩) (caB ⟨cb,jb,nb,mb,bv,kv,L.map (midR X ((l1++l2).map Prod.fst) (upq q r.p vs')),setA ns t true,ad+1,br⟩) w3 w6):=qj (by rw [HST.out];exact HUW.out.trans hUX)
   have hR7:Hid (R∉caB ⟨cb,jb,nb,mb,bv,kv,L.map (midR X ((l1++l2).map Prod.fst) (upq q r.p vs')),setA ns t true,ad+1,br⟩∧R < w6.heap.size):=qj (by
    rw [HST.out]
    refine ⟨fun hm=>?_,Nat.lt_of_lt_of_le HRl.out hU6.fr.size⟩
    rcases hUX.2 _ hm with h8 | h8
    ·exact HR2.out.1 h8
    ·have:=HRl.out;omega)
   have HI6:=qj hI6
   clear hX6 hUX hI6 hE6 hU6 CS HXW HUW HR2 HI5 HRl hen
   go_wp2_with fail
   go_roundg (l1++l2).length
   case measure=>simp
   case rel=>exact ⟨l1++l2,upq q r.p vs',rfl,HSUB,HI6,hX7,hU7,hR7⟩
end
end Go.Proofs.YtledkokhghjfmaaGreatDoor
