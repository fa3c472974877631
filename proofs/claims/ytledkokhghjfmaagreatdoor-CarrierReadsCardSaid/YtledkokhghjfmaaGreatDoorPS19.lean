/-
  link: a packet is taken.
-/
import Derived.Test.YtledkokhghjfmaaGreatDoorPS18
import Derived.Test.YtledkokhghjfmaaGreatDoorPS04
namespace Go.Proofs.YtledkokhghjfmaaGreatDoor
open Go.RowKit Go.Lib
def drainM:Nat→Nat→List (Int × ByteArray)→List ByteArray × Nat × List (Int × ByteArray)
 | 0,r,e=>([],r,e)
 | f+1,r,e=>match getA e ((r:Int)+1) with
  | none=>([],r,e)
  | some b=>(b :: (drainM f (r+1) (delA e ((r:Int)+1))).1,(drainM f (r+1) (delA e ((r:Int)+1))).2)
def earlyM (E:En) (p:Pk):List (Int × ByteArray):=if getA E.early p.ser=none∧(E.recv:Int)+1≤p.ser∧p.ser≤(E.recv:Int)+4 then setA E.early p.ser p.body else E.early
def inE (E:En) (p:Pk):En:=⟨E.key,E.oth,E.sent,max E.acked p.ack.toNat,(drainM (earlyM E p).length E.recv (earlyM E p)).2.1,(drainM (earlyM E p).length E.recv (earlyM E p)).2.2⟩
def inL (E:En) (p:Pk):List ByteArray:=(drainM (earlyM E p).length E.recv (earlyM E p)).1
theorem setA_len {α β:Type} [DecidableEq α] (l:List (α × β)) (a:α) (v:β):(setA l a v).length≤l.length+1:=by
 induction l with
 | nil=>simp [setA]
 | cons p l ih=>rw [setA];split <;> simp <;> omega
def okP (E:En) (p:Pk):Bool:=genP E.oth p && decide (p.ack≤E.sent.length)
section
variable {α:Type} {enc:α→Value} {P:Program} {k:TypeId} {b:Nat} {l:List (α × Value)} [DecidableEq α]
theorem wp_look {o:Oper} {a:Act} {W:World} {K:Act→World→Prop} {Q:Exit→Act→World→Prop} (t e:TypeId) (x i:Operand) (ok:Bool) (key:α) (ho:o.op=.lookup t x i ok) (hx:a.eval x=.map (some b)) (hi:a.eval i=enc key)
  (h:MpAt enc W b l) (KD:KeyD P k enc) (ht:P.underlying t=some (.map k e)) {z:Value} (hz:(zeroValue e).run P W=.ok z W) {d:Tmp} (hd:o.dst=some d) (hK:K { a with tmps:=a.tmps.setIfInBounds d (if ok then .tuple #[(getA l key).getD z,.bool (getA l key).isSome] else (getA l key).getD z) } W):o.wp P a W K Q:=by
 unfold Oper.wp execOp
 simp only [ho,hx,hi,Sem.run_bind,Sem.run_pure,Result.andThen_ok,h.look KD ht hz key ok]
 show K (a.put o.dst _) W
 rw [hd]
 exact hK
theorem wp_upd {o:Oper} {a:Act} {W:World} {K:Act→World→Prop} {Q:Exit→Act→World→Prop} (t e:TypeId) (x i y:Operand) (key:α) (ho:o.op=.mapUpdate t x i y) (hx:a.eval x=.map (some b)) (hi:a.eval i=enc key)
  (h:MpAt enc W b l) (KD:KeyD P k enc) (ht:P.underlying t=some (.map k e)) (hd:o.dst=none) (hK:∀ W',Fr [b] W W'→W'.heap.size=W.heap.size→MpAt enc W' b (setA l key (a.eval y))→K a W'):o.wp P a W K Q:=by
 obtain ⟨W',h1,h2,h3,h4⟩:=h.upd KD ht key (a.eval y)
 unfold Oper.wp execOp
 simp only [ho,hx,hi,Sem.run_bind,Sem.run_pure,Result.andThen_ok,h1]
 have:=hK W' h2 h3 h4
 show K (a.put o.dst undef) W'
 rw [hd]
 exact this
theorem wp_del {o:Oper} {a:Act} {W:World} {K:Act→World→Prop} {Q:Exit→Act→World→Prop} (t e:TypeId) (x i:Operand) (key:α) (ho:o.op=.call { callee:=.builtin .delete,args:=#[x,i],argTypes:=#[t,k] }) (hx:a.eval x=.map (some b)) (hi:a.eval i=enc key)
  (h:MpAt enc W b l) (KD:KeyD P k enc) (ht:P.underlying t=some (.map k e)) (hd:o.dst=none) (hK:∀ W',Fr [b] W W'→W'.heap.size=W.heap.size→MpAt enc W' b (delA l key)→K a W'):o.wp P a W K Q:=by
 obtain ⟨W',h1,h2,h3,h4⟩:=h.drop KD ht (ty:=o.type) key
 have:=hK W' h2 h3 h4
 unfold Oper.wp
 simp [execOp,ho,resolve,invoke,builtin,hx,hi,h1,Result.andThen]
 show K (a.put o.dst (.tuple #[])) W'
 rw [hd]
 exact this
end
structure RsY (fp:List Nat) (w W:World) (v:Value) (l:List ByteArray):Prop where
 row:W.ownsRow 0 9 1 v l.length (l.map Value.string)
 young:∀ g,v.ownBlock=some g→w.heap.size≤g
 fr:Fr fp w W
theorem RsY.nil {fp:List Nat} {w W:World} (hf:Fr fp w W):RsY fp w W (.slice none 0 0) []:=⟨World.ownsRow_nil _ _ _ _,(fun g hg=>by cases hg),hf⟩
theorem RsY.upd {fp S:List Nat} {w W W':World} {v:Value} {l:List ByteArray} (h:RsY fp w W v l) (hf:Fr S W W') (hS:∀ k,k∈S→k∈fp∧k < w.heap.size):RsY fp w W' v l :=
 ⟨row_fr h.row hf (fun g hg hm=>by have:=h.young g hg;have:=(hS g hm).2;omega),h.young,h.fr.trans (hf.mono fun k hk=>(hS k hk).1)⟩
theorem RsY.val {fp:List Nat} {w W:World} {v:Value} {l:List ByteArray} (h:RsY fp w W v l):∃ a c,v=.slice a l.length c:=(sl_of_row h.row).val
theorem wp_rs_app {fp:List Nat} {w W:World} {o:Oper} {a:Act} {K:Act→World→Prop} {Q:Exit→Act→World→Prop} (s x:Operand) (ho:o.op=.call { callee:=.builtin .append,args:=#[s,x],argTypes:=#[40,40] })
  (v:Value) (l:List ByteArray) (r:ByteArray) (g:Nat) (hs:a.eval s=v) (hx:a.eval x=.slice (some ⟨g,0,none⟩) 1 1) (h:RsY fp w W v l) (hg:W.heap[g]?=some (.cells #[.string r] 9 (0,0))) (hl:l.length≤100000)
  (hK:∀ v' W',RsY fp w W' v' (l++[r])→Fr v.ownBlock.toList W W'→K (a.put o.dst v') W'):o.wp Tryz.prog a W K Q:=by
 refine wp_append_src s x 40 9 (.string ⟨#[]⟩) 1 16 ho Tryz.underlying40 infoStrT rfl (by decide) v l.length (l.map Value.string) hs h.row (.slice (some ⟨g,0,none⟩) 1 1) 1 [.string r] hx ⟨.inr ⟨_,1,rfl,fun j u hu=>by rw [add_at,qd hg];simpa using hu⟩⟩ (by simp) (by simp [Value.oneCell']) (by omega) (by omega) ?_
 intro ga cap W' r1 f1 o1
 refine hK _ _ ⟨by simpa using r1,fun g' hg'=>?_,h.fr.step f1 (fun i hi=>.inr (h.young i (by simpa using hi)))⟩ f1
 rcases o1 with h1 | h1
 ·exact h.young g' (h1 ▸ hg')
 ·rw [hg'] at h1
  have:=h.fr.size
  simp at h1;omega
theorem zeroStr (w:World):(zeroValue 9).run Tryz.prog w=.ok (.string ⟨#[]⟩) w:=by kernel_rfl
def mpN (b:Nat) (w:World):Nat:=match w.heap[b]? with
 | some (.map es _)=>es.size
 | _=>0
theorem mpN_at {α:Type} {enc:α→Value} {w:World} {b:Nat} {l:List (α × Value)} (h:MpAt enc w b l):mpN b w=l.length:=by
 obtain ⟨es,c,h1,h2,_⟩:=h.blk
 have:=congrArg List.length h2
 simp only [List.length_map,Array.length_toList,mpOf] at this
 unfold mpN
 rw [h1];exact this
abbrev intE (a:Int):Value:=.int .i64 a
theorem keyInt:KeyD Tryz.prog 3 intE:=keyI Tryz.underlying3
theorem EnIn.early {w:World} {eb mb:Nat} {vs:Value} {E:En} (h:EnIn w eb mb vs E):MpAt intE w mb (mapV Value.string E.early):=h.map
set_option maxRecDepth 100000 in
set_option maxHeartbeats 4000000 in
theorem lkIn_c {w:World} {eb mb:Nat} {vs:Value} {E:En} (h:EnIn w eb mb vs E) (p:Pk) (hR:RndAt w) (hp:okP E p=true) (hrc:E.recv≤1000) (hac:E.acked≤1000) (hsl:E.sent.length≤1000) (hel:E.early.length≤1000) :
  Calls Tryz.prog 83 #[.pointer (some ⟨eb,0,none⟩),pkV p] w fun e w'=>∃ v,e=.returned (.tuple #[v,.int .i64 0])∧RsY [eb,mb] w w' v (inL E p)∧EnIn w' eb mb vs (inE E p):=by
 obtain ⟨k,o,l,ac,rc,er⟩:=E
 obtain ⟨n,m,b,q⟩:=p
 simp only at hrc hac hsl hel
 obtain ⟨a,c,rfl⟩:=(sl_of_row h.row).val
 have CG:=qj fun W hf=>genuine_c o ⟨n,m,b,q⟩ W (hR.same ((Fr.alloc [] w (.cells #[.int .i64 n,.int .i64 m,.string b,.string q] 60)).trans hf) (by simp))
 have HP:(genP o ⟨n,m,b,q⟩ && decide (m≤l.length))=true:=hp
 rw [Bool.and_eq_true] at HP
 obtain ⟨hg,hm⟩:=HP
 have hm:m≤l.length:=of_decide_eq_true hm
 have hn2:(0≤n∧n≤100)∧(0≤m∧m≤100):=by
  simp only [genP,Bool.and_eq_true,inB_iff] at hg
  exact ⟨hg.1.1.1.1.2,hg.1.1.1.2⟩
 rw [hg] at CG
 obtain ⟨n',rfl⟩:=Int.eq_ofNat_of_zero_le hn2.1.1
 obtain ⟨m',rfl⟩:=Int.eq_ofNat_of_zero_le hn2.2.1
 have F1:=qj (Fr.alloc [] w (.cells #[.int .i64 n',.int .i64 m',.string b,.string q] 60))
 have B1:=qm w (.cells #[.int .i64 n',.int .i64 m',.string b,.string q] 60)
 have HE:=qj (h.same F1.out)
 have hlt:¬ (m':Int) > l.length:=by omega
 have HL:=qj h.lt
 have hne:=qj h.ne
 have hlb:=blk_lt h.blk
 have hlm:=h.map.lt
 have x0:=qd B1 0;have x1:=qd B1 1;have x2:=qd B1 2;have x3:=qd B1 3
 clear h hR hp B1 hg
 go_enter Tryz.func83,Tryz.ntmps83
 go_upto_region 3 with fail
 generalize hbx:w.heap.size=bx at *
 generalize (w.alloc (.cells #[.int .i64 n',.int .i64 m',.string b,.string q] 60))=w0 at *
 refine reg_mix (Fr [] w0) [0,1,2,3,4,5,6,7,8,9,10,11,12,13,14,15,16] (by kernel_rfl) (by kernel_rfl) (by kernel_rfl) rfl (Fr.drew _ _) ?_
 have FC:Fr [] w0 w0.drew:=Fr.drew _ _
 generalize w0.drew=WC at FC ⊢
 iterate 5 (refine mix_take1 (v:=?_) rfl rfl rfl rfl (fun w hS=>?_) ?_;rotate_left;(focus (have XE:=hS.keep HE.out.blk (by simp);have e1:World.cell? _ ⟨eb,1,none⟩=some (.string o):=qd XE 1;have e2:World.cell? _ ⟨eb,2,none⟩=some (.slice a l.length c):=qd XE 2;have x0:=hS.cel x0 (by simp);have x1:=hS.cel x1 (by simp);have x2:=hS.cel x2 (by simp);have x3:=hS.cel x3 (by simp);clear XE;clear hS;go_simp;rfl));simp only [qu,qv,qx])
 refine mix_do rfl rfl rfl (fun K hK=>?_)
 go_simp
 refine (CG.out _ FC).mono ?_
 rintro e wq ⟨rfl,fq⟩
 have FC:=FC.trans fq
 clear fq
 refine hK _ _ FC ?_
 clear hK K
 try simp only [Act.put,qu,qv,qx]
 iterate 2 (refine mix_take1 (v:=?_) rfl rfl rfl rfl (fun w hS=>?_) ?_;rotate_left;(focus (clear hS;go_simp;rfl));simp only [qu,qv,qx])
 iterate 8 (refine mix_takeg (v:=?_) rfl rfl rfl rfl rfl rfl (fun w hS=>?_) ?_;rotate_left;(focus (have XE:=hS.keep HE.out.blk (by simp);have e1:World.cell? _ ⟨eb,1,none⟩=some (.string o):=qd XE 1;have e2:World.cell? _ ⟨eb,2,none⟩=some (.slice a l.length c):=qd XE 2;have x0:=hS.cel x0 (by simp);have x1:=hS.cel x1 (by simp);have x2:=hS.cel x2 (by simp);have x3:=hS.cel x3 (by simp);clear XE;clear hS;go_simp;rfl));simp only [qu,qv,qx])
 (refine mix_take1 (v:=?_) rfl rfl rfl rfl (fun w hS=>?_) ?_;rotate_left;(focus (clear hS;go_simp;rfl));simp only [qu,qv,qx])
 refine mix_end ?_
 have HE:=qj (HE.out.same FC)
 have HF:=qj (F1.out.trans FC)
 have x0:=FC.cel x0 (by simp);have x1:=FC.cel x1 (by simp);have x2:=FC.cel x2 (by simp);have x3:=FC.cel x3 (by simp)
 clear FC F1
 go_upto_region 5 with fail
 refine reg_fin (Fr [] wq) 10 [0,1,2,3,4,5,6,7,8,9,10] (by kernel_rfl) (by kernel_rfl) (by kernel_rfl) rfl ?_
 have FC:Fr [] wq wq.drew:=Fr.drew _ _
 generalize hwc:wq.drew=WC at FC ⊢
 clear hwc
 iterate 10 (refine fin_take (v:=?_) rfl rfl rfl rfl FC (fun w hS=>?_) ?_;rotate_left;(focus (have XE:=hS.keep HE.out.blk (by simp);have e0:World.cell? _ ⟨eb,0,none⟩=some (.string k):=qd XE 0;have e1:World.cell? _ ⟨eb,1,none⟩=some (.string o):=qd XE 1;have e2:World.cell? _ ⟨eb,2,none⟩=some (.slice a l.length c):=qd XE 2;have e3:World.cell? _ ⟨eb,3,none⟩=some (.int .i64 (ac:Nat)):=qd XE 3;have e4:World.cell? _ ⟨eb,4,none⟩=some (.int .i64 (rc:Nat)):=qd XE 4;have e5:World.cell? _ ⟨eb,5,none⟩=some (.map (some mb)):=qd XE 5;have x0:=hS.cel x0 (by simp);have x1:=hS.cel x1 (by simp);have x2:=hS.cel x2 (by simp);have x3:=hS.cel x3 (by simp);clear XE;clear hS;go_simp;rfl));simp only [qu,qv,qx])
 refine fin_last rfl rfl rfl (fun K hK=>?_)
 have hb:=FC.keep HE.out.blk (by simp)
 have z3:=qd hb 3
 have u3:=ql hb 3
 go_simp
 refine hK _ _ ?_
 clear hK K z3 u3
 have hmx:((max ac m':Nat):Int)=max (ac:Int) (m':Int):=by omega
 rw [← hmx]
 have fs:=Fr.setCell (fp:=[eb]) (p:=⟨eb,3,none⟩) WC (.int .i64 ((max ac m':Nat):Int)) (by simp)
 have fw:=FC.step fs (fp2:=[eb])
 have hE2:EnIn (WC.setCell ⟨eb,3,none⟩ (.int .i64 ((max ac m':Nat):Int))) eb mb (.slice a l.length c) ⟨k,o,l,max ac m',rc,er⟩ :=
  ⟨qs (i:=3) _ hb,row_fr (HE.out.same FC).row fs (fun g hg hm=>(HE.out.apart hg).1 (by simpa using hm)),(HE.out.same FC).map.keep fs (by simpa using hne.out.symm)⟩
 have HE:=qj hE2
 have HF:=qj ((HF.out.mono (fp2:=[eb,mb]) (by simp)).trans ((FC.mono (by simp)).trans (fs.mono (by simp))))
 have x0:=fs.cel (FC.cel x0 (by simp)) (by simp;omega);have x2:=fs.cel (FC.cel x2 (by simp)) (by simp;omega)
 generalize hw5:WC.setCell ⟨eb,3,none⟩ (.int .i64 ((max ac m':Nat):Int))=w5 at *
 generalize hac':max ac m'=ac' at *
 have HACX:Shut (max ac m'=ac'):=⟨hac'⟩
 clear hac' hE2 fs fw FC hb hmx hw5 x1 x3
 go_upto_region 6 with fail
 refine reg_mix (Fr [] w5) [0,1,2,3,4,5,6,7,8,9,10,11] (by kernel_rfl) (by kernel_rfl) (by kernel_rfl) rfl (Fr.drew _ _) ?_
 have FC:Fr [] w5 w5.drew:=Fr.drew _ _
 generalize w5.drew=WC at FC ⊢
 iterate 6 (refine mix_take1 (v:=?_) rfl rfl rfl rfl (fun w hS=>?_) ?_;rotate_left;(focus (have XE:=hS.keep HE.out.blk (by simp);have e0:World.cell? _ ⟨eb,0,none⟩=some (.string k):=qd XE 0;have e1:World.cell? _ ⟨eb,1,none⟩=some (.string o):=qd XE 1;have e2:World.cell? _ ⟨eb,2,none⟩=some (.slice a l.length c):=qd XE 2;have e3:World.cell? _ ⟨eb,3,none⟩=some (.int .i64 (ac':Nat)):=qd XE 3;have e4:World.cell? _ ⟨eb,4,none⟩=some (.int .i64 (rc:Nat)):=qd XE 4;have e5:World.cell? _ ⟨eb,5,none⟩=some (.map (some mb)):=qd XE 5;have x0:=hS.cel x0 (by simp);have x2:=hS.cel x2 (by simp);clear XE;clear hS;go_simp;rfl));simp only [qu,qv,qx])
 refine mix_do rfl rfl rfl (fun K hK=>?_)
 refine wp_look 166 9 (.tmp 44) (.tmp 46) true (n':Int) rfl rfl rfl (HE.out.early.keep FC (by simp)) keyInt Tryz.underlying166 (zeroStr _) rfl ?_
 rw [getA_mapV,if_pos rfl]
 refine hK _ _ FC ?_
 clear hK K
 try simp only [qu,qv,qx]
 iterate 5 (refine mix_take1 (v:=?_) rfl rfl rfl rfl (fun w hS=>?_) ?_;rotate_left;(focus (clear hS;go_simp;rfl));simp only [qu,qv,qx])
 refine mix_end ?_
 have HE:=qj (HE.out.same FC)
 have HF:=qj (HF.out.trans (FC.mono (by simp)))
 have x0:=FC.cel x0 (by simp);have x2:=FC.cel x2 (by simp)
 clear FC
 generalize hB:(getA er (n':Int)).isSome=is
 have e1:((getA er (n':Int)).map Value.string).isSome=is:=by rw [← hB];cases getA er (n':Int) <;> rfl
 rw [e1]
 generalize ((getA er (n':Int)).map Value.string).getD (.string ⟨#[]⟩)=sv
 generalize hb2:inB n' ((rc:Int)+1) ((rc:Int)+4)=ib
 have HEM:Shut (earlyM ⟨k,o,l,ac,rc,er⟩ ⟨n',m',b,q⟩=if (!is && ib)=true then setA er n' b else er):=⟨by
  have hnone:getA er (n':Int)=none↔is=false:=by rw [← hB];cases getA er (n':Int) <;> simp
  have hin:((rc:Int)+1≤(n':Int)∧(n':Int)≤(rc:Int)+4)↔ib=true:=by rw [← hb2,inB_iff]
  unfold earlyM
  simp only [hnone,hin,Bool.and_eq_true,Bool.not_eq_true']⟩
 have hI:Shut (inB n' ((rc:Int)+1) ((rc:Int)+4)=ib):=⟨hb2⟩
 clear hB e1 hb2
 generalize hw6:WC=w6 at *
 clear hw6
 go_upto_region 7 with fail
 go_cut [66] from 50 to 65 (fun s W=>s=.bool (!is && ib)∧Hid (Fr [] w6 W))
 case first =>
  have CI:=qj fun W=>lkIsIn_c n' ((rc:Int)+1) ((rc:Int)+4) W
  rw [hI.out] at CI
  clear HEM hI
  cases is with
  | true =>
   refine reg_mix (Fr [] w6) [0,1,2,3,4,5,6,7,8,9,10,11,12,13,14,15,16] (by kernel_rfl) (by kernel_rfl) (by kernel_rfl) rfl (Fr.drew _ _) ?_
   have FC:Fr [] w6 w6.drew:=Fr.drew _ _
   generalize w6.drew=WC at FC ⊢
   iterate 3 (refine mix_take1 (v:=?_) rfl rfl rfl rfl (fun w hS=>?_) ?_;rotate_left;(focus (clear hS;go_simp;rfl));simp only [qu,qv,qx])
   iterate 13 (refine mix_skipT rfl rfl rfl rfl rfl FC ?_;simp only [qu,qv,qx])
   (refine mix_take1 (v:=?_) rfl rfl rfl rfl (fun w hS=>?_) ?_;rotate_left;(focus (clear hS;go_simp;rfl));simp only [qu,qv,qx])
   refine mix_end ?_
   go_wp2_with fail
   go_meet
   case rel=>exact ⟨rfl,qj FC⟩
  | false =>
   refine reg_mix (Fr [] w6) [0,1,2,3,4,5,6,7,8,9,10,11,12,13,14,15,16] (by kernel_rfl) (by kernel_rfl) (by kernel_rfl) rfl (Fr.drew _ _) ?_
   have FC:Fr [] w6 w6.drew:=Fr.drew _ _
   generalize w6.drew=WC at FC ⊢
   iterate 3 (refine mix_take1 (v:=?_) rfl rfl rfl rfl (fun w hS=>?_) ?_;rotate_left;(focus (clear hS;go_simp;rfl));simp only [qu,qv,qx])
   iterate 6 (refine mix_takeg (v:=?_) rfl rfl rfl rfl rfl rfl (fun w hS=>?_) ?_;rotate_left;(focus (have XE:=hS.keep HE.out.blk (by simp);have e0:World.cell? _ ⟨eb,0,none⟩=some (.string k):=qd XE 0;have e1:World.cell? _ ⟨eb,1,none⟩=some (.string o):=qd XE 1;have e2:World.cell? _ ⟨eb,2,none⟩=some (.slice a l.length c):=qd XE 2;have e3:World.cell? _ ⟨eb,3,none⟩=some (.int .i64 (ac':Nat)):=qd XE 3;have e4:World.cell? _ ⟨eb,4,none⟩=some (.int .i64 (rc:Nat)):=qd XE 4;have e5:World.cell? _ ⟨eb,5,none⟩=some (.map (some mb)):=qd XE 5;have x0:=hS.cel x0 (by simp);have x2:=hS.cel x2 (by simp);clear XE;clear hS;go_simp;rfl));simp only [qu,qv,qx])
   (refine mix_takeg (v:=?_) rfl rfl rfl rfl rfl rfl (fun w hS=>?_) ?_;rotate_left;(focus (clear hS;go_simp;rw [IntWalk.i64_in ((rc:Int)+1) (by omega)]));simp only [qu,qv,qx])
   iterate 4 (refine mix_takeg (v:=?_) rfl rfl rfl rfl rfl rfl (fun w hS=>?_) ?_;rotate_left;(focus (have XE:=hS.keep HE.out.blk (by simp);have e0:World.cell? _ ⟨eb,0,none⟩=some (.string k):=qd XE 0;have e1:World.cell? _ ⟨eb,1,none⟩=some (.string o):=qd XE 1;have e2:World.cell? _ ⟨eb,2,none⟩=some (.slice a l.length c):=qd XE 2;have e3:World.cell? _ ⟨eb,3,none⟩=some (.int .i64 (ac':Nat)):=qd XE 3;have e4:World.cell? _ ⟨eb,4,none⟩=some (.int .i64 (rc:Nat)):=qd XE 4;have e5:World.cell? _ ⟨eb,5,none⟩=some (.map (some mb)):=qd XE 5;have x0:=hS.cel x0 (by simp);have x2:=hS.cel x2 (by simp);clear XE;clear hS;go_simp;rfl));simp only [qu,qv,qx])
   (refine mix_takeg (v:=?_) rfl rfl rfl rfl rfl rfl (fun w hS=>?_) ?_;rotate_left;(focus (clear hS;go_simp;rw [IntWalk.i64_in ((rc:Int)+4) (by omega)]));simp only [qu,qv,qx])
   refine mix_dog rfl rfl rfl rfl rfl (fun K hK=>?_)
   go_simp
   refine (CI.out _).mono ?_
   rintro e w00 ⟨rfl,rfl⟩
   refine hK _ _ FC ?_
   clear hK K
   try simp only [Act.put,qu,qv,qx]
   (refine mix_take1 (v:=?_) rfl rfl rfl rfl (fun w hS=>?_) ?_;rotate_left;(focus (clear hS;go_simp;rfl));simp only [qu,qv,qx])
   refine mix_end ?_
   go_wp2_with fail
   go_meet
   case rel=>exact ⟨by simp,qj FC⟩
 case rest =>
  obtain ⟨rfl,HW⟩:=hcut
  have HE:=qj (HE.out.same HW.out)
  have HF:=qj (HF.out.trans (HW.out.mono (by simp)))
  have x0:=HW.out.cel x0 (by simp);have x2:=HW.out.cel x2 (by simp)
  clear HW hI
  generalize hw7:wc=w7 at *
  clear hw7
  go_upto_if 66 with fail
  go_cut [] from 67 to 74 (fun W=>∃ er':List (Int × ByteArray),Hid (EnIn W eb mb (.slice a l.length c) ⟨k,o,l,ac',rc,er'⟩)∧Hid (Fr [eb,mb] w W)∧Shut (earlyM ⟨k,o,l,ac,rc,er⟩ ⟨n',m',b,q⟩=er'))
  case first =>
   generalize (!is && ib)=B at *
   cases B with
   | true =>
    go_upto_region 8 with fail
    refine reg_fin (Fr [] w7) 8 [0,1,2,3,4,5,6,7,8] (by kernel_rfl) (by kernel_rfl) (by kernel_rfl) rfl ?_
    have FC:Fr [] w7 w7.drew:=Fr.drew _ _
    generalize hwc:w7.drew=WC at FC ⊢
    clear hwc
    iterate 8 (refine fin_take (v:=?_) rfl rfl rfl rfl FC (fun w hS=>?_) ?_;rotate_left;(focus (have XE:=hS.keep HE.out.blk (by simp);have e0:World.cell? _ ⟨eb,0,none⟩=some (.string k):=qd XE 0;have e1:World.cell? _ ⟨eb,1,none⟩=some (.string o):=qd XE 1;have e2:World.cell? _ ⟨eb,2,none⟩=some (.slice a l.length c):=qd XE 2;have e3:World.cell? _ ⟨eb,3,none⟩=some (.int .i64 (ac':Nat)):=qd XE 3;have e4:World.cell? _ ⟨eb,4,none⟩=some (.int .i64 (rc:Nat)):=qd XE 4;have e5:World.cell? _ ⟨eb,5,none⟩=some (.map (some mb)):=qd XE 5;have x0:=hS.cel x0 (by simp);have x2:=hS.cel x2 (by simp);clear XE;clear hS;go_simp;rfl));simp only [qu,qv,qx])
    refine fin_last rfl rfl rfl (fun K hK=>?_)
    refine wp_upd 166 9 (.tmp 70) (.tmp 72) (.tmp 74) (n':Int) rfl rfl rfl (HE.out.early.keep FC (by simp)) keyInt Tryz.underlying166 rfl ?_
    intro W' f' z' hmp
    have hmp:MpAt intE W' mb (setA (mapV Value.string er) (n':Int) (.string b)):=hmp
    rw [setA_mapV] at hmp
    refine hK _ _ ?_
    clear hK K
    go_wp2_with fail
    go_meet
    case rel=>exact ⟨setA er n' b,qj ⟨f'.keep (FC.keep HE.out.blk (by simp)) (by simpa using hne.out),row_fr (HE.out.same FC).row f' (fun g hg hm=>(HE.out.apart hg).2 (by simpa using hm)),hmp⟩,qj (HF.out.trans ((FC.mono (by simp)).trans (f'.mono (by simp)))),⟨by rw [HEM.out];simp⟩⟩
   | false =>
    go_wp2_with fail
    go_meet
    case rel=>exact ⟨er,HE,HF,⟨by rw [HEM.out];simp⟩⟩
  case rest =>
   clear HE HF HEM x0 x2
   obtain ⟨er',HE,HF,HEM⟩:=hcut
   have hel2:er'.length≤1001:=by
    rw [← HEM.out];unfold earlyM;simp only
    split
    ·exact Nat.le_trans (setA_len _ _ _) (by omega)
    ·omega
   have HRes:Shut (inL ⟨k,o,l,ac,rc,er⟩ ⟨n',m',b,q⟩=(drainM er'.length rc er').1∧inE ⟨k,o,l,ac,rc,er⟩ ⟨n',m',b,q⟩=⟨k,o,l,ac',(drainM er'.length rc er').2.1,(drainM er'.length rc er').2.2⟩):=⟨by
    unfold inL inE
    rw [HEM.out,← HACX.out]
    exact ⟨rfl,rfl⟩⟩
   clear HEM
   generalize hD:drainM er'.length rc er'=D at *
   have HD0:Shut (D=drainM er'.length rc er'):=⟨hD.symm⟩
   clear hD
   go_wp2_with fail
   go_loopw [8] (fun ov wr=>∃ (f r:Nat) (e:List (Int × ByteArray)) (out:List ByteArray),e.length≤f∧r+f≤5000∧out.length+f≤5000∧Shut (D=(out++(drainM f r e).1,(drainM f r e).2))∧Hid (EnIn wr eb mb (.slice a l.length c) ⟨k,o,l,ac',r,e⟩)∧Hid (RsY [eb,mb] w wr ov out)) (fun _ wr=>mpN mb wr)
   case atStart=>exact ⟨_,rc,er',[],Nat.le_refl _,by omega,by simp;omega,⟨HD0.out⟩,HE,qj (RsY.nil HF.out)⟩
   case round =>
    clear HE HF HD0
    obtain ⟨f,r,e,out,hf,hrf,hof,HD,HE,HY⟩:=hrel
    obtain ⟨oa,oc,rfl⟩:=HY.out.val
    generalize hG:getA e ((r:Int)+1)=G
    have HG:Shut (getA e ((r:Int)+1)=G):=⟨hG⟩
    cases G with
    | none =>
     have HD2:Shut (drainM f r e=([],r,e)):=⟨by cases f with
      | zero=>rfl
      | succ f=>rw [drainM,hG]⟩
     clear hG
     go_upto_region 10 with fail
     refine reg_mix (Fr [] wr) [0,1,2,3,4,5,6,7,8,9,10,11,12,13,14] (by kernel_rfl) (by kernel_rfl) (by kernel_rfl) rfl (Fr.drew _ _) ?_
     have FC:Fr [] wr wr.drew:=Fr.drew _ _
     generalize wr.drew=WC at FC ⊢
     iterate 8 (refine mix_take1 (v:=?_) rfl rfl rfl rfl (fun w hS=>?_) ?_;rotate_left;(focus (have XE:=hS.keep HE.out.blk (by simp);have e0:World.cell? _ ⟨eb,0,none⟩=some (.string k):=qd XE 0;have e1:World.cell? _ ⟨eb,1,none⟩=some (.string o):=qd XE 1;have e2:World.cell? _ ⟨eb,2,none⟩=some (.slice a l.length c):=qd XE 2;have e3:World.cell? _ ⟨eb,3,none⟩=some (.int .i64 (ac':Nat)):=qd XE 3;have e4:World.cell? _ ⟨eb,4,none⟩=some (.int .i64 (r:Nat)):=qd XE 4;have e5:World.cell? _ ⟨eb,5,none⟩=some (.map (some mb)):=qd XE 5;clear XE;clear hS;go_simp;rfl));simp only [qu,qv,qx])
     (refine mix_take1 (v:=?_) rfl rfl rfl rfl (fun w hS=>?_) ?_;rotate_left;(focus (clear hS;go_simp;rw [IntWalk.i64_in ((r:Int)+1) (by omega)]));simp only [qu,qv,qx])
     refine mix_do rfl rfl rfl (fun K hK=>?_)
     refine wp_look 166 9 (.tmp 79) (.tmp 84) true ((r:Int)+1) rfl rfl rfl (HE.out.early.keep FC (by simp)) keyInt Tryz.underlying166 (zeroStr _) rfl ?_
     rw [getA_mapV,if_pos rfl,HG.out]
     refine hK _ _ FC ?_
     clear hK K
     try simp only [qu,qv,qx,Option.map_none,Option.getD_none,Option.isSome_none]
     iterate 5 (refine mix_take1 (v:=?_) rfl rfl rfl rfl (fun w hS=>?_) ?_;rotate_left;(focus (clear hS;go_simp;rfl));simp only [qu,qv,qx])
     refine mix_end ?_
     have HE2:=qj (HE.out.same FC)
     have HY2:=qj (HY.out.upd FC (by simp))
     clear FC
     go_wp2_with fail
     go_ret2
     refine ⟨_,rfl,?_,?_⟩
     ·rw [HRes.out.1,HD.out,HD2.out];simpa using HY2.out
     ·rw [HRes.out.2,HD.out,HD2.out];exact HE2.out
    | some bd =>
     have hlen:=delA_len hG
     obtain ⟨f,rfl⟩:∃ f',f=f'+1:=⟨f - 1,by omega⟩
     have HD2:Shut (drainM (f+1) r e=(bd :: (drainM f (r+1) (delA e ((r:Int)+1))).1,(drainM f (r+1) (delA e ((r:Int)+1))).2)):=⟨by rw [drainM,hG]⟩
     clear hG
     go_upto_region 10 with fail
     refine reg_mix (Fr [] wr) [0,1,2,3,4,5,6,7,8,9,10,11,12,13,14] (by kernel_rfl) (by kernel_rfl) (by kernel_rfl) rfl (Fr.drew _ _) ?_
     have FC:Fr [] wr wr.drew:=Fr.drew _ _
     generalize wr.drew=WC at FC ⊢
     iterate 8 (refine mix_take1 (v:=?_) rfl rfl rfl rfl (fun w hS=>?_) ?_;rotate_left;(focus (have XE:=hS.keep HE.out.blk (by simp);have e0:World.cell? _ ⟨eb,0,none⟩=some (.string k):=qd XE 0;have e1:World.cell? _ ⟨eb,1,none⟩=some (.string o):=qd XE 1;have e2:World.cell? _ ⟨eb,2,none⟩=some (.slice a l.length c):=qd XE 2;have e3:World.cell? _ ⟨eb,3,none⟩=some (.int .i64 (ac':Nat)):=qd XE 3;have e4:World.cell? _ ⟨eb,4,none⟩=some (.int .i64 (r:Nat)):=qd XE 4;have e5:World.cell? _ ⟨eb,5,none⟩=some (.map (some mb)):=qd XE 5;clear XE;clear hS;go_simp;rfl));simp only [qu,qv,qx])
     (refine mix_take1 (v:=?_) rfl rfl rfl rfl (fun w hS=>?_) ?_;rotate_left;(focus (clear hS;go_simp;rw [IntWalk.i64_in ((r:Int)+1) (by omega)]));simp only [qu,qv,qx])
     refine mix_do rfl rfl rfl (fun K hK=>?_)
     refine wp_look 166 9 (.tmp 79) (.tmp 84) true ((r:Int)+1) rfl rfl rfl (HE.out.early.keep FC (by simp)) keyInt Tryz.underlying166 (zeroStr _) rfl ?_
     rw [getA_mapV,if_pos rfl,HG.out]
     refine hK _ _ FC ?_
     clear hK K
     try simp only [qu,qv,qx,Option.map_some,Option.getD_some,Option.isSome_some]
     iterate 5 (refine mix_take1 (v:=?_) rfl rfl rfl rfl (fun w hS=>?_) ?_;rotate_left;(focus (clear hS;go_simp;rfl));simp only [qu,qv,qx])
     refine mix_end ?_
     have hb:=FC.keep HE.out.blk (by simp)
     have z4:=qd hb 4
     have u4:=ql hb 4
     have fs:=Fr.setCell (fp:=[eb]) (p:=⟨eb,4,none⟩) WC (.int .i64 ((r:Int)+1)) (by simp)
     have hb4:=qs (i:=4) (.int .i64 ((r:Int)+1)) hb
     have HE3:Hid (EnIn (WC.setCell ⟨eb,4,none⟩ (.int .i64 ((r:Int)+1))) eb mb (.slice a l.length c) ⟨k,o,l,ac',r+1,e⟩):=qj ⟨hb4,row_fr (HE.out.same FC).row fs (fun g hg hm=>(HE.out.apart hg).1 (by simpa using hm)),(HE.out.same FC).map.keep fs (by simpa using hne.out.symm)⟩
     have HY3:=qj ((HY.out.upd FC (by simp)).upd fs (by simp;omega))
     clear FC hb fs hb4 HY
     go_upto_region 14 with fail
     clear z4 u4
     generalize WC.setCell ⟨eb,4,none⟩ (.int .i64 ((r:Int)+1))=w8 at *
     refine reg_fin (Fr [] w8) 8 [0,1,2,3,4,5,6,7,8] (by kernel_rfl) (by kernel_rfl) (by kernel_rfl) rfl ?_
     have FC:Fr [] w8 w8.drew:=Fr.drew _ _
     generalize hwc:w8.drew=WC at FC ⊢
     clear hwc
     iterate 8 (refine fin_take (v:=?_) rfl rfl rfl rfl FC (fun w hS=>?_) ?_;rotate_left;(focus (have XE:=hS.keep HE3.out.blk (by simp);have e0:World.cell? _ ⟨eb,0,none⟩=some (.string k):=qd XE 0;have e1:World.cell? _ ⟨eb,1,none⟩=some (.string o):=qd XE 1;have e2:World.cell? _ ⟨eb,2,none⟩=some (.slice a l.length c):=qd XE 2;have e3:World.cell? _ ⟨eb,3,none⟩=some (.int .i64 (ac':Nat)):=qd XE 3;have e4:World.cell? _ ⟨eb,4,none⟩=some (.int .i64 (r+1:Nat)):=qd XE 4;have e5:World.cell? _ ⟨eb,5,none⟩=some (.map (some mb)):=qd XE 5;clear XE;clear hS;go_simp;rfl));simp only [qu,qv,qx])
     refine fin_last rfl rfl rfl (fun K hK=>?_)
     refine wp_del 166 9 (.tmp 101) (.tmp 105) ((r:Int)+1) rfl rfl rfl (HE3.out.early.keep FC (by simp)) keyInt Tryz.underlying166 rfl ?_
     intro W' f' z' hmp
     rw [delA_mapV] at hmp
     refine hK _ _ ?_
     clear hK K
     have HE4:Hid (EnIn W' eb mb (.slice a l.length c) ⟨k,o,l,ac',r+1,delA e ((r:Int)+1)⟩):=qj ⟨f'.keep (FC.keep HE3.out.blk (by simp)) (by simpa using hne.out),row_fr (HE3.out.same FC).row f' (fun g hg hm=>(HE3.out.apart hg).2 (by simpa using hm)),hmp⟩
     have HY4:=qj ((HY3.out.upd FC (by simp)).upd f' (by simp;omega))
     have F15:=Fr.alloc [] W' (.cells #[.string bd] 9)
     clear hmp z' f' FC HE3 HY3
     go_wp2_with (first | ((with_reducible refine wpList_of_wp (o:=⟨some 109,_,_,_,_,_⟩) rfl (fun K hK=>?_));apply stopD;case _other=>exact trivial))
     (refine stopD ?_ ?_;rotate_left;exact trivial)
     have H15:=qj (HY4.out.upd F15 (by simp))
     have G15:=qm W' (.cells #[.string bd] 9)
     have HE5:=qj (HE4.out.same F15)
     refine wp_rs_app (.tmp 106) (.tmp 108) rfl (.slice oa out.length oc) out bd W'.heap.size rfl rfl H15.out G15 (by omega) ?_
     intro v2 W2 h2 f2
     refine hK _ _ ?_
     clear hK K
     have HE6:Hid (EnIn W2 eb mb (.slice a l.length c) ⟨k,o,l,ac',r+1,delA e ((r:Int)+1)⟩):=qj (HE5.out.fr f2 (fun q hq hm=>by
      have h1:=H15.out.young q (by simpa using hm)
      have h2:=HL.out q hq
      omega))
     have HY6:=qj h2
     clear h2 f2 H15 G15 HE5 HE4 HY4 F15
     go_wp2_with fail
     go_roundw
     case rel=>exact ⟨f,r+1,delA e ((r:Int)+1),out++[bd],by omega,by omega,by simp;omega,⟨by rw [HD.out,HD2.out];simp⟩,HE6,HY6⟩
     case measure =>
      rw [mpN_at HE6.out.map,mpN_at HE.out.map]
      simp only [mapV,List.length_map]
      exact hlen
end Go.Proofs.YtledkokhghjfmaaGreatDoor
