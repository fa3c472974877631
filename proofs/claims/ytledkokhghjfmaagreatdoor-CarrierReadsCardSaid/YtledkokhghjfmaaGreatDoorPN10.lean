/-
  The law's with: with whom the example's number is.
-/
import Derived.Test.YtledkokhghjfmaaGreatDoorPN09
import Derived.Test.YtledkokhghjfmaaGreatDoorPN06
import Derived.ArgAppend
import Derived.Test.YtledkokhghjfmaaGreatDoorPS14
import Derived.Test.YtledkokhghjfmaaGreatDoorPS25
import Derived.Test.YtledkokhghjfmaaGreatDoorPN02
import Derived.Test.YtledkokhghjfmaaGreatDoorPS12
import Derived.Test.YtledkokhghjfmaaGreatDoorPS17
import Derived.Test.YtledkokhghjfmaaGreatDoorPS23
import Derived.Test.YtledkokhghjfmaaGreatDoorPS24
import Derived.Test.YtledkokhghjfmaaGreatDoorPS22
namespace Go.Proofs.YtledkokhghjfmaaGreatDoor
section
open Go.RowKit Go.Shelf Go.Lib
theorem ownT {w W:World} {α:Type} {enc:α→List Value} {e e':TypeId} {k g:Nat} {v:Value} {l:List α} {B:Nat} {cs:Array Value} (h:RyG enc e k w W v l) (hB:W.heap[B]?=some (.cells cs e' (0,0))) (hne:e≠e') (hg:v.ownBlock=some g):g∉[B]:=by
 intro hm
 simp only [List.mem_singleton] at hm
 subst hm
 rcases h.row.2 with ⟨rfl,_⟩ | ⟨g',cap,cur,rfl,_,hb,_⟩
 ·cases hg
 ·cases hg
  rw [hb] at hB
  simp only [Option.some.injEq,Obj.cells.injEq] at hB
  exact hne hB.2.1
theorem ChIn.cut {w0 W W':World} {c:Ch} {lv pv:Value} {ps:List Pv} {B:Nat} {cs:Array Value} (h:ChIn w0 W c lv pv ps) (hf:Fr [B] W W') (hB:W.heap[B]?=some (.cells cs 66 (0,0))):ChIn w0 W' c lv pv ps :=
 ⟨h.life.fr hf fun g hg=>ownT h.life hB (by decide) hg,⟨h.ports.row.fr hf fun g hg=>ownT h.ports.row hB (by decide) hg,fun x hx=>(h.ports.evs x hx).fr hf fun g hg=>ownT (h.ports.evs x hx) hB (by decide) hg,h.ports.apart⟩,h.eq⟩
theorem set8 {w:World} {b:Nat} {ty:TypeId} {c0 c1 c2 c3 c4 c5 c6 c7:Value} (h:w.heap[b]?=some (.cells #[c0,c1,c2,c3,c4,c5,c6,c7] ty (0,0))) (a0 a1 a2 a3 a4 a5 a6 a7:Value) :
  Fr [b] w ((((((((w.setCell ⟨b,0,none⟩ a0).setCell ⟨b,1,none⟩ a1).setCell ⟨b,2,none⟩ a2).setCell ⟨b,3,none⟩ a3).setCell ⟨b,4,none⟩ a4).setCell ⟨b,5,none⟩ a5).setCell ⟨b,6,none⟩ a6).setCell ⟨b,7,none⟩ a7)∧((((((((w.setCell ⟨b,0,none⟩ a0).setCell ⟨b,1,none⟩ a1).setCell ⟨b,2,none⟩ a2).setCell ⟨b,3,none⟩ a3).setCell ⟨b,4,none⟩ a4).setCell ⟨b,5,none⟩ a5).setCell ⟨b,6,none⟩ a6).setCell ⟨b,7,none⟩ a7).heap[b]?=some (.cells #[a0,a1,a2,a3,a4,a5,a6,a7] ty (0,0)):=by
 have f (W:World) (i:Nat) (u:Value):Fr [b] W (W.setCell ⟨b,i,none⟩ u):=Fr.setCell _ _ (by simp)
 exact ⟨(((((((f _ _ _).trans (f _ _ _)).trans (f _ _ _)).trans (f _ _ _)).trans (f _ _ _)).trans (f _ _ _)).trans (f _ _ _)).trans (f _ _ _),by
  have h6:=qs (i:=7) a7 (qs (i:=6) a6 (qs (i:=5) a5 (qs (i:=4) a4 (qs (i:=3) a3 (qs (i:=2) a2 (qs (i:=1) a1 (qs (i:=0) a0 h)))))))
  simp only [qu,qv,qx] at h6
  exact h6⟩
theorem wp_app_full {w:World} {o:Oper} {a:Act} {K:Act→World→Prop} {Q:Exit→Act→World→Prop} (s x:Operand) (ho:o.op=.call { callee:=.builtin .append,args:=#[s,x],argTypes:=#[71,71] }) (l:List Nt) (f:Nt) (n rb sb k:Nat) (hn:n=l.length)
  (hs:a.eval s=.slice (some ⟨rb,0,none⟩) n n) (hl:Sl w (.slice (some ⟨rb,0,none⟩) n n) n (l.flatMap ntC)) (hx:a.eval x=.slice (some ⟨sb,0,none⟩) 1 k) (hb:w.heap[sb]?=some (.cells (ntC f).toArray 31 (0,0))) (hz:n≤1000000) (h0:0 < n)
  (h:∀ ga cap w',Sl w' (.slice ga (n+1) cap) (n+1) ((l++[f]).flatMap ntC)→Fr [] w w'→K (a.put o.dst (.slice ga (n+1) cap)) w'):o.wp Tryz.prog a w K Q:=by
 obtain ⟨i0,hi,hz0,hz1,hz2⟩:=info_parts infoNtT
 obtain ⟨b',o',he,hc1⟩:=hl.at_ h0
 cases he
 obtain ⟨v',w9,hrun,hrow,hgr⟩:=run_append_arg_grows (P:=Tryz.prog) w 71 o.type 31 i0 (ntV nt0) 15 120 Tryz.underlying71 hi hz0 hz1 hz2 rfl (by decide) ⟨rb,0,none⟩ n n (l.flatMap ntC) (by rw [hn];exact flat_len ntC_len l) (fun j u hu=>by rw [add_at];have:=hc1 j u hu;simpa using this) ⟨sb,0,none⟩ 1 k (ntC f) (by simp [ntC]) (fun j u hu=>by rw [add_at,qd hb];simpa using hu) (by omega) (by simp only [maxLen];omega) (by omega)
 have hf:Fr [] w w9:=Fr.grown hgr (fun k hk=>by cases hk)
 have hsl:=sl_of_row (w:=w9) (show w9.ownsRow 0 31 15 v' (n+1) ((l++[f]).flatMap ntC) from ⟨by simpa using hrow.1,hrow.2.imp id fun ⟨g,cap,cur,a,_,c⟩=>⟨g,cap,cur,a,Nat.zero_le _,by simpa using c⟩⟩)
 obtain ⟨va,vk,rfl⟩:=hsl.val
 unfold Oper.wp execOp
 simp only [ho,resolve,invoke,builtin,Sem.run_bind,Sem.run_pure,Result.andThen_ok,List.map_toArray,List.map_cons,List.map_nil,hs,hx,hrun]
 exact h va vk w9 hsl hf
def WtP (w:World) (f:Nt) (c:Ch) (i:Nat) (g:Nat→Value) (W:World):Prop:=match i with
 | 0=>∃ bb kb,g 0=suV exS (.slice (some ⟨bb,0,none⟩) 1 1) (.slice (some ⟨kb,0,none⟩) 2 2)∧SuAt W (.slice (some ⟨bb,0,none⟩) 1 1) (.slice (some ⟨kb,0,none⟩) 2 2) exS
 | 1=>∃ rb,g 1=.slice (some ⟨rb,0,none⟩) 2 2∧Sl W (.slice (some ⟨rb,0,none⟩) 2 2) 2 ([ntA,ntB].flatMap ntC)
 | 3=>∃ sb,g 3=.slice (some ⟨sb,0,none⟩) 1 1∧W.heap[sb]?=some (.cells (ntC f).toArray 31 (0,0))
 | 4=>∃ a k,g 4=.slice a 3 k∧Sl W (.slice a 3 k) 3 ([ntA,ntB,f].flatMap ntC)
 | 5=>∃ la lk pa pk ps w5,g 5=.tuple #[chV c (.slice la c.life.length lk) (.slice pa ps.length pk),.int .i64 0]∧ChIn w5 W c (.slice la c.life.length lk) (.slice pa ps.length pk) ps
 | 6=>∃ la ln lk pa pn pk,g 5=.tuple #[chV c (.slice la ln lk) (.slice pa pn pk),.int .i64 0]∧g 6=.tuple #[chV c (.slice la ln lk) (.slice pa pn pk),.int .i64 0]
 | 7=>∃ la ln lk pa pn pk,g 5=.tuple #[chV c (.slice la ln lk) (.slice pa pn pk),.int .i64 0]∧g 7=chV c (.slice la ln lk) (.slice pa pn pk)
 | 8=>g 8=.int .i64 0
 | 9=>∃ B cs,g 9=.pointer (some ⟨B,0,none⟩)∧W.heap[B]?=some (.cells cs 66 (0,0))∧cs=#[.int .i64 0,.int .i64 0,.int .i64 0,.int .i64 0,.int .i64 0,.int .i64 0,.slice none 0 0,.slice none 0 0]∧w.heap.size≤B
 | 10=>∃ B la ln lk pa pn pk,g 9=.pointer (some ⟨B,0,none⟩)∧g 5=.tuple #[chV c (.slice la ln lk) (.slice pa pn pk),.int .i64 0]∧W.heap[B]?=some (.cells (chC c.num c.first c.ra c.rc c.rs c.rr (.slice la ln lk) (.slice pa pn pk)).toArray 66 (0,0))
 | _=>True
theorem WtP.same {w:World} {f:Nt} {c:Ch} {g:Nat→Value} {W W':World} (i:Nat) (v:Value) (hf:Fr [] W W'):∀ j,j≠i→(j,i)∉[(6,5),(7,5),(10,5),(10,9)]→WtP w f c j g W→WtP w f c j (upG g i v) W':=by
 intro j hj hb h
 have h5:j=6∨j=7∨j=10→upG g i v 5=g 5:=fun hq=>upG_ne g v (fun e=>hb (by rw [← e];rcases hq with rfl | rfl | rfl <;> simp))
 have h9:j=10→upG g i v 9=g 9:=fun hq=>upG_ne g v (fun e=>hb (by rw [← e,hq];simp))
 unfold WtP at h ⊢
 split at h
 ·obtain ⟨bb,kb,h1,h2⟩:=h;exact ⟨bb,kb,by rw [upG_ne g v hj];exact h1,h2.same hf⟩
 ·obtain ⟨rb,h1,h2⟩:=h;exact ⟨rb,by rw [upG_ne g v hj];exact h1,h2.same hf⟩
 ·obtain ⟨sb,h1,h2⟩:=h;exact ⟨sb,by rw [upG_ne g v hj];exact h1,hf.keep h2 (by simp)⟩
 ·obtain ⟨a,k,h1,h2⟩:=h;exact ⟨a,k,by rw [upG_ne g v hj];exact h1,h2.same hf⟩
 ·obtain ⟨la,lk,pa,pk,ps,w5,h1,h2⟩:=h;exact ⟨la,lk,pa,pk,ps,w5,by rw [upG_ne g v hj];exact h1,⟨h2.life.same hf,h2.ports.fr hf (by simp),h2.eq⟩⟩
 ·rw [h5 (by simp),upG_ne g v hj];exact h
 ·rw [h5 (by simp),upG_ne g v hj];exact h
 ·rw [upG_ne g v hj];exact h
 ·obtain ⟨B,cs,h1,h2,h3⟩:=h;exact ⟨B,cs,by rw [upG_ne g v hj];exact h1,hf.keep h2 (by simp),h3⟩
 ·obtain ⟨B,la,ln,lk,pa,pn,pk,h1,h2,h3⟩:=h;exact ⟨B,la,ln,lk,pa,pn,pk,by rw [h9 rfl];exact h1,by rw [h5 (by simp)];exact h2,hf.keep h3 (by simp)⟩
 ·trivial
theorem WtP.store {w:World} {f:Nt} {c:Ch} {g:Nat→Value} {W W':World} {B:Nat} {cs:Array Value} (v:Value) (hf:Fr [B] W W') (hB:W.heap[B]?=some (.cells cs 66 (0,0))):∀ j,j≠10→(j,10)∉[(0,10),(1,10),(3,10),(4,10),(9,10)]→WtP w f c j g W→WtP w f c j (upG g 10 v) W':=by
 intro j hj hb h
 have h5:upG g 10 v 5=g 5:=upG_ne g v (by omega)
 unfold WtP at h ⊢
 split at h
 ·simp at hb
 ·simp at hb
 ·simp at hb
 ·simp at hb
 ·obtain ⟨la,lk,pa,pk,ps,w5,h1,h2⟩:=h;exact ⟨la,lk,pa,pk,ps,w5,by rw [h5];exact h1,h2.cut hf hB⟩
 ·rw [h5,upG_ne g v hj];exact h
 ·rw [h5,upG_ne g v hj];exact h
 ·rw [upG_ne g v hj];exact h
 ·simp at hb
 ·exact absurd rfl hj
 ·trivial
set_option maxRecDepth 100000 in
set_option maxHeartbeats 4000000 in
theorem with_c (f:Nt) (t:Int) (q:Po) (hok:MoOk (deriveM exS [ntA,ntB,f] 150 0) q) (ht:inB t 0 20000000=true) (w:World) :
  Calls Tryz.prog 24 #[ntV f,.int .i64 t] w fun e w'=>e=.returned (.int .i64 (resM (deriveM exS [ntA,ntB,f] 150 0) q t))∧Fr [] w w':=by
 obtain ⟨c,hc⟩:∃ c,deriveM exS [ntA,ntB,f] 150 0=c:=⟨_,rfl⟩
 rw [hc] at hok ⊢
 have CDe:=qj fun (bv kv v:Value) (W:World) (h1:SuAt W bv kv exS) (h2:Sl W v [ntA,ntB,f].length ([ntA,ntB,f].flatMap ntC))=>CADerive_c exS bv kv v [ntA,ntB,f] 150 0 W h1 (by decide) (by decide) h2 (by simp)
 rw [hc] at CDe
 clear hc
 have HMO:=qj hok;have HT:=qj ht
 have F1:=Fr.alloc [] w (.cells (ntC f).toArray 31)
 have B1:=qm w (.cells (ntC f).toArray 31)
 have HF1:=qj F1;have HB1:=qj B1
 obtain ⟨w1,hw1⟩:∃ w1,w.alloc (.cells #[.int .i64 f.src,.int .i64 f.kind,.int .i64 f.num,.int .i64 f.lk,.int .i64 f.la,.int .i64 f.lh,.int .i64 f.cn,.int .i64 f.cf,.int .i64 f.ct,.int .i64 f.ch,.int .i64 f.ca,.bool f.cb,.int .i64 f.ek,.int .i64 f.ea,.int .i64 f.er] 31)=w1:=⟨_,rfl⟩
 have hw1':w.alloc (.cells (ntC f).toArray 31)=w1:=hw1
 rw [hw1'] at HF1 HB1
 clear F1 B1 hw1' hok ht
 go_enter Tryz.func24,Tryz.ntmps24
 go_wp2_with fail
 refine reg_invG (C:=[(0,5),(0,10),(1,4),(1,10),(3,4),(3,10),(4,5),(4,10),(9,10)]) (B:=[(6,5),(7,5),(10,5),(10,9)]) (Fr [] w1) 11 [2] [(0,[]),(1,[]),(3,[]),(4,[1,3]),(5,[0,4]),(6,[5]),(7,[6]),(8,[6]),(9,[]),(10,[7,9])] (by kernel_rfl) (by kernel_rfl) (by kernel_rfl) (by kernel_rfl) (by kernel_rfl) ?_
 have FC:Fr [] w1 w1.drew:=Fr.drew _ _
 (refine tk_take (v:=ntV f) rfl rfl rfl FC (fun w hS=>nt_load (.tmp 2) rfl rfl (hS.keep HB1.out (by simp))) ?_;simp only [qu,qv,qx])
 refine invG_start [(0,11),(1,12),(3,14),(4,15),(5,16),(6,10),(7,17),(8,18),(9,5)] (WtP w1 f c) (by decide) FC ⟨fun g w8 hS hD=>?_,fun g w8 hS hD=>?_,fun g w8 hS hD=>?_,fun g w8 hS hD=>?_,fun g w8 hS hD=>?_,fun g w8 hS hD=>?_,fun g w8 hS hD=>?_,fun g w8 hS hD=>?_,fun g w8 hS hD=>?_,fun g w8 hS hD=>?_,trivial⟩ (fun g w8 hS hD=>?_)
 ·have h':=fun (v:Value) {W:World} (hf:Fr [] w8 W)=>WtP.same (w:=w1) (f:=f) (c:=c) (g:=g) 0 v hf
  refine invG_op rfl rfl (fun K hK=>?_)
  simp only [putG,putT,qu,qv,qx] at hK ⊢
  go_simp
  refine (example_c w8).mono ?_
  rintro e V ⟨bb,kb,rfl,hsu,hf,_⟩
  exact hK _ _ (hS.trans hf) ⟨bb,kb,rfl,hsu⟩ (fun j hj _ hb h=>h' _ hf j hj (by simp) h)
 ·have h':=fun (v:Value) {W:World} (hf:Fr [] w8 W)=>WtP.same (w:=w1) (f:=f) (c:=c) (g:=g) 1 v hf
  refine invG_op rfl rfl (fun K hK=>?_)
  simp only [putG,putT,qu,qv,qx] at hK ⊢
  go_simp
  refine (said_c w8).mono ?_
  rintro e V ⟨rfl,hr,hf⟩
  exact hK _ _ (hS.trans hf) ⟨_,rfl,hr.sl⟩ (fun j hj _ hb h=>h' _ hf j hj (by simp) h)
 ·have h':=fun (v:Value) {W:World} (hf:Fr [] w8 W)=>WtP.same (w:=w1) (f:=f) (c:=c) (g:=g) 3 v hf
  have hf:=Fr.alloc [] w8 (.cells (ntC f).toArray 31)
  have hb3:=qm w8 (.cells (ntC f).toArray 31)
  refine invG_op rfl rfl (fun K hK=>?_)
  simp only [putG,putT,qu,qv,qx] at hK ⊢
  go_simp
  exact hK _ _ (hS.trans hf) ⟨_,rfl,hb3⟩ (fun j hj _ hb h=>h' _ hf j hj (by simp) h)
 ·obtain ⟨rb,x1,hs1⟩:=hD 1 (by simp)
  obtain ⟨sb,x3,hb3⟩:=hD 3 (by simp)
  have h':=fun (v:Value) {W:World} (hf:Fr [] w8 W)=>WtP.same (w:=w1) (f:=f) (c:=c) (g:=g) 4 v hf
  refine invG_op rfl rfl (fun K hK=>?_)
  simp only [putG,putT,qu,qv,qx] at hK ⊢
  simp only [upG,Nat.reduceEqDiff,if_false,if_true] at hK
  rw [x1,x3] at hK ⊢
  refine wp_app_full (.tmp 12) (.tmp 14) rfl [ntA,ntB] f 2 rb sb 1 rfl rfl hs1 rfl hb3 (by omega) (by omega) (fun ga cap W9 h9 f9=>?_)
  exact hK _ _ (hS.trans f9) ⟨_,_,rfl,h9⟩ (fun j hj _ hb h=>h' _ f9 j hj (by simp) h)
 ·obtain ⟨bb,kb,x0,hsu⟩:=hD 0 (by simp)
  obtain ⟨va,vk,x4,hs4⟩:=hD 4 (by simp)
  have h':=fun (v:Value) {W:World} (hf:Fr [] w8 W)=>WtP.same (w:=w1) (f:=f) (c:=c) (g:=g) 5 v hf
  refine invG_op rfl rfl (fun K hK=>?_)
  simp only [putG,putT,qu,qv,qx] at hK ⊢
  simp only [upG,Nat.reduceEqDiff,if_false,if_true] at hK
  rw [x0,x4] at hK ⊢
  go_simp
  refine (CDe.out _ _ _ w8 hsu hs4).mono ?_
  rintro e V ⟨lv,pv,ps,rfl,hch,hf⟩
  obtain ⟨la,lk,rfl⟩:=hch.life.val
  obtain ⟨pa,pk,rfl⟩:=hch.ports.row.val
  exact hK _ _ (hS.trans hf) ⟨_,_,_,_,ps,w8,rfl,hch⟩ (fun j hj _ hb h=>h' _ hf j hj (by simp only [List.mem_cons,Prod.mk.injEq,and_true,List.not_mem_nil,or_false,not_or] at hb ⊢;omega) h)
 ·obtain ⟨la,lk,pa,pk,ps,w5,x5,_⟩:=hD 5 (by simp)
  have h':=fun (v:Value) {W:World} (hf:Fr [] w8 W)=>WtP.same (w:=w1) (f:=f) (c:=c) (g:=g) 6 v hf
  refine invG_op rfl rfl (fun K hK=>?_)
  simp only [putG,putT,qu,qv,qx] at hK ⊢
  simp only [upG,Nat.reduceEqDiff,if_false,if_true] at hK
  rw [x5] at hK ⊢
  go_simp
  refine hK _ _ hS ⟨la,c.life.length,lk,pa,ps.length,pk,?_,?_⟩ (fun j hj _ hb h=>h' _ (Fr.refl _ _) j hj (by simp) h)
  ·rw [upG_ne g _ (by decide)];exact x5
  ·rw [upG_self]
 ·obtain ⟨la,ln,lk,pa,pn,pk,x5,x6⟩:=hD 6 (by simp)
  have X5:=qj x5
  clear x5
  have h':=fun (v:Value) {W:World} (hf:Fr [] w8 W)=>WtP.same (w:=w1) (f:=f) (c:=c) (g:=g) 7 v hf
  refine invG_op rfl rfl (fun K hK=>?_)
  simp only [putG,putT,qu,qv,qx] at hK ⊢
  simp only [upG,Nat.reduceEqDiff,if_false,if_true] at hK
  rw [x6] at hK ⊢
  go_simp
  refine hK _ _ hS ⟨la,ln,lk,pa,pn,pk,?_,?_⟩ (fun j hj _ hb h=>h' _ (Fr.refl _ _) j hj (by simp) h)
  ·rw [upG_ne g _ (by decide)];exact X5.out
  ·rw [upG_self]
 ·obtain ⟨la,ln,lk,pa,pn,pk,x5,x6⟩:=hD 6 (by simp)
  have X5:=qj x5
  clear x5
  have h':=fun (v:Value) {W:World} (hf:Fr [] w8 W)=>WtP.same (w:=w1) (f:=f) (c:=c) (g:=g) 8 v hf
  refine invG_op rfl rfl (fun K hK=>?_)
  simp only [putG,putT,qu,qv,qx] at hK ⊢
  simp only [upG,Nat.reduceEqDiff,if_false,if_true] at hK
  rw [x6] at hK ⊢
  go_simp
  exact hK _ _ hS rfl (fun j hj _ hb h=>h' _ (Fr.refl _ _) j hj (by simp) h)
 ·have hf:=Fr.alloc [] w8 (.cells #[.int .i64 0,.int .i64 0,.int .i64 0,.int .i64 0,.int .i64 0,.int .i64 0,.slice none 0 0,.slice none 0 0] 66)
  have h':=fun (v:Value) {W:World} (hf:Fr [] w8 W)=>WtP.same (w:=w1) (f:=f) (c:=c) (g:=g) 9 v hf
  refine invG_op rfl rfl (fun K hK=>?_)
  simp only [putG,putT,qu,qv,qx] at hK ⊢
  go_simp
  exact hK _ _ (hS.trans hf) ⟨_,_,rfl,qm _ _,rfl,hS.size⟩ (fun j hj _ hb h=>h' _ hf j hj (by simp only [List.mem_cons,Prod.mk.injEq,and_true,List.not_mem_nil,or_false,not_or] at hb ⊢;omega) h)
 ·obtain ⟨la,ln,lk,pa,pn,pk,x5,x7⟩:=hD 7 (by simp)
  have X5:=qj x5
  clear x5
  obtain ⟨B,cs,x9,hB,hcs,hBl⟩:=hD 9 (by simp)
  refine invG_op (o:=⟨none,_,_,_,_,_⟩) rfl rfl (fun K hK=>?_)
  simp only [putG,putT,qu,qv,qx] at hK ⊢
  simp only [upG,Nat.reduceEqDiff,if_false] at hK
  rw [x7,x9] at hK ⊢
  rw [hcs] at hB
  have o0:=qd hB 0;have o1:=qd hB 1;have o2:=qd hB 2;have o3:=qd hB 3;have o4:=qd hB 4;have o5:=qd hB 5;have o6:=qd hB 6;have o7:=qd hB 7
  have r0:=ql hB 0;have r1:=ql hB 1;have r2:=ql hB 2;have r3:=ql hB 3;have r4:=ql hB 4;have r5:=ql hB 5;have r6:=ql hB 6;have r7:=ql hB 7
  go_simp
  try go_upon
  try go_simp
  obtain ⟨FS,KS⟩:=set8 hB (.int .i64 c.num) (.int .i64 c.first) (.int .i64 c.ra) (.int .i64 c.rc) (.int .i64 c.rs) (.int .i64 c.rr) (.slice la ln lk) (.slice pa pn pk)
  exact hK undef _ (hS.step FS (fun i hi=>.inr (by simp at hi;omega))) ⟨B,la,ln,lk,pa,pn,pk,by rw [upG_ne g undef (by decide)];exact x9,by rw [upG_ne g undef (by decide)];exact X5.out,KS⟩ (fun j hj hc _ h=>WtP.store undef FS hB j hj (by simp only [List.mem_cons,Prod.mk.injEq,and_true,List.not_mem_nil,or_false,not_or] at hc ⊢;omega) h)
 obtain ⟨la,lk,pa,pk,ps,w5,x5,hch⟩:=hD (5,[0,4]) (by simp) (by simp)
 obtain ⟨B,la',ln',lk',pa',pn',pk',x9,x5',hB⟩:=hD (10,[7,9]) (by simp) (by simp)
 rw [x5] at x5'
 simp only [chV,Value.tuple.injEq,Array.mk.injEq,List.cons.injEq,Value.agg.injEq,Value.slice.injEq,and_true,true_and] at x5'
 obtain ⟨⟨rfl,rfl,rfl⟩,rfl,rfl,rfl⟩:=x5'
 have x8:g 8=.int .i64 0:=hD (8,[6]) (by simp) (by simp)
 refine inv_fin rfl rfl (fun K hK=>?_)
 simp only [putG,putT,qu,qv,qx] at hK ⊢
 rw [x9,x8]
 go_simp
 refine hK _ _ ?_
 have HS8:=qj hS;have HCH:=qj hch;have HB:=qj hB
 clear hK K hD FC x5 hS hch hB
 refine noPanicN ?_
 have CAt:=qj (CHAt_c c q (.slice la c.life.length lk) (.slice pa ps.length pk) ps w5 w8 HCH.out HMO.out t HT.out)
 obtain ⟨R,hR⟩:∃ R,resM c q t=R:=⟨_,rfl⟩
 rw [hR] at CAt
 have HRR:=qj hR
 clear hR
 generalize ps.length=pn at *
 generalize c.life.length=ln at *
 obtain ⟨num,first,ra,rc,rs,rr,life,ports⟩:=c
 dsimp only [chV,chC] at *
 have b0:=qd HB.out 0;have b1:=qd HB.out 1;have b2:=qd HB.out 2;have b3:=qd HB.out 3;have b4:=qd HB.out 4;have b5:=qd HB.out 5;have b6:=qd HB.out 6;have b7:=qd HB.out 7
 clear CDe HB1 HMO
 go_wp2_with fail
 refine CAt.out.mono ?_
 rintro e wz ⟨ra',rn',rk',rfl,fz⟩
 have HZ:=qj ((HF1.out.trans HS8.out).trans fz)
 clear CAt fz
 go_wp2_with fail
 go_ret
 exact ⟨by rw [HRR.out];rfl,HZ.out⟩
end
section
open Go.RowKit Go.Lib
structure Clean (D:Dk) (L:List ByteArray):Prop where
 off:D.off=false
 left:D.left=0
 dur:D.dur=D.vis
 pend:D.pend=[]
 vis:∃ z,D.vis=encAll head0 L++List.replicate z 0
 small:∀ r,r∈L→r.size≤65536
theorem clean_new (n:Nat):Clean (Dk.new n) []:=⟨rfl,rfl,rfl,rfl,⟨n,rfl⟩,by simp⟩
theorem tpL_size (L:List ByteArray):(tp0.adds L).size=(encAll head0 L).length:=by rw [adds_size];simp [tp0]
theorem tpL_head (L:List ByteArray):(tp0.adds L).head=headOf head0 L:=adds_head L tp0
theorem tpL_recs (L:List ByteArray):(tp0.adds L).recs=L:=by rw [adds_recs];rfl
theorem head0_size:head0.size=32:=rfl
theorem enc_L (L l:List ByteArray):encAll head0 (L++l)=encAll head0 L++encAll (tp0.adds L).head l:=by rw [encAll_append,tpL_head]
theorem opens_of {D:Dk} {L:List ByteArray} {z:Nat} (ho:D.off=false) (hv:D.vis=encAll head0 L++List.replicate z 0) (hs:∀ r,r∈L→r.size≤65536):D.opens=(0,some (tp0.adds L),D):=by
 have h1:openM D.vis=some (tp0.adds L):=by rw [hv];exact openM_enc z L hs
 have h2:(D.vis.drop (tp0.adds L).size).all (·== 0)=true:=by
  rw [hv,tpL_size,List.drop_left]
  simp
 simp only [Dk.opens,ho,h1,h2,if_true]
 rfl
theorem clean_open {D:Dk} {L:List ByteArray} (h:Clean D L):D.opens=(0,some (tp0.adds L),D):=by
 obtain ⟨z,hv⟩:=h.vis
 exact opens_of h.off hv h.small
theorem writeU {D:Dk} (h:D.off=false) (h2:D.left=0) {o:Int} {s:ByteArray} (h0:0≤o) (hs:o.toNat+s.size≤D.dur.length):D.writeE o s=0∧D.writeD o s=D.put o.toNat s:=by
 have hi:insB D.dur.length o s.size=true:=by simp [insB];omega
 have hu:(D.put o.toNat s).use=D.put o.toNat s:=by simp [Dk.use,Dk.put,h2]
 exact ⟨by simp [Dk.writeE,h,hi],by simp [Dk.writeD,h,hi,Dk.write,hu]⟩
theorem paste_two (a E:List UInt8) (y:UInt8) (z:Nat) (h:E.length+1≤z):paste (paste (a++List.replicate z 0) (a.length+1) E) a.length [y]=a++(y :: E)++List.replicate (z - (E.length+1)) 0:=by
 obtain ⟨m,rfl⟩:∃ m,z=m+1:=⟨z - 1,by omega⟩
 have e1:(a++List.replicate (m+1) (0:UInt8)).take (a.length+1)=a++[0]:=by
  rw [List.replicate_succ,List.take_append,List.take_of_length_le (by omega)]
  simp
 have e2:(a++List.replicate (m+1) (0:UInt8)).drop (a.length+1+E.length)=List.replicate (m+1 - (E.length+1)) 0:=by
  rw [List.drop_append,List.drop_eq_nil_of_le (by omega),List.nil_append,List.drop_replicate]
  congr 1
  omega
 have e3:paste (a++List.replicate (m+1) (0:UInt8)) (a.length+1) E=a++0 :: (E++List.replicate (m+1 - (E.length+1)) 0):=by
  unfold paste
  rw [e1,e2]
  simp
 rw [e3]
 unfold paste
 rw [List.take_left,List.length_singleton,← List.drop_drop,List.drop_left]
 simp
theorem clean_fit {D:Dk} {L:List ByteArray} (h:Clean D L) (l:List ByteArray) (hl:l.any longB=false) (hfit:(encAll head0 (L++l)).length≤D.dur.length) :
  ∃ D',D.apps (tp0.adds L) false l=(0,tp0.adds (L++l),false,D')∧Clean D' (L++l)∧D'.dur.length=D.dur.length:=by
 have hsm:∀ r,r∈L++l→r.size≤65536:=fun r hr=>by
  rcases List.mem_append.1 hr with h' | h'
  ·exact h.small r h'
  ·exact not_long hl h'
 have hle:=hfit
 rw [enc_L,List.length_append] at hle
 have hsz:=tpL_size L
 by_cases h0:l=[]
 ·subst h0
  refine ⟨D,?_,by rw [List.append_nil];exact h,rfl⟩
  rw [List.append_nil]
  simp only [Dk.apps,hl,Bool.or_self,Bool.false_eq_true,if_false,if_true]
  rw [if_neg (by simp [encAll];omega)]
 ·obtain ⟨z,hv⟩:=h.vis
  obtain ⟨y,E,hE⟩:∃ y E,encAll (tp0.adds L).head l=y :: E:=by
   cases hE:encAll (tp0.adds L).head l with
   | nil =>
    have:=encAll_len l (tp0.adds L).head
    rw [hE] at this
    exact absurd (List.eq_nil_of_length_eq_zero (by simpa using this)) h0
   | cons y E=>exact ⟨y,E,rfl⟩
  rw [hE,List.length_cons] at hle
  have hdl:D.dur.length=(encAll head0 L).length+z:=by rw [h.dur,hv];simp
  have w1:=writeU (D:=D) (o:=((tp0.adds L).size:Int)+1) (s:=str E) h.off h.left (by omega) (by rw [str_size];omega)
  have w2:=writeU (D:=(D.put (((tp0.adds L).size:Int)+1).toNat (str E)).sync) (o:=((tp0.adds L).size:Int)) (s:=str [y]) h.off h.left (by omega) (by
   rw [str_size]
   simp only [Dk.sync,Dk.put]
   rw [paste_length _ _ _ (by rw [hv];simp [str];omega),hv]
   simp;omega)
  have hE2:(D.apps (tp0.adds L) false l)=(0,(tp0.adds L).adds l,false,(((D.put (((tp0.adds L).size:Int)+1).toNat (str E)).sync).put (tp0.adds L).size (str [y])).sync):=by
   have s1:(D.put (((tp0.adds L).size:Int)+1).toNat (str E)).syncE=0:=by simp [Dk.syncE,Dk.put,h.off]
   have s2:(D.put (((tp0.adds L).size:Int)+1).toNat (str E)).syncD=(D.put (((tp0.adds L).size:Int)+1).toNat (str E)).sync:=by simp [Dk.syncD,Dk.put,h.off]
   have s3:(((D.put (((tp0.adds L).size:Int)+1).toNat (str E)).sync).put (tp0.adds L).size (str [y])).syncE=0:=by simp [Dk.syncE,Dk.put,Dk.sync,h.off]
   have s4:(((D.put (((tp0.adds L).size:Int)+1).toNat (str E)).sync).put (tp0.adds L).size (str [y])).syncD=(((D.put (((tp0.adds L).size:Int)+1).toNat (str E)).sync).put (tp0.adds L).size (str [y])).sync:=by simp [Dk.syncD,Dk.put,Dk.sync,h.off]
   rw [Int.toNat_natCast] at w2
   have hr:D.runs [.write (((tp0.adds L).size:Int)+1) (str E),.sync,.write (tp0.adds L).size (str [y]),.sync]=(0,(((D.put (((tp0.adds L).size:Int)+1).toNat (str E)).sync).put (tp0.adds L).size (str [y])).sync):=by
    simp only [Dk.runs,Dk.doE,Dk.doD,w1.1,w1.2,s1,s2,w2.1,w2.2,s3,s4,if_true]
   simp only [Dk.apps,hl,Bool.or_self,Bool.false_eq_true,if_false,hE,List.drop_succ_cons,List.drop_zero,List.take_succ_cons,List.take_zero,hr,if_true]
   rw [if_neg (by simp;omega),if_neg h0]
  have hvis:paste (paste D.vis (((tp0.adds L).size:Int)+1).toNat E) (tp0.adds L).size [y]=encAll head0 (L++l)++List.replicate (z - (E.length+1)) 0:=by
   rw [hv,hsz,show (((encAll head0 L).length:Int)+1).toNat=(encAll head0 L).length+1 by omega,paste_two _ _ _ _ (by omega),enc_L,hE]
  refine ⟨_,by rw [hE2,← adds_append],⟨?_,?_,rfl,rfl,⟨z - (E.length+1),?_⟩,hsm⟩,?_⟩
  ·simp [Dk.sync,Dk.put,h.off]
  ·simp [Dk.sync,Dk.put,h.left]
  ·exact hvis
  ·show (paste (paste D.vis (((tp0.adds L).size:Int)+1).toNat E) (tp0.adds L).size [y]).length=_
   rw [hvis,List.length_append,List.length_replicate,enc_L,hE,hdl]
   simp;omega
end
section
open Go.RowKit Go.Shelf Go.Lib
set_option maxRecDepth 100000 in
set_option maxHeartbeats 2000000 in
theorem same43_c (l:List Nt) (a b:Value) (w:World) (ha:Sl w a l.length (l.flatMap ntC)) (hb:Sl w b l.length (l.flatMap ntC)):Calls Tryz.prog 18 #[a,b] w fun e w'=>e=.returned (.bool true)∧Fr [] w w':=by
 obtain ⟨aa,ac,rfl⟩:=ha.val
 obtain ⟨ba,bc,rfl⟩:=hb.val
 have HA:=qj ha;have HB:=qj hb
 have hlen:=ha.len
 have HF:=qj (Fr.refl [] w)
 clear ha hb
 obtain ⟨n,hn⟩:∃ n,l.length=n:=⟨_,rfl⟩
 rw [hn] at HA HB hlen ⊢
 have HN:=qj hn
 clear hn
 go_enter Tryz.func18,Tryz.ntmps18
 go_wp2_with fail
 go_loopw [5] (fun iv wr=>∃ (k:Nat),iv=.int .i64 k∧k≤n∧Hid (Fr [] w wr)) (fun iv _=>n - (RowKit.intOf iv).toNat)
 case atStart=>exact ⟨0,rfl,Nat.zero_le _,HF⟩
 case round =>
  clear HF
  obtain ⟨k,rfl,hk,HF⟩:=hrel
  by_cases hlt:k < n
  ·have hlk:k < l.length:=by rw [HN.out];exact hlt
   obtain ⟨ab,ao,hva,hca⟩:=(HA.out.same HF.out).at_ (by omega)
   obtain ⟨bb,bo,hvb,hcb⟩:=(HB.out.same HF.out).at_ (by omega)
   have HCA:Hid (∀ j u,j < 15→(ntC l[k])[j]?=some u→wr.cell? ⟨ab,ao+k*15+j,none⟩=some u):=qj fun j u hj hu=>by
    rw [Nat.add_assoc]
    exact hca _ u (by rw [flat_at ntC_len l k hlk j hj];exact hu)
   have HCB:Hid (∀ j u,j < 15→(ntC l[k])[j]?=some u→wr.cell? ⟨bb,bo+k*15+j,none⟩=some u):=qj fun j u hj hu=>by
    rw [Nat.add_assoc]
    exact hcb _ u (by rw [flat_at ntC_len l k hlk j hj];exact hu)
   subst hva;subst hvb
   clear hca hcb
   generalize l[k]=f at *
   go_wp2_with fail
   refine reg_mix (Fr [] wr) [0,1,2,3,4,5,6,7,8] (by kernel_rfl) (by kernel_rfl) (by kernel_rfl) rfl (Fr.drew _ _) ?_
   have FC:Fr [] wr wr.drew:=Fr.drew _ _
   generalize wr.drew=WC at FC ⊢
   iterate 3 (refine mix_take1 (v:=?_) rfl rfl rfl rfl (fun w hS=>?_) ?_;rotate_left;(focus (clear hS;go_simp;rfl));simp only [qu,qv,qx])
   (refine mix_take1 (v:=ntV f) rfl rfl rfl rfl (fun w hS=>?_) ?_;(focus (have x0:=hS.cel (HCA.out 0 _ (by omega) rfl) (by simp);have x1:=hS.cel (HCA.out 1 _ (by omega) rfl) (by simp);have x2:=hS.cel (HCA.out 2 _ (by omega) rfl) (by simp);have x3:=hS.cel (HCA.out 3 _ (by omega) rfl) (by simp);have x4:=hS.cel (HCA.out 4 _ (by omega) rfl) (by simp);have x5:=hS.cel (HCA.out 5 _ (by omega) rfl) (by simp);have x6:=hS.cel (HCA.out 6 _ (by omega) rfl) (by simp);have x7:=hS.cel (HCA.out 7 _ (by omega) rfl) (by simp);have x8:=hS.cel (HCA.out 8 _ (by omega) rfl) (by simp);have x9:=hS.cel (HCA.out 9 _ (by omega) rfl) (by simp);have x10:=hS.cel (HCA.out 10 _ (by omega) rfl) (by simp);have x11:=hS.cel (HCA.out 11 _ (by omega) rfl) (by simp);have x12:=hS.cel (HCA.out 12 _ (by omega) rfl) (by simp);have x13:=hS.cel (HCA.out 13 _ (by omega) rfl) (by simp);have x14:=hS.cel (HCA.out 14 _ (by omega) rfl) (by simp);simp only [Nat.add_zero] at x0;clear hS;go_simp;try rfl));simp only [qu,qv,qx])
   iterate 3 (refine mix_take1 (v:=?_) rfl rfl rfl rfl (fun w hS=>?_) ?_;rotate_left;(focus (clear hS;go_simp;rfl));simp only [qu,qv,qx])
   (refine mix_take1 (v:=ntV f) rfl rfl rfl rfl (fun w hS=>?_) ?_;(focus (have x0:=hS.cel (HCB.out 0 _ (by omega) rfl) (by simp);have x1:=hS.cel (HCB.out 1 _ (by omega) rfl) (by simp);have x2:=hS.cel (HCB.out 2 _ (by omega) rfl) (by simp);have x3:=hS.cel (HCB.out 3 _ (by omega) rfl) (by simp);have x4:=hS.cel (HCB.out 4 _ (by omega) rfl) (by simp);have x5:=hS.cel (HCB.out 5 _ (by omega) rfl) (by simp);have x6:=hS.cel (HCB.out 6 _ (by omega) rfl) (by simp);have x7:=hS.cel (HCB.out 7 _ (by omega) rfl) (by simp);have x8:=hS.cel (HCB.out 8 _ (by omega) rfl) (by simp);have x9:=hS.cel (HCB.out 9 _ (by omega) rfl) (by simp);have x10:=hS.cel (HCB.out 10 _ (by omega) rfl) (by simp);have x11:=hS.cel (HCB.out 11 _ (by omega) rfl) (by simp);have x12:=hS.cel (HCB.out 12 _ (by omega) rfl) (by simp);have x13:=hS.cel (HCB.out 13 _ (by omega) rfl) (by simp);have x14:=hS.cel (HCB.out 14 _ (by omega) rfl) (by simp);simp only [Nat.add_zero] at x0;clear hS;go_simp;try rfl));simp only [qu,qv,qx])
   (refine mix_take1 (v:=.bool false) rfl rfl rfl rfl (fun w hS=>?_) ?_;(focus (clear hS;go_simp));simp only [qu,qv,qx])
   refine mix_end ?_
   have HF2:=qj (HF.out.trans FC)
   clear FC HCA HCB
   go_wp2_with fail
   go_roundw
   case rel=>exact ⟨k+1,by go_num,hlt,HF2⟩
   case measure=>simp [RowKit.intOf];omega
  ·obtain rfl:k=n:=by omega
   go_wp2_with fail
   go_ret
   exact ⟨rfl,HF.out⟩
theorem rnd_lt {w:World} (h:RndAt w):1 < w.heap.size:=by
 obtain ⟨_,_,h⟩:=h
 exact blk_lt h
set_option maxRecDepth 100000 in
set_option maxHeartbeats 2000000 in
theorem opened_c (s:Su) (bv kv:Value) (w:World) (hs:SuAt w bv kv s) (hok:suOk s=true) (o:Nat) (ho:s.own=(o:Int)) (hbk:0 < s.bks.length) (hkz:0 < s.keys.length) (hg:∀ g,(bv.ownBlock=some g∨kv.ownBlock=some g)→g < w.heap.size) (a:Addr) (hA:DmgAt w a) (hR:RndAt w) :
  Calls Tryz.prog 11 #[suV s bv kv] w fun e w'=>∃ x J,e=.returned (.tuple #[.pointer (some ⟨x.cb,0,none⟩),.pointer (some ⟨J.db,0,none⟩),.bool true])∧CjIn w' s x J∧x.cp=⟨[],0,ends0 s.keys o s.keys.length⟩∧x.br=false∧J.t=tp0.adds []∧J.br=false∧J.D=Dk.new 65536∧Fr [] w w'∧(∀ k,k∈cjB x J→w.heap.size≤k)∧∀ g,(x.bv.ownBlock=some g∨x.kv.ownBlock=some g)→w.heap.size≤g:=by
 obtain ⟨ba,bc,rfl⟩:=hs.bks.val
 obtain ⟨ka,kc,rfl⟩:=hs.keys.val
 have hcl:=clean_open (clean_new 65536)
 have CN:=qj fun W=>new_ok 65536 W (by omega) (by omega)
 have hrl:=rnd_lt hR
 have CO:=qj fun (W W2:World) (db:Nat) (fp:List Nat) (hf:Fr [] w W) (hf2:Fr [] W W2) (hD:DkA W2 db fp (Dk.new 65536)) (hy:∀ k,k∈fp→W.heap.size≤k)=>CAOpen_c o ho (hs.same (hf.trans hf2)) hok hbk (by simp [tp0,Tp.adds]) hkz (fun g hq hm=>by have:=hg g hq;have:=hy g hm;have:=hf.size;omega) hD a (hA.fr (hf.trans hf2) (by simp)) (hR.same (hf.trans hf2) (by simp)) (fun hm=>by have:=hy _ hm;have:=hf.size;omega) (Nat.zero_le _) hcl (by rw [show (tp0.adds []).recs=[] from rfl];exact RepOk.nil _)
 generalize s.bks.length=bn at *
 have F1:=Fr.alloc [] w (.cells (suC s (.slice ba bn bc) (.slice ka s.keys.length kc)).toArray 48)
 have B1:=qm w (.cells (suC s (.slice ba bn bc) (.slice ka s.keys.length kc)).toArray 48)
 have HF1:=qj F1;have HB1:=qj B1
 obtain ⟨cp,hcp⟩:∃ cp:Cp,(⟨[],0,ends0 s.keys o s.keys.length⟩:Cp)=cp:=⟨_,rfl⟩
 rw [hcp] at CO
 have HCP:=qj hcp
 clear hcp F1 B1 hs hok hbk hkz hg hA hR hcl ho
 obtain ⟨ow,bl,ra,rc,rs,rr,kl⟩:=s
 dsimp only [suC,suV] at *
 go_enter Tryz.func11,Tryz.ntmps11
 go_wp2_with fail
 refine (CN.out _).mono ?_
 rintro e w2 ⟨db,fp,rfl,hD,f2,hy⟩
 have CO2:=qj (CO.out _ w2 db fp HF1.out f2 hD hy)
 have HF2:=qj (HF1.out.trans f2)
 have HB2:=qj (f2.keep HB1.out (by simp))
 have HY:Hid (∀ k,k∈fp→w.heap.size≤k):=qj fun k hk=>Nat.le_trans HF1.out.size (hy k hk)
 have s0:=qd HB2.out 0;have s1:=qd HB2.out 1;have s2:=qd HB2.out 2;have s3:=qd HB2.out 3;have s4:=qd HB2.out 4;have s5:=qd HB2.out 5;have s6:=qd HB2.out 6
 clear CO hD f2 hy CN
 go_wp2_with fail
 refine CO2.out.mono ?_
 rintro e w3 ⟨x,vr,fp',rfl,hcj,hxc,hxb,hU,hgy⟩
 have HR:Hid (∃ x' J,x'.cb=x.cb∧J.db=db∧CjIn w3 ⟨ow,bl,ra,rc,rs,rr,kl⟩ x' J∧x'.cp=cp∧x'.br=false∧J.t=tp0.adds []∧J.br=false∧J.D=Dk.new 65536∧Fr [] w w3∧(∀ k,k∈cjB x' J→w.heap.size≤k)∧∀ g,(x'.bv.ownBlock=some g∨x'.kv.ownBlock=some g)→w.heap.size≤g):=qj ⟨x,_,rfl,rfl,hcj,hxc,hxb,rfl,rfl,rfl,HF2.out.step hU.fr (fun k hk=>.inr (HY.out k hk)),fun k hk=>by
  rcases hU.2 k hk with h | h
  ·exact HY.out k h
  ·exact Nat.le_trans HF2.out.size h,fun g hg=>Nat.le_trans HF2.out.size (hgy g hg)⟩
 generalize x.cb=xcb at *
 clear CO2 hcj hxc hxb hU hgy s0 s1 s2 s3 s4 s5 s6
 go_wp2_with fail
 refine bodyPost_ret (v:=.tuple #[.pointer (some ⟨xcb,0,none⟩),.pointer (some ⟨db,0,none⟩),.bool true]) (by simp [results,Tryz.results11,go_sem]) rfl ?_
 obtain ⟨x',J,h1,h2,h3,h4,h5⟩:=HR.out
 exact ⟨x',J,by rw [h1,h2],h3,by rw [h4,HCP.out],h5⟩
end
section
open Go.RowKit Go.Shelf Go.Lib
def poE (l:List Ev):Po:=⟨150,0,1,3,50,false,l⟩
def chE (l:List Ev):Ch:=⟨150,0,10,5,20,30,[⟨1,0,3⟩],[poE l]⟩
theorem derA:deriveM exS [ntA,ntB] 150 0=chE []:=by kernel_rfl
theorem derB:deriveM exS [ntA,ntB,ntA] 150 0=chE []:=by kernel_rfl
theorem derO:deriveM exS [ntA,ntB,ntO 0] 150 0=chE [⟨2,55,1⟩]:=by kernel_rfl
theorem derP:deriveM exS [ntA,ntB,ntO 1] 150 0=chE []:=by kernel_rfl
theorem lifeE:LifeOk [⟨1,0,3⟩]:=⟨by decide,fun k h=>by
 obtain rfl:k=0:=by simpa using h
 exact ⟨by decide,rfl,Int.le_refl _,rfl⟩⟩
theorem chOkE (l:List Ev) (h:(decide (l.length≤20) && evsGo 50 l)=true):ChOk (chE l):=⟨lifeE,rfl,rfl,by simp [chE],fun p hp=>by
 simp only [chE,List.mem_singleton] at hp
 subst hp
 refine ⟨rfl,?_⟩
 show (rulB 10 5 20 30 && cmB 150 0 1 3 50 && decide (l.length≤20) && evsGo 50 l)=true
 rw [Bool.and_assoc,h];decide,by simp [chE]⟩
theorem moOkA:MoOk (chE []) (poE []):=⟨rfl,chOkE [] (by decide),trivial,.inr ⟨65,rfl,by decide,rfl,rfl,rfl⟩⟩
theorem moOkO:MoOk (chE [⟨2,55,1⟩]) (poE [⟨2,55,1⟩]):=⟨rfl,chOkE _ (by decide),⟨by decide,by decide,trivial⟩,.inl rfl⟩
theorem txtA:str (txtN ntA)=⟨#[2,172,2,2,0,6]⟩:=by kernel_rfl
theorem resA (t:Int):resM (chE []) (poE []) t=if 65≤t then 1 else 0:=rfl
theorem resO (t:Int):resM (chE [⟨2,55,1⟩]) (poE [⟨2,55,1⟩]) t=0:=rfl
theorem withA64 (w:World):Calls Tryz.prog 24 #[ntV ntA,.int .i64 64] w fun e w'=>e=.returned (.int .i64 0)∧Fr [] w w':=by
 have h:=with_c ntA 64 (poE []) (by rw [derB];exact moOkA) (by decide) w
 rw [derB,resA] at h
 exact h
theorem withA65 (w:World):Calls Tryz.prog 24 #[ntV ntA,.int .i64 65] w fun e w'=>e=.returned (.int .i64 1)∧Fr [] w w':=by
 have h:=with_c ntA 65 (poE []) (by rw [derB];exact moOkA) (by decide) w
 rw [derB,resA] at h
 exact h
theorem withO0 (w:World):Calls Tryz.prog 24 #[ntV (ntO 0),.int .i64 65] w fun e w'=>e=.returned (.int .i64 0)∧Fr [] w w':=by
 have h:=with_c (ntO 0) 65 (poE [⟨2,55,1⟩]) (by rw [derO];exact moOkO) (by decide) w
 rw [derO,resO] at h
 exact h
theorem withO1 (w:World):Calls Tryz.prog 24 #[ntV (ntO 1),.int .i64 65] w fun e w'=>e=.returned (.int .i64 1)∧Fr [] w w':=by
 have h:=with_c (ntO 1) 65 (poE []) (by rw [derP];exact moOkA) (by decide) w
 rw [derP,resA] at h
 exact h
end
section
open Go.RowKit Go.Shelf Go.Lib
structure St (w:World) (s:Su) (x:CaR) (J:JR) (L:List ByteArray) (c:Cp):Prop where
 cj:CjIn w s x J
 tape:J.t=tp0.adds L
 jb:J.br=false
 cl:Clean J.D L
 dl:J.D.dur.length=65536
 cp:x.cp=c
 br:x.br=false
theorem St.fr {w w':World} {s:Su} {x:CaR} {J:JR} {L:List ByteArray} {c:Cp} {S:List Nat} (h:St w s x J L c) (hf:Fr S w w') (hS:∀ k,k∈cjB x J→k∉S) (hA:∀ g,(x.bv.ownBlock=some g∨x.kv.ownBlock=some g)→g∉S):St w' s x J L c :=
 ⟨h.cj.fr hf hS hA,h.tape,h.jb,h.cl,h.dl,h.cp,h.br⟩
theorem St.same {w w':World} {s:Su} {x:CaR} {J:JR} {L:List ByteArray} {c:Cp} (h:St w s x J L c) (hf:Fr [] w w'):St w' s x J L c:=⟨h.cj.same hf,h.tape,h.jb,h.cl,h.dl,h.cp,h.br⟩
structure Stp (x x':CaR) (J J':JR) (w w':World):Prop where
 up:Upd (cjB x J) (cjB x' J') w w'
 bv:x'.bv=x.bv
 kv:x'.kv=x.kv
 cb:x'.cb=x.cb
 db:J'.db=J.db
theorem add_s {w:World} {s:Su} {x:CaR} {J:JR} {L:List ByteArray} {c:Cp} (h:St w s x J L c) (t:Nt) (hq:(fmN t && decide (t.src=s.own) && decide (c.added < 40))=true) (hl:∀ e,e∈c.ends→e.2.sent.length < 100)
  (hN:(encAll head0 (L++[recB 1 (str (txtN t))])).length≤65536) (hz:(recB 1 (str (txtN t))).size≤65536) (hrl:L.length≤10000000) (hR:RndAt w) :
  Calls Tryz.prog 12 #[.pointer (some ⟨x.cb,0,none⟩),ntV t] w fun e w'=>e=.returned (.int .i64 0)∧∃ x' J',St w' s x' J' (L++[recB 1 (str (txtN t))]) (c.add t)∧Stp x x' J J' w w':=by
 have hlong:[recB 1 (str (txtN t))].any longB=false:=by
  simp only [List.any_cons,List.any_nil,Bool.or_false]
  unfold longB
  simp only [decide_eq_false_iff_not]
  omega
 obtain ⟨D',h1,h2,h3⟩:=clean_fit h.cl [recB 1 (str (txtN t))] hlong (by rw [h.dl];exact hN)
 have hap:J.D.apps J.t J.br [recB 1 (str (txtN t))]=(0,tp0.adds (L++[recB 1 (str (txtN t))]),false,D'):=by rw [h.tape,h.jb];exact h1
 have hca:x.added=c.added:=by rw [← h.cp];rfl
 have hpe:J.D.pend.length≤4000000000:=by rw [h.cl.pend];simp
 have hen:=hN
 rw [enc_L,List.length_append] at hen
 refine (CAAdd_c h.cj t (by rw [hca];simp only [Bool.and_eq_true,decide_eq_true_eq] at hq;omega) h.br (by rw [hca];exact hq) (fun r hr=>hl (r.p,r.E) (by rw [← h.cp];exact List.mem_map.2 ⟨r,hr,rfl⟩)) ?_ ?_ ?_ ?_ hR hpe).mono ?_
 ·rw [h.tape,tpL_head];exact headOf_size _ _ head0_size
 ·rw [h.tape,tpL_size,h.dl];omega
 ·rw [h.tape,tpL_recs];exact hrl
 ·rw [h.tape];omega
 ·rintro e w' ⟨rfl,vr',fp',x',hcj,hU,hx,_⟩
  rw [hap] at hcj hU hx ⊢
  obtain ⟨q,rfl⟩:=hx rfl
  refine ⟨rfl,_,_,⟨hcj,rfl,rfl,h2,by show D'.dur.length=_;rw [h3,h.dl],?_,rfl⟩,⟨hU,rfl,rfl,rfl,rfl⟩⟩
  rw [addR_cp,← h.cp];rfl
theorem ends_split {i:Int} {E:En}:∀ {L:List EnR},getA (L.map fun r=>(r.p,r.E)) i=some E→∃ A r B,L=A++r :: B∧r.p=i∧r.E=E∧getA (epV L) i=some (.pointer (some ⟨r.eb,0,none⟩))
 | [],h=>by simp [getA] at h
 | r :: L,h=>by
  simp only [List.map_cons,getA] at h
  by_cases hp:r.p=i
  ·rw [if_pos hp] at h
   exact ⟨[],r,L,rfl,hp,Option.some.inj h,by simp only [epV,List.map_cons,getA];rw [if_pos hp]⟩
  ·rw [if_neg hp] at h
   obtain ⟨A,q,B,h1,h2,h3,h4⟩:=ends_split h
   refine ⟨r :: A,q,B,by rw [h1];rfl,h2,h3,?_⟩
   simp only [epV,List.map_cons,getA]
   rw [if_neg hp]
   exact h4
theorem CaIn.nodupP {w:World} {s:Su} {x:CaR} (h:CaIn w s x):(x.L.map (·.p)).Nodup:=by
 have:=h.ends.nodup
 rw [epV,List.map_map] at this
 exact this
theorem in_s {w:World} {s:Su} {x:CaR} {J:JR} {L:List ByteArray} {c:Cp} (h:St w s x J L c) (f:Nat) (E:En) (hE:getA c.ends (f:Int)=some E) (p:Pk) (hfl:f < s.keys.length) (hso:0≤s.own∧s.own≤1000) (hfb:f≤1000)
  (hkz:(s.keys.getD f ByteArray.empty).size≤1000000) (ho:E.oth=keyM s.keys f s.own) (hp:okP E p=true) (hrc:E.recv≤1000) (hac:E.acked≤1000) (hsl:E.sent.length≤1000) (hel:E.early.length≤1000)
  (hlb:∀ s,s∈inL E p→s.size≤1000000) (hll:(inL E p).length≤1000000)
  (hN:(encAll head0 (L++[recB 2 (pkT (f:Int) p)])).length≤65536) (hz:(recB 2 (pkT (f:Int) p)).size≤65536) (hrl:L.length≤10000000) (hR:RndAt w) (hR2:1∉cjB x J) :
  Calls Tryz.prog 14 #[.pointer (some ⟨x.cb,0,none⟩),.int .i64 (f:Int),pkV p] w fun e w'=>e=.returned (.tuple #[.int .i64 ((inL E p).length:Nat),.int .i64 0])∧∃ x' J',St w' s x' J' (L++[recB 2 (pkT (f:Int) p)]) (c.take (f:Int) E p)∧Stp x x' J J' w w':=by
 have hlong:[recB 2 (pkT (f:Int) p)].any longB=false:=by
  simp only [List.any_cons,List.any_nil,Bool.or_false]
  unfold longB
  simp only [decide_eq_false_iff_not]
  omega
 obtain ⟨D',h1,h2,h3⟩:=clean_fit h.cl [recB 2 (pkT (f:Int) p)] hlong (by rw [h.dl];exact hN)
 have hap:J.D.apps J.t J.br [recB 2 (pkT (f:Int) p)]=(0,tp0.adds (L++[recB 2 (pkT (f:Int) p)]),false,D'):=by rw [h.tape,h.jb];exact h1
 have hpe:J.D.pend.length≤4000000000:=by rw [h.cl.pend];simp
 have hen:=hN
 rw [enc_L,List.length_append] at hen
 have hcp:=h.cp
 subst hcp
 obtain ⟨A,r,B,hL,hrp,hrE,hg⟩:=ends_split hE
 subst hrE
 rw [← hrp] at hg hap ⊢
 rw [← hrp] at h1 hen hN
 refine (CAIn_c h.cj hL hg p h.br f hrp hfl hso hfb hkz ho hp hrc hac hsl hel hlb hll ?_ ?_ ?_ ?_ hR hR2 hpe).mono ?_
 ·rw [h.tape,tpL_head];exact headOf_size _ _ head0_size
 ·rw [h.tape,tpL_size,h.dl];omega
 ·rw [h.tape,tpL_recs];exact hrl
 ·rw [h.tape];omega
 ·rintro e w' ⟨rfl,vr',fp',x',hcj,hU,hx⟩
  rw [hap] at hcj hU hx ⊢
  rw [if_pos rfl] at hx ⊢
  subst hx
  refine ⟨rfl,_,_,⟨hcj,by rw [hrp],rfl,by rw [hrp];exact h2,by show D'.dur.length=_;rw [h3,h.dl],?_,rfl⟩,⟨hU,rfl,rfl,rfl,rfl⟩⟩
  exact takeR_cp hL h.cj.ca.nodupP p
theorem reopen_s {w:World} {s:Su} {bv kv:Value} {db:Nat} {fp:List Nat} {D:Dk} {L:List ByteArray} {c:Cp} (o:Nat) (ho:s.own=(o:Int)) (hs:SuAt w bv kv s) (hok:suOk s=true) (hbk:0 < s.bks.length) (hkz:0 < s.keys.length) (hsa:∀ g,(bv.ownBlock=some g∨kv.ownBlock=some g)→g∉fp) (hD:DkA w db fp D) (a:Addr) (hA:DmgAt w a) (hR:RndAt w) (hRf:1∉fp)
  (hcl:Clean D L) (hdl:D.dur.length=65536) (hrl:L.length≤1000000) (hrep:RepOk s.own ⟨[],0,ends0 s.keys o s.keys.length⟩ L c) :
  Calls Tryz.prog 15 #[.pointer (some ⟨db,0,none⟩),suV s bv kv] w fun e w'=>∃ x J,e=.returned (.tuple #[.pointer (some ⟨x.cb,0,none⟩),.int .i64 0])∧St w' s x J L c∧Upd fp (cjB x J) w w'∧∀ g,(x.bv.ownBlock=some g∨x.kv.ownBlock=some g)→w.heap.size≤g:=by
 refine (CAOpen_c o ho hs hok hbk (by rw [tpL_recs];exact hrl) hkz hsa hD a hA hR hRf (by rw [hcl.pend];simp) (clean_open hcl) (by rw [tpL_recs];exact hrep)).mono ?_
 rintro e w' ⟨x,vr,fp',rfl,hcj,hcp,hbr,hU,hgy⟩
 exact ⟨x,_,rfl,⟨hcj,rfl,rfl,hcl,hdl,hcp,hbr⟩,hU,hgy⟩
structure Two (n0:Nat) (w:World) (s t:Su) (x y:CaR) (J K:JR) (L M:List ByteArray) (c d:Cp):Prop where
 a:St w s x J L c
 b:St w t y K M d
 ap:∀ k,k∈cjB x J→k∉cjB y K
 sa:∀ g,(x.bv.ownBlock=some g∨x.kv.ownBlock=some g)→g∉cjB y K
 sb:∀ g,(y.bv.ownBlock=some g∨y.kv.ownBlock=some g)→g∉cjB x J
 ya:∀ k,k∈cjB x J→n0≤k
 yb:∀ k,k∈cjB y K→n0≤k
 n0:n0≤w.heap.size
section
variable {n0:Nat} {w w':World} {s t:Su} {x y x':CaR} {J K J':JR} {L M L':List ByteArray} {c d c':Cp}
theorem Two.swap (h:Two n0 w s t x y J K L M c d):Two n0 w t s y x K J M L d c:=⟨h.b,h.a,fun k h1 h2=>h.ap k h2 h1,h.sb,h.sa,h.yb,h.ya,h.n0⟩
theorem Two.same (h:Two n0 w s t x y J K L M c d) (hf:Fr [] w w'):Two n0 w' s t x y J K L M c d:=⟨h.a.same hf,h.b.same hf,h.ap,h.sa,h.sb,h.ya,h.yb,Nat.le_trans h.n0 hf.size⟩
theorem Two.step (h:Two n0 w s t x y J K L M c d) (h':St w' s x' J' L' c') (hp:Stp x x' J J' w w'):Two n0 w' s t x' y J' K L' M c' d:=by
 have hsz:=hp.up.fr.size
 have lt:∀ k,k∈cjB y K→k < w.heap.size:=fun k hk=>h.b.cj.lt hk
 refine ⟨h',h.b.fr hp.up.fr (fun k hk hm=>h.ap k hm hk) (fun g hg hm=>h.sb g hg hm),fun k hk hm=>?_,fun g hg=>?_,fun g hg hm=>?_,fun k hk=>?_,h.yb,Nat.le_trans h.n0 hsz⟩
 ·rcases hp.up.2 k hk with h1 | h1
  ·exact h.ap k h1 hm
  ·have:=lt k hm;omega
 ·rw [hp.bv,hp.kv] at hg;exact h.sa g hg
 ·rcases hp.up.2 g hm with h1 | h1
  ·exact h.sb g hg h1
  ·have:=(h.b.cj.ca.suA g hg).1;omega
 ·rcases hp.up.2 k hk with h1 | h1
  ·exact h.ya k h1
  ·exact Nat.le_trans h.n0 h1
theorem Two.fr (h:Two n0 w s t x y J K L M c d) (hp:Stp x x' J J' w w') {w0:World} (hf:Fr [] w0 w) (h0:w0.heap.size≤n0):Fr [] w0 w':=hf.step hp.up.fr (fun k hk=>.inr (Nat.le_trans h0 (h.ya k hk)))
end
end
section
open Go.RowKit Go.Shelf Go.Lib
theorem enc_1000 (l:List ByteArray) (h:∀ r,r∈l→r.size≤1000):∀ hd:ByteArray,(encAll hd l).length≤l.length*1100:=by
 induction l with
 | nil=>intro hd;simp [encAll]
 | cons r l ih =>
  intro hd
  have h1:=ih (fun x hx=>h x (by simp [hx])) (chainM hd r)
  have h2:=h r (by simp)
  have h3:=(encZ_len (2*r.size) (by omega)).1
  have h4:(recL hd r).length=33+(putS r).length:=by
   unfold recL
   rw [List.length_cons,List.length_append,bts_len,chainM_size];omega
  rw [encAll,List.length_append,h4,putS,List.length_append,bts_len,List.length_cons]
  omega
theorem node_32 (a b:ByteArray):(nodeM a b).size=32:=shaB_size _
theorem gen_seal (k:ByteArray) (hk:k.size=32) (p:Pk) (h1:inB p.ser 0 100=true) (h2:inB p.ack 0 100=true) (h3:p.body.size≤200) (h4:p.ser≠0):genP k (sealO k p)=true:=by
 unfold genP sealO
 have h5:keyB k=true:=by unfold keyB;simp [hk]
 have h6:keyB (sealP k p)=true:=by unfold keyB sealP;simp [node_32]
 have h7:sealP k ⟨p.ser,p.ack,p.body,sealP k p⟩=sealP k p:=rfl
 simp only [h5,h6,h1,h2,h7,h3,h4,decide_true,decide_false,Bool.false_and,Bool.not_false,Bool.and_true]
def tA:ByteArray:=str (txtN ntA)
def tB:ByteArray:=str (txtN ntB)
def kyA:ByteArray:=keyM exS.keys 0 1
def kyB:ByteArray:=keyM exS.keys 1 0
theorem kyA_32:kyA.size=32:=node_32 _ _
theorem kyB_32:kyB.size=32:=node_32 _ _
theorem tA_72:tA.size≤72:=txt_size (by decide)
theorem tB_72:tB.size≤72:=txt_size (by decide)
theorem tA_sz:tA.size≤200:=Nat.le_trans tA_72 (by decide)
theorem tB_sz:tB.size≤200:=Nat.le_trans tB_72 (by decide)
def cpA0:Cp:=⟨[],0,[(1,⟨kyA,kyB,[],0,0,[]⟩)]⟩
def cpB0:Cp:=⟨[],0,[(0,⟨kyB,kyA,[],0,0,[]⟩)]⟩
def enA:En:=⟨kyA,kyB,[tA],0,0,[]⟩
def enB_:En:=⟨kyB,kyA,[tB],0,0,[]⟩
def pkA:Pk:=⟨1,0,tA,sealP kyA ⟨1,0,tA,⟨#[]⟩⟩⟩
def pkB:Pk:=⟨1,0,tB,sealP kyB ⟨1,0,tB,⟨#[]⟩⟩⟩
theorem outPA:outP enA=[pkA]:=rfl
theorem outPB:outP enB_=[pkB]:=rfl
theorem okPA:okP enB_ pkA=true:=by
 unfold okP
 rw [show genP enB_.oth pkA=true from gen_seal kyA kyA_32 ⟨1,0,tA,⟨#[]⟩⟩ (by decide) (by decide) tA_sz (by decide)]
 rfl
theorem okPB:okP enA pkB=true:=by
 unfold okP
 rw [show genP enA.oth pkB=true from gen_seal kyB kyB_32 ⟨1,0,tB,⟨#[]⟩⟩ (by decide) (by decide) tB_sz (by decide)]
 rfl
theorem inPA:inL enB_ pkA=[tA]:=rfl
theorem inPB:inL enA pkB=[tB]:=rfl
theorem rdA:readN 0 (bts tA)=some ntA:=readN_txt (f:=ntA) (by decide)
theorem rdB:readN 1 (bts tB)=some ntB:=readN_txt (f:=ntB) (by decide)
theorem takeB:((⟨[(ntB,true)],1,[(0,enB_)]⟩:Cp).take 0 enB_ pkA).nts=[(ntB,true),(ntA,true)]:=by
 unfold Cp.take tkN
 rw [inPA]
 simp only [List.foldl_cons,List.foldl_nil,tk1,rdA]
 rfl
theorem takeA:((⟨[(ntA,true)],1,[(1,enA)]⟩:Cp).take 1 enA pkB).nts=[(ntA,true),(ntB,true)]:=by
 unfold Cp.take tkN
 rw [inPB]
 simp only [List.foldl_cons,List.foldl_nil,tk1,rdB]
 rfl
theorem sortAB:SortK keyT [ntA,ntB]:=by
 unfold SortK
 simp only [List.pairwise_cons,List.mem_singleton,forall_eq,List.not_mem_nil,false_implies,implies_true,List.Pairwise.nil,and_true]
 decide
theorem injAB:∀ x,x∈[ntA,ntB]→∀ y,y∈[ntA,ntB]→keyT x=keyT y→x=y:=by
 intro x hx y hy h
 simp only [List.mem_cons,List.not_mem_nil,or_false] at hx hy
 rcases hx with rfl | rfl <;> rcases hy with rfl | rfl
 ·rfl
 ·exact absurd (List.cons.inj h).1 (by decide)
 ·exact absurd (List.cons.inj h).1 (by decide)
 ·rfl
def rcA:ByteArray:=recB 1 tA
def rcB:ByteArray:=recB 1 tB
def rpkA:ByteArray:=recB 2 (pkT 0 pkA)
def rpkB:ByteArray:=recB 2 (pkT 1 pkB)
theorem rec_len (k:UInt8) (v:ByteArray):(recB k v).size=v.size+1:=by
 rw [← bts_len,rec_bts,List.length_cons,bts_len]
theorem putS_len (s:ByteArray) (h:s.size≤1000):(putS s).length≤s.size+3:=by
 have:=(encZ_len (2*s.size) (by omega)).1
 rw [putS,List.length_append,bts_len];omega
theorem rp_len (i:Int) (p:Pk) (h1:(putA [i,p.ser,p.ack]).length≤10) (h2:p.body.size≤200) (h3:p.sl.size=32):(recB 2 (pkT i p)).size≤1000:=by
 have:=putS_len p.body (by omega)
 rw [← bts_len,pkT_bts,List.length_cons,List.length_append,List.length_append,bts_len,h3]
 omega
theorem rc_sz:rcA.size≤1000∧rcB.size≤1000∧rpkA.size≤1000∧rpkB.size≤1000:=by
 refine ⟨?_,?_,rp_len 0 pkA (by simp only [putA,List.flatMap_cons,List.flatMap_nil,pkA,putZ];rw [show zig 0=0 from rfl,show zig 1=2 from rfl,encZ_one (by decide),encZ_one (by decide)];simp) tA_sz (node_32 _ _),rp_len 1 pkB (by simp only [putA,List.flatMap_cons,List.flatMap_nil,pkB,putZ];rw [show zig 0=0 from rfl,show zig 1=2 from rfl,encZ_one (by decide),encZ_one (by decide)];simp) tB_sz (node_32 _ _)⟩
 ·have:=tA_sz;rw [rcA,rec_len];omega
 ·have:=tB_sz;rw [rcB,rec_len];omega
theorem repA:RepOk exS.own cpA0 [rcA,rpkB] ((⟨[(ntA,true)],1,[(1,enA)]⟩:Cp).take 1 enA pkB) :=
 .own ntA _ (by decide) rfl (by decide) (fun e he=>by simp only [cpA0,List.mem_singleton] at he;subst he;decide)
  (.pkt 1 enA pkB _ rfl okPB (by decide) (by decide) (by decide) (by decide) (by decide) (fun s hs=>by rw [inPB,List.mem_singleton] at hs;subst hs;have:=tB_sz;omega) (by rw [inPB];decide) (.nil _))
end
end Go.Proofs.YtledkokhghjfmaaGreatDoor
