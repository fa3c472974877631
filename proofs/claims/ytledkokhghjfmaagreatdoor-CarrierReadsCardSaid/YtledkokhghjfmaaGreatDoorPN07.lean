/-
  A range over an iterator that writes variables of its own, where the round owns blocks that come and go.
-/
import Derived.Test.YtledkokhghjfmaaGreatDoorPN04
import Derived.Test.YtledkokhghjfmaaGreatDoorPN06
import Derived.Test.YtledkokhghjfmaaGreatDoorPS05
namespace Go.Proofs.YtledkokhghjfmaaGreatDoor
section
open Go.RowKit Go.Lib
def FreeU {β:Type} (B:Nat) (I:List Nat→β→World→Prop):Prop:=∀ S s X Y (fp:List Nat),I S s X→Fr fp X Y→(∀ k,k∈fp→B≤k∧k∉S)→I S s Y
structure KpU (S:List Nat) (A B:World):Prop where
 os:B.os=A.os
 tape:B.tape=A.tape
 output:B.output=A.output
 size:A.heap.size≤B.heap.size
 block:∀ k o,k∉S→A.heap[k]?=some o→(∀ r,o≠.loop r)→B.heap[k]?=some o
theorem KpU.trans {S:List Nat} {A B C:World} (h:KpU S A B) (k:KpU S B C):KpU S A C:=⟨k.os.trans h.os,k.tape.trans h.tape,k.output.trans h.output,Nat.le_trans h.size k.size,fun i o hn ho hc=>k.block i o hn (h.block i o hn ho hc) hc⟩
theorem KpU.of {S:List Nat} {A B:World} (h:Fr S A B):KpU S A B:=⟨h.os,h.tape,h.output,h.size,fun _ _ hn ho _=>h.keep ho hn⟩
theorem KpU.put {S:List Nat} (W:World) (l:Nat) (r:Loop) (o':Obj) (h:W.heap[l]?=some (.loop r)):KpU S W (W.putObj l o') :=
 have hg:=grownBy_putObj' W l o'
 ⟨hg.os,hg.tape,hg.output,hg.size,fun k ok _ hk hkc=>(hg.block k (Array.getElem?_eq_some_iff.1 hk).1 (fun e=>by cases e;rw [h] at hk;cases hk;exact hkc r rfl)).trans hk⟩
def SeqU {α:Type} (n g:Nat) (lb:Array Value) (encs:α→Array Value) (R:List Nat) (ok fin:List α→Prop) (w:World):Prop :=
 ∀ (l:Nat) (J:List Nat→List α→World→Prop) (Jx:List α→World→Prop) (S0:List Nat),FreeU w.heap.size J →
  (∀ S pre x W,J S pre W→(∀ k,k∈S→k < W.heap.size)→ok (pre++[x])→YieldAt Fence.wide (n - 1) Tryz.prog l (encs x) W fun e W' =>
   (e=.returned (.bool true)∧∃ S',J S' (pre++[x]) W'∧KpU S W W'∧∀ k,k∈S'→(k∈S∨W.heap.size≤k)∧k < W'.heap.size)∨(e=.returned (.bool false)∧Jx (pre++[x]) W')) →
  J S0 [] w→(∀ k,k∈S0→k < w.heap.size∧k∉R)→CallsIn Fence.wide n Tryz.prog g (#[.func (.yield l) #[] #[]]++lb) w fun e W'=>(∃ v,e=.returned v)∧((∃ S' ys,fin ys∧J S' ys W')∨∃ pre,ok pre∧Jx pre W')
def endU {α:Type} (I:List Nat→List α→World→Prop) (Ix:Code→List α→World→Prop) (S:List Nat) (xs:List α) (W:World):Exit→Act→World→Prop
 | .normal,_,W'=>∃ S',Fr S W W'∧I S' xs W'∧∀ k,k∈S'→(k∈S∨W.heap.size≤k)∧k < W'.heap.size
 | .ret,_,W'=>Fr S W W'∧Ix .ret xs W'
 | .exit id,_,W'=>Fr S W W'∧Ix (.exit id) xs W'
 | _,_,_=>False
theorem range_u {α:Type} {g:Operand} {ps:Array Tmp} {assign body:Code} {Q:Exit→Act→World→Prop} {a:Act} {w:World} {n gf:Nat} {lb:Array Value} (h1:1≤n)
  (hg:a.eval g=.func (.func gf) #[] lb) (eg:∀ args w,(callFunc gf args).run Tryz.prog w=.ok (.enter gf args) w)
  {encs:α→Array Value} (S0 R:List Nat) (ok fin:List α→Prop) (hS0:∀ k,k∈S0→k < w.heap.size∧k∉R) (hseq:∀ W,Fr [] w W→SeqU (n - 1) gf lb encs R ok fin W) (hps:∀ x,(encs x).size=ps.size)
  (I:List Nat→List α→World→Prop) (Ix:Code→List α→World→Prop) (hI:FreeU w.heap.size I) (hIx:∀ c,FreeFrom w.heap.size (Ix c)) (h0:I S0 [] w)
  (Ax:α→Act→World→Prop) (hAx:∀ x a' W l o o',Ax x a' W→W.heap[l]?=some o→o.isCells=false→Ax x a' (W.putObj l o'))
  (hassign:∀ (l:Nat) (S:List Nat) (pre:List α) (x:α) (W:World) (K:Act→World→Prop),I S pre W→(∀ a' W',Fr [] W W'→Ax x a' W'→K a' W') →
   assign.wpIn (Fence.wide.inRound l) (n - 1 - 1) Tryz.prog (Exit.then K (fun _ _ _=>False)) { tmps:=(ps.zip (encs x)).foldl (fun t (p,v)=>t.setIfInBounds p v) a.tmps,defers:=[] } W)
  (hbody:∀ (l:Nat) (S:List Nat) (pre:List α) (x:α) (a':Act) (W:World),I S pre W→(∀ k,k∈S→k < W.heap.size)→Ax x a' W→ok (pre++[x])→w.heap.size≤W.heap.size→body.wpIn (Fence.wide.inRound l) (n - 1 - 1) Tryz.prog (endU I Ix S (pre++[x]) W) a' W)
  (hdone:∀ (D:Nat) (S:List Nat) (ys:List α) (W:World),w.heap.size≤D→D∉S→fin ys→I S ys W→W.heap[D]?=some (.deferred (some []))→Q .normal { a with defers:={ target:=.collected D,args:=#[] } :: a.defers } W)
  (hstop:∀ (D:Nat) (c:Code) (pre:List α) (W:World),w.heap.size≤D→ok pre→Ix c pre W→W.heap[D]?=some (.deferred (some []))→c.wpIn Fence.wide n Tryz.prog Q { a with defers:={ target:=.collected D,args:=#[] } :: a.defers } W) :
  (Code.rangeFunc g ps assign body).wpIn Fence.wide n Tryz.prog Q a w:=by
 refine wpIn_rangeFunc fun fn hfn=>?_
 obtain ⟨L,hL⟩:∃ L:Nat,w.heap.size+1=L:=⟨_,rfl⟩
 obtain ⟨rd,hrd⟩:∃ rd:LoopState→Option Code→Loop,rd=fun st pe=>{ state:=st,pending:=pe,fn,tmps:=a.tmps,params:=ps,assign,body,defers:=w.heap.size }:=⟨_,rfl⟩
 obtain ⟨W1,hW1⟩:∃ W1,(w.alloc (.deferred (some []))).alloc (.loop (rd .ready none))=W1:=⟨_,rfl⟩
 have f1:Fr [] w W1:=by rw [← hW1];exact (Fr.alloc _ _ _).trans (Fr.alloc _ _ _)
 have bL:W1.heap[L]?=some (.loop (rd .ready none)):=by
  have:=World.alloc_heap_new (w.alloc (.deferred (some []))) (.loop (rd .ready none))
  rw [World.size_alloc,hL,hW1] at this;exact this
 have bD:W1.heap[w.heap.size]?=some (.deferred (some [])):=by
  rw [← hW1];exact (Fr.alloc [] _ _).keep (World.alloc_heap_new w _) (by simp)
 have hz:W1.heap.size=L+1:=by rw [← hW1,← hL];simp
 refine ⟨L,[{ target:=.collected w.heap.size,args:=#[] }],W1,{ target:=.fn (.func gf) lb,args:=#[.func (.yield L) #[] #[]] },W1,gf,#[.func (.yield L) #[] #[]]++lb,W1,?_,?_,?_,?_,fun _=>h1,?_⟩
 ·rw [← hW1,← hL,hrd];exact run_enterLoop_outer _ _ _ _ _
 ·simp only [resolve,hg]
  simp [go_sem]
 ·intro f' _;trivial
 ·simp [invoke,go_sem,eg]
 refine (hseq W1 f1 L (fun S pre W=>(I S pre W∧w.heap.size≤W.heap.size)∧(W.heap[L]?=some (.loop (rd .ready none))∧L∉S)∧W.heap[w.heap.size]?=some (.deferred (some []))∧w.heap.size∉S)
  (fun pre W=>∃ c,Ix c pre W∧W.heap[L]?=some (.loop (rd .done (some c)))∧W.heap[w.heap.size]?=some (.deferred (some []))) S0 ?_ ?_ ⟨⟨hI _ _ _ _ [] h0 f1 (by simp),f1.size⟩,⟨bL,fun hm=>by have:=(hS0 _ hm).1;omega⟩,bD,fun hm=>by have:=(hS0 _ hm).1;omega⟩ (fun k hk=>⟨Nat.lt_of_lt_of_le (hS0 k hk).1 f1.size,(hS0 k hk).2⟩)).mono ?_
 ·rintro S s X Y F ⟨⟨i1,i0⟩,⟨i2,i4⟩,i3,i5⟩ hf hF
  have h1:=hI _ _ _ _ F i1 hf (fun k hk=>⟨by have:=(hF k hk).1;omega,(hF k hk).2⟩)
  exact ⟨⟨h1,by have:=hf.size;omega⟩,⟨hf.keep i2 (fun hm=>by have:=(hF _ hm).1;omega),i4⟩,hf.keep i3 (fun hm=>by have:=(hF _ hm).1;omega),i5⟩
 ·rintro S pre x W ⟨⟨i1,i0⟩,⟨i2,i4⟩,i3,i5⟩ hSl hp
  have hy:=run_yield (P:=Tryz.prog) (args:=encs x) i2 (by rw [hrd];exact hps x)
  rw [hrd] at hy
  refine ⟨fn,_,assign,body,hy,roundIn_of_wpIn hfn (hassign L S pre x W _ i1 fun a' Wa fa ax=>?_)⟩
  have j2:=fa.keep i2 (by simp)
  have j3:=fa.keep i3 (by simp)
  have hlt:=(Array.getElem?_eq_some_iff.1 j2).1
  refine ⟨_,run_beginRound j2 (by rw [hrd]),?_⟩
  obtain ⟨B,hB⟩:∃ B,({ rd .ready none with state:=.busy }:Loop)=B:=⟨_,rfl⟩
  rw [hB]
  have fb:Fr [L] Wa (Wa.putObj L (.loop B)):=fr_put _ _ _
  have k2:(Wa.putObj L (.loop B)).heap[L]?=some (.loop B):=World.putObj_heap_same hlt
  have k3:=fb.keep j3 (by simp;omega)
  have hwa:w.heap.size≤(Wa.putObj L (.loop B)).heap.size:=by have:=fb.size;have:=fa.size;omega
  have kp0:KpU S W (Wa.putObj L (.loop B)):=(KpU.of (fa.mono (by simp))).trans (KpU.put _ _ _ _ j2)
  have hsz:W.heap.size≤(Wa.putObj L (.loop B)).heap.size:=by have:=fb.size;have:=fa.size;omega
  refine wpIn_mono (hbody L S pre x a' _ (hI _ _ _ _ [L] (hI _ _ _ _ [] i1 fa (by simp)) fb (by simp;exact ⟨by omega,i4⟩)) (fun k hk=>Nat.lt_of_lt_of_le (hSl k hk) hsz) (hAx _ _ _ _ _ _ ax j2 rfl) hp hwa) ?_
  have fin:∀ (jump:Option Code) (W3:World),Fr S (Wa.putObj L (.loop B)) W3 →
    (Instr.endRound L jump).run Tryz.prog W3=.ok (.bool jump.isNone) (W3.putObj L (.loop (rd (if jump.isNone then .ready else .done) jump)))∧W3.heap[L]?=some (.loop B) ∧
    (W3.putObj L (.loop (rd (if jump.isNone then .ready else .done) jump))).heap[L]?=some (.loop (rd (if jump.isNone then .ready else .done) jump)) ∧
    (W3.putObj L (.loop (rd (if jump.isNone then .ready else .done) jump))).heap[w.heap.size]?=some (.deferred (some [])):=fun jump W3 hf=>by
   have m2:=hf.keep k2 i4
   have m3:=hf.keep k3 i5
   have hr:=run_endRound (P:=Tryz.prog) jump (m2.trans (by rw [← hB]))
   rw [hrd] at hr ⊢
   exact ⟨hr,m2,World.putObj_heap_same (Array.getElem?_eq_some_iff.1 m2).1,(fr_put _ _ _).keep m3 (by simp;omega)⟩
  rintro e a3 W3 hq
  cases e with
  | normal =>
   obtain ⟨S',hf,hi,hs'⟩:=hq
   obtain ⟨hr,m1,m2,m3⟩:=fin none W3 hf
   have hL4:L∉S':=fun hm=>by
    rcases (hs' L hm).1 with h | h
    ·exact i4 h
    ·have:=(Array.getElem?_eq_some_iff.1 k2).1;omega
   have hD4:w.heap.size∉S':=fun hm=>by
    rcases (hs' _ hm).1 with h | h
    ·exact i5 h
    ·have:=(Array.getElem?_eq_some_iff.1 k2).1;omega
   have hz4:=(fr_put W3 L (.loop (rd (if (none:Option Code).isNone then .ready else .done) none))).size
   refine ⟨_,_,hr,.inl ⟨rfl,S',⟨⟨hI _ _ _ _ [L] hi (fr_put _ _ _) (by simp;exact ⟨by omega,hL4⟩),?_⟩,⟨m2,hL4⟩,m3,hD4⟩,kp0.trans ((KpU.of hf).trans (KpU.put _ _ _ _ m1)),fun k hk=>⟨?_,?_⟩⟩⟩
   ·have:=hf.size;omega
   ·exact (hs' k hk).1.imp id (fun h=>by omega)
   ·have:=(hs' k hk).2;omega
  | ret =>
   obtain ⟨hf,hi⟩:=hq
   obtain ⟨hr,m1,m2,m3⟩:=fin (some .ret) W3 hf
   exact ⟨_,_,hr,.inr ⟨rfl,.ret,hIx _ _ _ _ [L] hi (fr_put _ _ _) (by simp;omega),m2,m3⟩⟩
  | exit id =>
   obtain ⟨hf,hi⟩:=hq
   obtain ⟨hr,m1,m2,m3⟩:=fin (some (.exit id)) W3 hf
   exact ⟨_,_,hr,.inr ⟨rfl,.exit id,hIx _ _ _ _ [L] hi (fr_put _ _ _) (by simp;omega),m2,m3⟩⟩
  | goto t=>exact hq.elim
  | panic c=>exact hq.elim
  | outgrown=>exact hq.elim
 ·rintro e W2 ⟨⟨v,rfl⟩,(⟨S',ys,hfy,⟨i1,i0⟩,⟨i2,i4⟩,i3,i5⟩ | ⟨pre,hp,c,i1,i2,i3⟩)⟩
  ·refine ⟨none,_,by have:=run_endLoop (P:=Tryz.prog) i2 (by rw [hrd];simp);rw [hrd] at this;exact this,hdone _ _ ys _ (Nat.le_refl _) i5 hfy (hI _ _ _ _ [L] i1 (fr_put _ _ _) (by simp;exact ⟨by omega,i4⟩)) ((fr_put _ _ _).keep i3 (by simp;omega))⟩
  ·refine ⟨some c,_,by have:=run_endLoop (P:=Tryz.prog) i2 (by rw [hrd];simp);rw [hrd] at this;exact this,hstop _ c pre _ (Nat.le_refl _) hp (hIx c _ _ _ [L] i1 (fr_put _ _ _) (by simp;omega)) ((fr_put _ _ _).keep i3 (by simp;omega))⟩
end
section
open Go.RowKit Go.Lib
set_option maxRecDepth 100000 in
set_option maxHeartbeats 2000000 in
theorem clOpen_c (ra rc rs rr:Int) (n f t h k:Int) (b:Bool) (v:Value) (l:List Ev) (w:World) (hs:Sl w v l.length (l.flatMap evC)) (hl:l.length≤1000000) (hv:(rulB ra rc rs rr && cmB n f t h k && decide (l.length≤20) && evsGo k l)=true) :
  Calls Tryz.prog 196 #[.agg #[.int .i64 ra,.int .i64 rc,.int .i64 rs,.int .i64 rr],cmV n f t h k b,v] w fun e w'=>∃ mb db eb,e=.returned (.tuple #[.pointer (some ⟨mb,0,none⟩),.int .i64 0])∧McIn w' mb ⟨ra,rc,rs,rr⟩ n f t h k b db eb∧Fr [] w w'∧w.heap.size≤mb:=by
 obtain ⟨ad,cap,rfl⟩:=hs.val
 have CV:=qj fun W (hf:Fr [] w W)=>clValid_c ra rc rs rr n f t h k b (.slice ad l.length cap) l W (hs.same hf) hl
 rw [hv] at CV
 obtain ⟨F2,B1,B2⟩:=two_more w (.cells #[.int .i64 ra,.int .i64 rc,.int .i64 rs,.int .i64 rr] 46) (.cells #[.int .i64 n,.int .i64 f,.int .i64 t,.int .i64 h,.int .i64 k,.bool b] 27)
 have HF:=qj F2
 have HB:=qj (And.intro B1 B2)
 generalize l.length=ln at *
 clear hs hl hv
 skip
 go_enter Tryz.func196,Tryz.ntmps196
 go_wp2_with fail
 refine (CV.out _ HF.out).mono ?_
 rintro e w3 ⟨rfl,f3⟩
 have HF3:=qj (HF.out.trans f3)
 have HB3:=qj (And.intro (f3.keep HB.out.1 (by simp)) (f3.keep HB.out.2 (by simp)))
 clear f3 HB HF CV F2 B1 B2
 go_wp2_with fail
 refine reg_tree (Fr [] w3) 7 (.take 0 (.take 1 (.one 2 (.one 3 (.one 4 (.one 5 (.one 6 (.one 7 .nil)))))))) (by kernel_rfl) (by kernel_rfl) (by kernel_rfl) rfl ?_
 have FC:Fr [] w3 w3.drew:=Fr.drew _ _
 generalize w3.drew=WC at FC ⊢
 iterate 2 (refine tree_take (v:=?_) rfl rfl rfl FC (fun w hS=>?_) ?_;rotate_left;(focus (have X1:=hS.keep HB3.out.1 (by simp);have X2:=hS.keep HB3.out.2 (by simp);have a0:=qd X1 0;have a1:=qd X1 1;have a2:=qd X1 2;have a3:=qd X1 3;have c0:=qd X2 0;have c1:=qd X2 1;have c2:=qd X2 2;have c3:=qd X2 3;have c4:=qd X2 4;have c5:=qd X2 5;clear X1 X2;clear hS;go_simp;rfl));simp only [qu,qv,qx])
 refine tree_one rfl rfl (fun K hK=>?_)
 go_simp
 refine (dues_c WC).mono ?_
 rintro e W1 ⟨db,rfl,hd,f1,hdb⟩
 have FC:=FC.trans f1
 have HD:=qj hd
 refine hK _ _ FC ?_
 clear hK K
 try simp only [Act.put,qu,qv,qx]
 refine tree_one rfl rfl (fun K hK=>?_)
 go_simp
 refine (effects_c W1).mono ?_
 rintro e W2 ⟨eb,rfl,he,f2,heb⟩
 have FC:=FC.trans f2
 have HD:=qj (HD.out.keep f2 (by simp))
 have HE:=qj he
 refine hK _ _ FC ?_
 clear hK K hd he f1 f2
 try simp only [Act.put,qu,qv,qx]
 refine tree_one rfl rfl (fun K hK=>?_)
 go_simp
 refine hK _ _ FC ?_
 clear hK K
 try simp only [Act.put,qu,qv,qx]
 refine tree_one rfl rfl (fun K hK=>?_)
 go_simp
 have hw2:w.heap.size≤W2.heap.size:=by have:=HF3.out.size;have:=FC.size;omega
 have FM:=Fr.alloc [] W2 (.cells #[.int .i64 ra,.int .i64 rc,.int .i64 rs,.int .i64 rr,.int .i64 n,.int .i64 f,.int .i64 t,.int .i64 h,.int .i64 k,.bool b,.map (some db),.map (some eb),.slice none 0 0] 345)
 have HMC:=qj (show McIn (W2.alloc (.cells #[.int .i64 ra,.int .i64 rc,.int .i64 rs,.int .i64 rr,.int .i64 n,.int .i64 f,.int .i64 t,.int .i64 h,.int .i64 k,.bool b,.map (some db),.map (some eb),.slice none 0 0] 345)) W2.heap.size ⟨ra,rc,rs,rr⟩ n f t h k b db eb from ⟨qm _ _,HD.out.keep FM (by simp),HE.out.keep FM (by simp)⟩)
 have FC:=FC.trans FM
 refine hK _ _ FC ?_
 clear hK K
 try simp only [Act.put,qu,qv,qx]
 refine tree_one rfl rfl (fun K hK=>?_)
 go_simp
 refine hK _ _ FC ?_
 clear hK K
 try simp only [Act.put,qu,qv,qx]
 refine tree_last rfl rfl (fun K hK=>?_)
 go_simp
 refine hK _ _ ?_
 clear hK K
 refine noPanicN ?_
 have HFE:=qj (HF3.out.trans FC)
 go_wp2_with fail
 go_ret2
 exact ⟨_,_,_,rfl,HMC.out,HFE.out,hw2⟩
set_option maxRecDepth 100000 in
theorem clStatuses_c (mb:Nat) (a:Option Addr) (n cap:Nat) (w:World):Calls Tryz.prog 198 #[.pointer (some ⟨mb,0,none⟩),.slice a n cap] w fun e w'=>e=.returned (.func (.func 213) #[] #[.pointer (some ⟨w.heap.size,0,none⟩),.pointer (some ⟨w.heap.size+1,0,none⟩)])∧w'=(w.alloc (.cells #[.pointer (some ⟨mb,0,none⟩)] 318)).alloc (.cells #[.slice a n cap] 77):=by
 go_enter Tryz.func198,Tryz.ntmps198
 go_wp2_with fail
 go_ret
 exact ⟨rfl,rfl⟩
end
section
open Go.RowKit Go.Lib
attribute [local go_sem] Oper.semAt_some
theorem KpU.step {F F':List Nat} {A B C:World} (h:KpU F A B) (k:KpU F' B C) (hF:∀ i,i∈F'→i∈F∨A.heap.size≤i):KpU F A C :=
 ⟨k.os.trans h.os,k.tape.trans h.tape,k.output.trans h.output,Nat.le_trans h.size k.size,fun i o hn ho hc=>k.block i o (fun hm=>(hF i hm).elim hn (fun hl=>by have:=(Array.getElem?_eq_some_iff.1 ho).1;omega)) (h.block i o hn ho hc) hc⟩
theorem roundIn_any {n m:Nat} {P:Program} {l f:Nat} {tmps:Array Value} {assign body:Code} {w:World} {R:Ending→World→Prop} (h:RoundIn Fence.wide n P l f tmps assign body w R):RoundIn Fence.wide m P l f tmps assign body w R :=
 ⟨h.1,fun c cs _=>h.2 c cs (room_wide _)⟩
theorem MpAt.kp {α:Type} {enc:α→Value} {w w':World} {b:Nat} {l:List (α × Value)} (h:MpAt enc w b l) {S:List Nat} (hf:KpU S w w') (hn:b∉S):MpAt enc w' b l:=by
 obtain ⟨es,c,h1,h2⟩:=h.blk
 exact ⟨⟨es,c,hf.block b _ hn h1 (fun r=>by simp),h2⟩,h.nodup⟩
theorem McIn.kp {w w':World} {mb:Nat} {r:Rl} {n f t h a:Int} {b:Bool} {db eb:Nat} (hm:McIn w mb r n f t h a b db eb) {S:List Nat} (hf:KpU S w w') (hS:mb∉S∧db∉S∧eb∉S):McIn w' mb r n f t h a b db eb :=
 ⟨hf.block _ _ hS.1 hm.blk (fun r=>by simp),hm.dues.kp hf hS.2.1,by obtain ⟨l,h1,h2⟩:=hm.eff;exact ⟨l,h1.kp hf hS.2.2,h2⟩⟩
structure SuIn (W:World) (S:List Nat) (l mb mx yx nb db eb:Nat) (r:Rl) (n f t h a:Int) (b:Bool) (x:Int × Int):Prop where
 mac:McIn W mb r n f t h a b db eb
 mbx:W.heap[mx]?=some (.cells #[.pointer (some ⟨mb,0,none⟩)] 318 (0,0))
 ybx:W.heap[yx]?=some (.cells #[.func (.yield l) #[] #[]] 347 (0,0))
 now:W.heap[nb]?=some (.cells #[.int .i64 x.1,.int .i64 x.2,.int .i64 (nxS r x)] 288 (0,0))
 off:(mb∉S∧db∉S∧eb∉S)∧mx∉S∧yx∉S∧nb∉S
 dif:(mb≠nb∧db≠nb∧eb≠nb)∧mx≠nb∧yx≠nb
 low:∀ k,k∈S→k < W.heap.size
section
variable {W W':World} {S S':List Nat} {l mb mx yx nb db eb:Nat} {r:Rl} {n f t h a:Int} {b:Bool} {x y:Int × Int}
theorem SuIn.kp (hs:SuIn W S l mb mx yx nb db eb r n f t h a b x) (hk:KpU S W W') (hS:∀ k,k∈S'→(k∈S∨W.heap.size≤k)∧k < W'.heap.size):SuIn W' S' l mb mx yx nb db eb r n f t h a b x:=by
 obtain ⟨⟨h1,h2,h3⟩,h4,h5,h6⟩:=hs.off
 have hl:=hs.mac.lt
 have i1:=blk_lt hs.mbx;have i2:=blk_lt hs.ybx;have i3:=blk_lt hs.now
 have no:∀ k,k < W.heap.size→k∉S→k∉S':=fun k hk hn hm=>by
  rcases (hS k hm).1 with h | h
  ·exact hn h
  ·omega
 exact ⟨hs.mac.kp hk ⟨h1,h2,h3⟩,hk.block _ _ h4 hs.mbx (fun r=>by simp),hk.block _ _ h5 hs.ybx (fun r=>by simp),hk.block _ _ h6 hs.now (fun r=>by simp),⟨⟨no _ hl.1 h1,no _ hl.2.1 h2,no _ hl.2.2 h3⟩,no _ i1 h4,no _ i2 h5,no _ i3 h6⟩,hs.dif,fun k hk=>(hS k hk).2⟩
theorem SuIn.same (hs:SuIn W S l mb mx yx nb db eb r n f t h a b x) (hf:Fr [] W W'):SuIn W' S l mb mx yx nb db eb r n f t h a b x :=
 ⟨hs.mac.same hf,hf.keep hs.mbx (by simp),hf.keep hs.ybx (by simp),hf.keep hs.now (by simp),hs.off,hs.dif,fun k hk=>Nat.lt_of_lt_of_le (hs.low k hk) hf.size⟩
theorem SuIn.put (hs:SuIn W S l mb mx yx nb db eb r n f t h a b x) (hf:Fr [nb] W W') (hb:W'.heap[nb]?=some (.cells #[.int .i64 y.1,.int .i64 y.2,.int .i64 (nxS r y)] 288 (0,0))):SuIn W' S l mb mx yx nb db eb r n f t h a b y:=by
 obtain ⟨⟨h1,h2,h3⟩,h4,h5⟩:=hs.dif
 exact ⟨hs.mac.fr hf ⟨by simpa using h1,by simpa using h2,by simpa using h3⟩,hf.keep hs.mbx (by simpa using h4),hf.keep hs.ybx (by simpa using h5),hb,hs.off,hs.dif,fun k hk=>Nat.lt_of_lt_of_le (hs.low k hk) hf.size⟩
end
def rkW (nb:Nat) (W:World):Nat:=match W.cell? ⟨nb,0,none⟩ with | some (.int _ s)=>rkS s | _=>0
set_option maxRecDepth 100000 in
set_option maxHeartbeats 4000000 in
theorem alone_in (m n0 B:Nat) (zs:List (Int × Int)) (l mb mx yx nb db eb:Nat) (r:Rl) (n f t h a:Int) (b:Bool) (hr:r.ok) (J:List Nat→List (Int × Int)→World→Prop) (Jx:List (Int × Int)→World→Prop) (hJ:FreeU B J) (hB:B≤nb)
  (hY:∀ S pre x W,J S pre W→(∀ k,k∈S→k < W.heap.size)→pre++[x] <+: zs→YieldAt Fence.wide n0 Tryz.prog l #[cstV r x] W fun e W' =>
   (e=.returned (.bool true)∧∃ S',J S' (pre++[x]) W'∧KpU S W W'∧∀ k,k∈S'→(k∈S∨W.heap.size≤k)∧k < W'.heap.size)∨(e=.returned (.bool false)∧Jx (pre++[x]) W'))
  (u:Int) (hu:u≤4611686018427387904) (x:Int × Int) (hx:0≤x.2∧x.2≤100000000) (pre:List (Int × Int)) (S:List Nat) (W:World) (hs:SuIn W S l mb mx yx nb db eb r n f t h a b x) (hj:J S pre W) (hz:pre++alo r u 3 x <+: zs) :
  CallsIn Fence.wide m Tryz.prog 215 #[.int .i64 u,.pointer (some ⟨nb,0,none⟩),.pointer (some ⟨mx,0,none⟩),.pointer (some ⟨yx,0,none⟩)] W fun e W' =>
   (e=.returned (.bool true)∧∃ S',J S' (pre++alo r u 3 x) W'∧SuIn W' S' l mb mx yx nb db eb r n f t h a b (lstS x (alo r u 3 x))∧((alo r u 3 x)≠[]→(lstS x (alo r u 3 x)).2≤u)∧KpU (nb :: S) W W'∧∀ k,k∈S'→k∈S∨W.heap.size≤k)∨(e=.returned (.bool false)∧∃ p,p <+: zs∧Jx p W'):=by
 have HY:=qj hY;have HJ:=qj hJ;have HS:=qj hs;have HJ0:=qj hj;have HZ:=qj hz;have HR:=qj hr
 clear hY hJ hs hj hz
 refine callsIn_of_wp Tryz.func215 rfl trivial ?_ rfl
 simp only [Tryz.ntmps215,List.size_toArray,List.length_cons,List.length_nil,Nat.reduceAdd,Nat.reduceSub,Array.replicate_succ,Array.replicate_zero,List.push_toArray,List.append_toArray,List.nil_append,List.cons_append]
 gi_wp2
 gi_loopw [5] (fun v wr=>∃ (k:Nat) (y:Int × Int) (q:List (Int × Int)) (S':List Nat),v=.bool false∧k≤3∧rkS y.1≤k∧Hid (alo r u 3 x=q++alo r u k y)∧Hid (J S' (pre++q) wr)∧Hid (SuIn wr S' l mb mx yx nb db eb r n f t h a b y)∧Hid (y=lstS x q∧(q≠[]→y.2≤u))∧Hid (KpU (nb :: S) W wr∧∀ k,k∈S'→k∈S∨W.heap.size≤k)∧(0≤y.2∧y.2≤100000000+(3 - k)*1000000)) (fun _ wr=>rkW nb wr)
 case atStart=>exact ⟨3,x,[],S,rfl,Nat.le_refl _,rk_le _,qj rfl,by simpa using HJ0,HS,qj ⟨rfl,fun h=>absurd rfl h⟩,qj ⟨KpU.of (Fr.refl _ _),fun k hk=>.inl hk⟩,by omega⟩
 case round =>
  clear HJ0 HS
  obtain ⟨k,y,q,S',rfl,hk3,hrk,HA,HQ,HSy,HLy,HKy,hy⟩:=hrel
  have n0:=qd HSy.out.now 0;have n1:=qd HSy.out.now 1;have n2:=qd HSy.out.now 2
  by_cases hc:0≤nxS r y∧nxS r y≤u
  ·obtain ⟨j,rfl,hrj,hst⟩:=alo_step hc hrk
   have hbd:=nx_bd HR.out hc.1
   have HST:Hid (alo r u 3 x=(q++[(duS y.1,nxS r y)])++alo r u j (duS y.1,nxS r y)):=qj (by rw [HA.out,hst,List.append_assoc];rfl)
   have HPX:Hid ((pre++q)++[(duS y.1,nxS r y)] <+: zs):=qj (by
    have h1:=HZ.out
    rw [HST.out] at h1
    exact List.IsPrefix.trans ⟨alo r u j (duS y.1,nxS r y),by simp⟩ h1)
   have HLD:Hid (getA duesL y.1=some (.agg #[.func (.func (if y.1=1 then 222 else if y.1=2 then 223 else if y.1=3 then 224 else 225)) #[] #[],.int .i64 (duS y.1)])):=qj (by
    rcases nx_rk hc.1 with h | h | h | h <;> rw [h] <;> rfl)
   have CB:=qj fun W (hm:McIn W mb r n f t h a b db eb)=>begins_c mb r n f t h a b db eb (duS y.1) (nxS r y) W hm HR.out (by omega)
   simp only [cstV] at CB
   have HRK:Hid (rkS (duS y.1) < rkS y.1):=qj (by have:=rk_du (nx_rk hc.1);omega)
   have HLS:Hid ((duS y.1,nxS r y)=lstS x (q++[(duS y.1,nxS r y)])∧(q++[(duS y.1,nxS r y)]≠[]→nxS r y≤u)):=qj ⟨(lstS_snoc _ _ _).symm,fun _=>hc.2⟩
   have HRW:Hid (rkW nb wr=rkS y.1):=qj (by unfold rkW;rw [n0];rfl)
   have m0:=qd HSy.out.mbx 0
   clear hst HLy HA hrk
   obtain ⟨y1,y2⟩:=y
   simp only at *
   generalize (if y1=1 then 222 else if y1=2 then 223 else if y1=3 then 224 else 225)=gf at *
   obtain ⟨nx,hnx⟩:∃ nx,nxS r (y1,y2)=nx:=⟨_,rfl⟩
   simp only [hnx] at hc hbd n2 CB HST HPX HLS
   obtain ⟨d1,hd1⟩:∃ d1,duS y1=d1:=⟨_,rfl⟩
   simp only [hd1] at HLD CB HST HPX HLS HRK hrj
   have HNX:=qj hnx
   clear hnx hd1
   obtain ⟨hc1,hc2⟩:=hc
   gi_wp2
   refine wpIn_wide.2 ?_
   refine reg_fin (Fr [] wr) 12 [0,1,2,3,4,5,6,9,10,7,8,11,12] (by kernel_rfl) (by kernel_rfl) (by kernel_rfl) rfl ?_
   have FC:Fr [] wr wr.drew:=Fr.drew _ _
   generalize wr.drew=WC at FC ⊢
   iterate 9 (refine fin_take (v:=?_) rfl rfl rfl rfl FC (fun w hS=>?_) ?_;rotate_left;(focus (have X:=HSy.out.same hS;have m0:=qd X.mbx 0;have m10:=qd X.mac.blk 10;have n0:=qd X.now 0;have n2:=qd X.now 2;clear X;clear hS;go_simp;rfl));simp only [qu,qv,qx])
   refine fin_do rfl rfl rfl (fun K hK=>?_)
   refine wp_look 340 351 (.tmp 19) (.tmp 21) false y1 rfl rfl rfl (HSy.out.same FC).mac.dues keyInt Tryz.underlying340 (zeroDue _) rfl (hK _ _ FC ?_)
   rw [HLD.out]
   clear hK K
   simp only [qu,qv,qx,Option.getD_some,Bool.false_eq_true,if_false]
   iterate 1 (refine fin_take (v:=?_) rfl rfl rfl rfl FC (fun w hS=>?_) ?_;rotate_left;(focus (have X:=HSy.out.same hS;have m0:=qd X.mbx 0;have m10:=qd X.mac.blk 10;have n0:=qd X.now 0;have n2:=qd X.now 2;clear X;clear hS;go_simp;rfl));simp only [qu,qv,qx])
   rw [HNX.out]
   refine fin_do rfl rfl rfl (fun K hK=>?_)
   go_simp
   refine (CB.out WC (HSy.out.same FC).mac).mono ?_
   rintro e wq ⟨rfl,fq⟩
   have FC:=FC.trans fq
   refine hK _ _ FC ?_
   clear hK K fq
   try simp only [Act.put,qu,qv,qx]
   have HS2:=qj (HSy.out.same FC)
   have HQ2:=qj (HJ.out _ _ _ _ [] HQ.out FC (by simp))
   obtain ⟨nz,hnz⟩:∃ nz,nxS r (d1,nx)=nz:=⟨_,rfl⟩
   have hbk:Hid (wq.heap[nb]?=some (.cells #[.int .i64 y1,.int .i64 y2,.int .i64 nx] 288 (0,0))):=qj (by have:=HS2.out.now;simp only [HNX.out] at this;exact this)
   have o0:=qd hbk.out 0;have o1:=qd hbk.out 1;have o2:=qd hbk.out 2
   have g0:=ql hbk.out 0;have g1:=ql hbk.out 1;have g2:=ql hbk.out 2
   rw [hnz]
   have HNZ:=qj hnz
   have FC0:=qj FC
   clear hnz n0 n1 n2 m0 FC
   refine fin_last rfl rfl rfl (fun K hK=>?_)
   go_simp
   try go_upon
   try go_simp
   refine hK _ _ ?_
   clear hK K
   obtain ⟨BS,FS⟩:=set3c hbk.out (.int .i64 d1) (.int .i64 nx) (.int .i64 nz)
   have HK5:=qj (HKy.out.1.step (KpU.of ((FC0.out.mono (by simp)).trans FS)) (fun k hk=>.inl (by simp at hk;simp [hk])))
   generalize ((wq.setCell ⟨nb,0,none⟩ (.int .i64 d1)).setCell ⟨nb,1,none⟩ (.int .i64 nx)).setCell ⟨nb,2,none⟩ (.int .i64 nz)=w5 at *
   have HS5:Hid (SuIn w5 S' l mb mx yx nb db eb r n f t h a b (d1,nx)):=qj (HS2.out.put FS (by simp only [HNZ.out];exact BS))
   have HQ5:=qj (HJ.out _ _ _ _ [nb] HQ2.out FS (by simp;exact ⟨hB,HS2.out.off.2.2.2⟩))
   obtain ⟨fn,tmps,assign,body,hyy,hRR⟩:=HY.out S' (pre++q) (d1,nx) w5 HQ5.out HS5.out.low HPX.out
   simp only [cstV,HNZ.out] at hyy
   have HRR:=qj hRR
   clear hRR BS FS o0 o1 o2 g0 g1 g2 hbk HS2 HQ2 HSy HQ HLD CB
   have n0:w5.cell? ⟨nb,0,none⟩=some (.int .i64 d1):=qd HS5.out.now 0
   have n1:w5.cell? ⟨nb,1,none⟩=some (.int .i64 nx):=qd HS5.out.now 1
   have n2:w5.cell? ⟨nb,2,none⟩=some (.int .i64 nz):=(qd HS5.out.now 2).trans (by simp [HNZ.out])
   have y0:w5.cell? ⟨yx,0,none⟩=some (.func (.yield l) #[] #[]):=qd HS5.out.ybx 0
   gi_wp2
   refine ⟨fun hh=>(by cases hh),?_⟩
   refine (roundIn_any HRR.out).mono ?_
   rintro e w6 (⟨rfl,S6,hj6,hk6,hs6⟩ | ⟨rfl,hjx⟩)
   ·have HS6:=qj (HS5.out.kp hk6 hs6)
    have HK6:Hid (KpU (nb :: S) W w6∧∀ k,k∈S6→k∈S∨W.heap.size≤k):=qj ⟨HK5.out.step hk6 (fun k hk=>(HKy.out.2 k hk).imp (fun h=>by simp [h]) id),fun k hk=>by
     have hz5:=HK5.out.size
     rcases (hs6 k hk).1 with h | h
     ·exact HKy.out.2 k h
     ·exact .inr (by omega)⟩
    have HJ6:Hid (J S6 (pre++(q++[(d1,nx)])) w6):=qj (by rw [← List.append_assoc];exact hj6)
    clear hj6 hk6 hs6 HRR hyy n0 n1 n2 y0 HQ5
    gi_wp2
    go_roundw
    case rel =>
     refine ⟨j,(d1,nx),q++[(d1,nx)],S6,rfl,by omega,hrj,HST,HJ6,HS6,HLS,HK6,by omega⟩
    case measure =>
     have h6:rkW nb w6=rkS d1:=by unfold rkW;rw [qd HS6.out.now 0];rfl
     rw [h6,HRW.out]
     exact HRK.out
   ·have HJX:=qj hjx
    clear hjx HRR hyy
    gi_wp2
    refine bodyPost_ret (results_tmp rfl _ _ _) rfl ?_
    exact .inr ⟨rfl,_,HPX.out,HJX.out⟩
  ·have hal:=alo_none hc k
   have HAQ:Hid (alo r u 3 x=q):=qj (by rw [HA.out,hal,List.append_nil])
   have HLL:=qj HLy.out
   clear hal HA HLy
   obtain ⟨y1,y2⟩:=y
   obtain ⟨nx,hnx⟩:∃ nx,nxS r (y1,y2)=nx:=⟨_,rfl⟩
   simp only [hnx] at hc n2
   clear hnx
   have HF:Hid ((Ending.returned (.bool true)=Ending.returned (.bool true)∧∃ S',J S' (pre++alo r u 3 x) wr∧SuIn wr S' l mb mx yx nb db eb r n f t h a b (lstS x (alo r u 3 x))∧((alo r u 3 x)≠[]→(lstS x (alo r u 3 x)).2≤u)∧KpU (nb :: S) W wr∧∀ k,k∈S'→k∈S∨W.heap.size≤k)):=qj ⟨rfl,S',by rw [HAQ.out];exact HQ.out,by rw [HAQ.out,← HLL.out.1];exact HSy.out,by rw [HAQ.out,← HLL.out.1];exact HLL.out.2,HKy.out⟩
   clear HSy HQ HAQ HLL
   by_cases hc1:0≤nx
   ·have hc2:¬ nx≤u:=fun h=>hc ⟨hc1,h⟩
    clear hc
    gi_wp2
    refine bodyPost_ret (results_tmp rfl _ _ _) rfl ?_
    exact .inl ⟨rfl,HF.out.2⟩
   ·clear hc
    gi_wp2
    refine bodyPost_ret (results_tmp rfl _ _ _) rfl ?_
    exact .inl ⟨rfl,HF.out.2⟩
end
section
open Go.RowKit Go.Lib
attribute [local go_sem] Oper.semAt_some
theorem Sl.kpU {S:List Nat} {A B:World} {v:Value} {n:Nat} {cs:List Value} (h:Sl A v n cs) (hk:KpU S A B) (hn:∀ g,v.ownBlock=some g→g∉S):Sl B v n cs:=by
 obtain ⟨a,cap,rfl,h1,h2,h3⟩:=h
 refine ⟨a,cap,rfl,h1,h2,fun h0=>?_⟩
 obtain ⟨b,off,rfl,hc⟩:=h3 h0
 refine ⟨b,off,rfl,fun j u hu=>?_⟩
 have hq:=hc j u hu
 have hb:=hn b rfl
 unfold World.cell? at hq ⊢
 cases hx:A.heap[b]? with
 | none=>simp [hx] at hq
 | some o =>
  cases o with
  | cells c e f=>simp only [hx] at hq;simp only [hk.block b _ hb hx (fun r=>by simp)];exact hq
  | _=>simp [hx] at hq
structure ExIn (W:World) (S:List Nat) (lx nb:Nat) (ad:Option Addr) (cap:Nat) (ls:List Ev):Prop where
 blk:W.heap[lx]?=some (.cells #[.slice ad ls.length cap] 77 (0,0))
 row:Sl W (.slice ad ls.length cap) ls.length (ls.flatMap evC)
 off:lx∉S∧∀ g,(Value.slice ad ls.length cap).ownBlock=some g→g∉S∧g < W.heap.size
 dif:lx≠nb∧∀ g,(Value.slice ad ls.length cap).ownBlock=some g→g≠nb
section
variable {W W':World} {S S':List Nat} {lx nb:Nat} {ad:Option Addr} {cap:Nat} {ls:List Ev}
theorem ExIn.kp (h:ExIn W S lx nb ad cap ls) (hk:KpU S W W') (hS:∀ k,k∈S'→(k∈S∨W.heap.size≤k)∧k < W'.heap.size):ExIn W' S' lx nb ad cap ls :=
 have no:∀ k,k < W.heap.size→k∉S→k∉S':=fun k hk hn hm=>by
  rcases (hS k hm).1 with h | h
  ·exact hn h
  ·omega
 ⟨hk.block _ _ h.off.1 h.blk (fun r=>by simp),h.row.kpU hk (fun g hg=>(h.off.2 g hg).1),⟨no _ (blk_lt h.blk) h.off.1,fun g hg=>⟨no _ (h.off.2 g hg).2 (h.off.2 g hg).1,Nat.lt_of_lt_of_le (h.off.2 g hg).2 hk.size⟩⟩,h.dif⟩
theorem ExIn.same (h:ExIn W S lx nb ad cap ls) (hf:Fr [] W W'):ExIn W' S lx nb ad cap ls :=
 ⟨hf.keep h.blk (by simp),h.row.same hf,⟨h.off.1,fun g hg=>⟨(h.off.2 g hg).1,Nat.lt_of_lt_of_le (h.off.2 g hg).2 hf.size⟩⟩,h.dif⟩
theorem ExIn.kpn (h:ExIn W S lx nb ad cap ls) (hk:KpU (nb :: S) W W') (hS:∀ k,k∈S'→k∈S∨W.heap.size≤k):ExIn W' S' lx nb ad cap ls :=
 have no:∀ k,k < W.heap.size→k∉S→k∉S':=fun k hk hn hm=>by
  rcases hS k hm with h | h
  ·exact hn h
  ·omega
 ⟨hk.block _ _ (by simp only [List.mem_cons,not_or];exact ⟨h.dif.1,h.off.1⟩) h.blk (fun r=>by simp),h.row.kpU hk (fun g hg=>by simp only [List.mem_cons,not_or];exact ⟨h.dif.2 g hg,(h.off.2 g hg).1⟩),⟨no _ (blk_lt h.blk) h.off.1,fun g hg=>⟨no _ (h.off.2 g hg).2 (h.off.2 g hg).1,Nat.lt_of_lt_of_le (h.off.2 g hg).2 hk.size⟩⟩,h.dif⟩
theorem ExIn.put (h:ExIn W S lx nb ad cap ls) (hf:Fr [nb] W W'):ExIn W' S lx nb ad cap ls :=
 ⟨hf.keep h.blk (by simpa using h.dif.1),h.row.fr hf (fun g hg=>by simpa using h.dif.2 g hg),⟨h.off.1,fun g hg=>⟨(h.off.2 g hg).1,Nat.lt_of_lt_of_le (h.off.2 g hg).2 hf.size⟩⟩,h.dif⟩
end
theorem wp_joinN {P:Program} {c:Code} {Q:Exit→Act→World→Prop} {a:Act} {w:World} {R:Nat→World→Prop} (F:Nat→Act) (h:c.wp P (fun e a' w'=>e=.normal∧∃ nb,a'=F nb∧R nb w') a w) (hq:∀ nb w',R nb w'→Q .normal (F nb) w'):c.wp P Q a w :=
 Code.wp_mono (fun e a' w' he=>by obtain ⟨rfl,nb,rfl,hr⟩:=he;exact hq nb w' hr) h
set_option maxRecDepth 100000 in
set_option maxHeartbeats 4000000 in
theorem sts1_seq (m mb mx lx db eb:Nat) (r:Rl) (n f t h a:Int) (b:Bool) (hr:r.ok) (ha:0≤a∧a≤20000000) (ad:Option Addr) (cap:Nat) (ls:List Ev) (hlen:ls.length≤20) (hok:stsOk r b (1,a) ls) (W:World) (hm:McIn W mb r n f t h a b db eb)
  (hmx:W.heap[mx]?=some (.cells #[.pointer (some ⟨mb,0,none⟩)] 318 (0,0))) (hlx:W.heap[lx]?=some (.cells #[.slice ad ls.length cap] 77 (0,0))) (hs:Sl W (.slice ad ls.length cap) ls.length (ls.flatMap evC)) (hg:∀ g,(Value.slice ad ls.length cap).ownBlock=some g→g < W.heap.size) :
  SeqU m 213 #[.pointer (some ⟨mx,0,none⟩),.pointer (some ⟨lx,0,none⟩)] (fun x:Int × Int=>#[cstV r x]) ([mb,db,eb,mx,lx]++(Value.slice ad ls.length cap).ownBlock.toList) (·<+: stsM r b a ls) (·=stsM r b a ls) W:=by
 intro l J Jx S0 hJ hY h0 hS0
 have HJ:=qj hJ;have HY:=qj hY;have HS0:=qj hS0;have HM:=qj hm;have HMX:=qj hmx;have HLX:=qj hlx;have HS:=qj hs;have HG:=qj hg;have HOK:=qj hok;have HR:=qj hr;have HJ0:=qj h0
 have ml:=hm.lt;have mxl:=blk_lt hmx;have lxl:=blk_lt hlx
 clear hJ hY hm hmx hlx hs hg hok hr h0 hS0
 refine callsIn_of_wp Tryz.func213 rfl trivial ?_ rfl
 simp only [Tryz.ntmps213,List.size_toArray,List.length_cons,List.length_nil,Nat.reduceAdd,Nat.reduceSub,Array.replicate_succ,Array.replicate_zero,List.push_toArray,List.append_toArray,List.nil_append,List.cons_append]
 gi_wp2
 have FY:=Fr.alloc [] W (.cells #[.func (.yield l) #[] #[]] 347)
 have BY:=qm W (.cells #[.func (.yield l) #[] #[]] 347)
 have hz1:W.heap.size < (W.alloc (.cells #[.func (.yield l) #[] #[]] 347)).heap.size:=by simp
 generalize W.alloc (.cells #[.func (.yield l) #[] #[]] 347)=W1 at *
 have HM1:=qj (HM.out.same FY);have HMX1:=qj (FY.keep HMX.out (by simp));have HLX1:=qj (FY.keep HLX.out (by simp));have HS1:=qj (HS.out.same FY);have HBY:=qj BY
 have HJ1:=qj (HJ.out _ _ _ _ [] HJ0.out FY (by simp))
 have HF1:=qj FY
 clear HM HMX HLX HS HJ0 FY BY
 have HBG:=qj (begins_c mb r n f t h a b db eb 1 a)
 obtain ⟨nz,hnz⟩:∃ nz,nxS r (1,a)=nz:=⟨_,rfl⟩
 have HNZ:=qj hnz
 clear hnz
 refine wpIn_wide.2 ?_
 apply wp_joinN (R:=fun nb w'=>Hid (w'.heap[nb]?=some (.cells #[.int .i64 1,.int .i64 a,.int .i64 nz] 288 (0,0))∧Fr [] W1 w'∧W1.heap.size≤nb))
 rotate_left 0
 focus
  refine reg_tree (Fr [] W1) 8 (.take 0 (.take 1 (.take 2 (.take 3 (.take 4 (.take 5 (.two 6 7 (.one 7 (.one 8 .nil)) (.one 6 (.one 8 .nil))))))))) (by kernel_rfl) (by kernel_rfl) (by kernel_rfl) rfl ?_
  have FC:Fr [] W1 W1.drew:=Fr.drew _ _
  generalize W1.drew=WC at FC ⊢
  iterate 6 (refine tree_take (v:=?_) rfl rfl rfl FC (fun w hS=>?_) ?_;rotate_left;(focus (have X1:=hS.keep HMX1.out (by simp);have m0:=qd X1 0;have m8:=qd (HM1.out.same hS).blk 8;clear X1;clear hS;go_simp;rfl));simp only [qu,qv,qx])
  refine ⟨?_,?_⟩
  ·refine tree_op rfl rfl (fun K hK=>?_)
   go_simp
   refine (HBG.out WC (HM1.out.same FC) HR.out (by omega)).mono ?_
   rintro e wq ⟨rfl,fq⟩
   have FC:=FC.trans fq
   refine hK _ _ FC ?_
   clear hK K fq
   try simp only [Act.put,qu,qv,qx]
   simp only [cstV,HNZ.out]
   refine tree_one rfl rfl (fun K hK=>?_)
   go_simp
   have FA:=Fr.alloc [] wq (.cells #[.int .i64 0,.int .i64 0,.int .i64 0] 288)
   have BN:=qm wq (.cells #[.int .i64 0,.int .i64 0,.int .i64 0] 288)
   have hgl:W1.heap.size≤wq.heap.size:=FC.size
   have FC:=FC.trans FA
   refine hK _ _ FC ?_
   clear hK K FA
   try simp only [Act.put,qu,qv,qx]
   generalize wq.alloc (.cells #[.int .i64 0,.int .i64 0,.int .i64 0] 288)=wv at *
   generalize wq.heap.size=nb at *
   have o0:=qd BN 0;have o1:=qd BN 1;have o2:=qd BN 2
   have g0:=ql BN 0;have g1:=ql BN 1;have g2:=ql BN 2
   refine tree_last rfl rfl (fun K hK=>?_)
   go_simp
   try go_upon
   try go_simp
   obtain ⟨BS,FS⟩:=set3c BN (.int .i64 1) (.int .i64 a) (.int .i64 nz)
   refine hK _ _ ?_
   clear hK K
   refine noPanicN ?_
   exact ⟨rfl,nb,rfl,qj ⟨BS,FC.step FS (fun k hk=>.inr (by simp at hk;omega)),hgl⟩⟩
  ·refine tree_op rfl rfl (fun K hK=>?_)
   go_simp
   have FA:=Fr.alloc [] WC (.cells #[.int .i64 0,.int .i64 0,.int .i64 0] 288)
   have BN:=qm WC (.cells #[.int .i64 0,.int .i64 0,.int .i64 0] 288)
   have hgl:W1.heap.size≤WC.heap.size:=FC.size
   have FC:=FC.trans FA
   refine hK _ _ FC ?_
   clear hK K FA
   try simp only [Act.put,qu,qv,qx]
   generalize WC.alloc (.cells #[.int .i64 0,.int .i64 0,.int .i64 0] 288)=wv at *
   generalize WC.heap.size=nb at *
   refine tree_one rfl rfl (fun K hK=>?_)
   go_simp
   refine (HBG.out wv (HM1.out.same FC) HR.out (by omega)).mono ?_
   rintro e wq ⟨rfl,fq⟩
   have FC:=FC.trans fq
   have BN:=fq.keep BN (by simp)
   refine hK _ _ FC ?_
   clear hK K fq
   try simp only [Act.put,qu,qv,qx]
   simp only [cstV,HNZ.out]
   have o0:=qd BN 0;have o1:=qd BN 1;have o2:=qd BN 2
   have g0:=ql BN 0;have g1:=ql BN 1;have g2:=ql BN 2
   refine tree_last rfl rfl (fun K hK=>?_)
   go_simp
   try go_upon
   try go_simp
   obtain ⟨BS,FS⟩:=set3c BN (.int .i64 1) (.int .i64 a) (.int .i64 nz)
   refine hK _ _ ?_
   clear hK K
   refine noPanicN ?_
   exact ⟨rfl,nb,rfl,qj ⟨BS,FC.step FS (fun k hk=>.inr (by simp at hk;omega)),hgl⟩⟩
 rintro nb w2 HN
 obtain ⟨hnb,hf2,hnl⟩:=HN.out
 have hbig:W.heap.size≤nb:=by omega
 have low0:∀ k,k∈S0→k < W.heap.size:=fun k hk=>(HS0.out k hk).1
 have not0:∀ k,k∈[mb,db,eb,mx,lx]++(Value.slice ad ls.length cap).ownBlock.toList→k∉S0:=fun k hk hm=>(HS0.out k hm).2 hk
 have HSu:Hid (SuIn w2 S0 l mb mx W.heap.size nb db eb r n f t h a b (1,a)):=qj ⟨HM1.out.same hf2,hf2.keep HMX1.out (by simp),hf2.keep HBY.out (by simp),by rw [HNZ.out];exact hnb,⟨⟨not0 _ (by simp),not0 _ (by simp),not0 _ (by simp)⟩,not0 _ (by simp),fun hm=>by have:=low0 _ hm;omega,fun hm=>by have:=low0 _ hm;omega⟩,⟨⟨by omega,by omega,by omega⟩,by omega,by omega⟩,fun k hk=>by have:=low0 _ hk;have:=hf2.size;omega⟩
 have HEx:Hid (ExIn w2 S0 lx nb ad cap ls):=qj ⟨hf2.keep HLX1.out (by simp),HS1.out.same hf2,⟨not0 _ (by simp),fun g hg=>⟨not0 _ (by simp [hg]),by have:=HG.out g hg;have:=hf2.size;omega⟩⟩,by omega,fun g hg=>by have:=HG.out g hg;omega⟩
 have HJ2:=qj (HJ.out _ _ _ _ [] HJ1.out hf2 (by simp))
 have HB:=qj hbig
 obtain ⟨fn,tmps,assign,body,hyy,hRR⟩:=HY.out S0 [] (1,a) w2 HJ2.out HSu.out.low ⟨stsG r b (1,a) ls,rfl⟩
 simp only [cstV,HNZ.out] at hyy
 have HRR:=qj hRR
 clear hRR hnb hf2 hnl low0 not0 HS0 HM1 HMX1 HLX1 HS1 HBY HJ1 HF1 HBG HN HJ2 hbig
 have n0:w2.cell? ⟨nb,0,none⟩=some (.int .i64 1):=qd HSu.out.now 0
 have n1:w2.cell? ⟨nb,1,none⟩=some (.int .i64 a):=qd HSu.out.now 1
 have n2:w2.cell? ⟨nb,2,none⟩=some (.int .i64 nz):=(qd HSu.out.now 2).trans (by simp [HNZ.out])
 have y0:w2.cell? ⟨W.heap.size,0,none⟩=some (.func (.yield l) #[] #[]):=qd HSu.out.ybx 0
 gi_wp2
 refine ⟨fun hh=>(by cases hh),?_⟩
 refine (roundIn_any HRR.out).mono ?_
 rintro e w3 (⟨rfl,S3,hj3,hk3,hs3⟩ | ⟨rfl,hjx⟩)
 rotate_left
 ·have HJX:=qj hjx
  clear hjx HRR hyy
  gi_wp2
  refine bodyPost_ret (results_none rfl _ _ _) rfl ?_
  exact ⟨⟨_,rfl⟩,.inr ⟨_,⟨stsG r b (1,a) ls,rfl⟩,HJX.out⟩⟩
 have HS3:=qj (HSu.out.kp hk3 hs3);have HE3:=qj (HEx.out.kp hk3 hs3)
 have HJ3:Hid (J S3 [(1,a)] w3):=qj hj3
 clear hj3 hk3 hs3 HRR hyy n0 n1 n2 y0 HSu HEx
 have l0:w3.cell? ⟨lx,0,none⟩=some (.slice ad ls.length cap):=qd HE3.out.blk 0
 gi_wp2
 clear l0
 gi_loopw [24] (fun s wr=>∃ (i:Nat) (x:Int × Int) (pre:List (Int × Int)) (S':List Nat),s=.int .i64 i∧i≤ls.length∧Hid (stsM r b a ls=pre++stsG r b x (ls.drop i))∧Hid (stsOk r b x (ls.drop i))∧Hid (J S' pre wr)∧Hid (SuIn wr S' l mb mx W.heap.size nb db eb r n f t h a b x)∧Hid (ExIn wr S' lx nb ad cap ls)∧(0≤x.2∧x.2≤20000000)) (fun s _=>ls.length - (RowKit.intOf s).toNat)
 case atStart=>exact ⟨0,(1,a),[(1,a)],S3,rfl,Nat.zero_le _,qj rfl,HOK,HJ3,HS3,HE3,ha⟩
 case round =>
  clear HS3 HE3 HJ3 HOK
  obtain ⟨i,x,pre,S',rfl,hi,HA,HOK,HQ,HSx,HEx,hx⟩:=hrel
  by_cases hlt:i < ls.length
  ·obtain ⟨sb,so,had,hc⟩:=HEx.out.row.at_ (by omega)
   have hc':∀ j u,j < 3→(evC (ls[i]'hlt))[j]?=some u→wr.cell? ⟨sb,so+i*3+j,none⟩=some u:=fun j u hj hu=>by
    rw [Nat.add_assoc]
    exact hc _ u (by rw [flat_get (enc:=evC) (k:=3) (fun _=>rfl) _ i hlt j hj];exact hu)
   have e0:=hc' 0 _ (by omega) rfl;have e1:=hc' 1 _ (by omega) rfl;have e2:=hc' 2 _ (by omega) rfl
   have hdr:=List.drop_eq_getElem_cons hlt
   rw [hdr] at HA HOK
   rw [stsG_cons,← List.append_assoc] at HA
   have HA2:=qj HA.out;have HOK2:=qj HOK.out
   clear HA HOK hdr hc hc'
   unfold stsOk at HOK2
   simp only [Nat.add_zero] at e0
   generalize ls[i]=ev at *
   obtain ⟨ek,ea,er⟩:=ev
   simp only at *
   have CA:=qj fun (W2:World) (S2:List Nat) h1 h2=>alone_in (m - 1) (m - 1) W.heap.size (stsM r b a ls) l mb mx W.heap.size nb db eb r n f t h a b HR.out J Jx HJ.out HB.out HY.out ea (by have:=HOK2.out.2.1;omega) x (by omega) pre S2 W2 h1 h2 ⟨_,HA2.out.symm⟩
   obtain ⟨al,hal⟩:∃ al,alo r ea 3 x=al:=⟨_,rfl⟩
   simp only [hal] at HA2 HOK2 CA
   obtain ⟨y,hy⟩:∃ y,lstS x al=y:=⟨_,rfl⟩
   simp only [hy] at HA2 HOK2 CA
   obtain ⟨z,hz⟩:∃ z,aftM b ek er y.1=z:=⟨_,rfl⟩
   have HZA:=qj hz
   simp only [hz] at HA2 HOK2
   clear hal hy hz
   have n0:=qd HSx.out.now 0;have n1:=qd HSx.out.now 1;have n2:=qd HSx.out.now 2
   have nbl:=blk_lt HSx.out.now
   have FE:=qj (Fr.alloc [] wr (.cells #[.int .i64 ek,.int .i64 ea,.int .i64 er] 29))
   have BE:=qj (qm wr (.cells #[.int .i64 ek,.int .i64 ea,.int .i64 er] 29))
   have HQ1:=qj (HJ.out _ _ _ _ [] HQ.out FE.out (by simp))
   have HSx1:=qj (HSx.out.same FE.out);have HEx1:=qj (HEx.out.same FE.out)
   have hgb:Hid (wr.heap.size∉nb :: S'):=qj (by
    simp only [List.mem_cons,not_or]
    exact ⟨by omega,fun hm=>by have:=HSx.out.low _ hm;omega⟩)
   subst had
   clear n0 n1 n2
   gi_wp2
   refine ⟨trivial,fun hh=>(by cases hh),?_⟩
   refine (CA.out _ S' HSx1.out HQ1.out).mono ?_
   rintro e w4 (⟨rfl,S4,hj4,hs4,hy4,hk4,hS4⟩ | ⟨rfl,p,hp,hjx⟩)
   rotate_left
   ·have HJX:=qj (And.intro hp hjx)
    clear hp hjx CA
    gi_wp2
    refine bodyPost_ret (results_none rfl _ _ _) rfl ?_
    exact ⟨⟨_,rfl⟩,.inr ⟨p,HJX.out.1,HJX.out.2⟩⟩
   have HJ4:=qj hj4;have HS4:=qj hs4
   have HE4:=qj (HEx1.out.kpn hk4 hS4)
   have BE4:=qj (hk4.block _ _ hgb.out BE.out (fun r=>by simp))
   have CAF:=qj fun W3 (h3:McIn W3 mb r n f t h a b db eb)=>after_c mb r n f t h a b db eb y.1 ek ea er W3 h3
   have CB:=qj fun W3 (h3:McIn W3 mb r n f t h a b db eb)=>begins_c mb r n f t h a b db eb z.1 ea W3 h3 HR.out (by have:=HOK2.out.2.1;omega)
   rw [HZA.out,HOK2.out.1] at CAF
   simp only [cstV] at CB
   have HEA:Hid (0≤ea∧ea≤20000000):=qj HOK2.out.2.1
   have HGE:Hid (wr.heap.size≠nb):=qj (by have:=hgb.out;simp only [List.mem_cons,not_or] at this;exact this.1)
   clear hj4 hs4 hy4 hk4 hS4 CA HSx1 HEx1 HQ1 BE FE hgb HSx HEx HQ HZA
   obtain ⟨y1,y2⟩:=y
   obtain ⟨z1,z2⟩:=z
   obtain ⟨nz2,hnz2⟩:∃ nz2,nxS r (z1,ea)=nz2:=⟨_,rfl⟩
   simp only [hnz2] at CB
   simp only at *
   have HNZ2:=qj hnz2
   clear hnz2
   have n0:w4.cell? ⟨nb,0,none⟩=some (.int .i64 y1):=qd HS4.out.now 0
   have m0:w4.cell? ⟨mx,0,none⟩=some (.pointer (some ⟨mb,0,none⟩)):=qd HS4.out.mbx 0
   have b0:w4.cell? ⟨wr.heap.size,0,none⟩=some (.int .i64 ek):=qd BE4.out 0
   have b1:w4.cell? ⟨wr.heap.size,1,none⟩=some (.int .i64 ea):=qd BE4.out 1
   have b2:w4.cell? ⟨wr.heap.size,2,none⟩=some (.int .i64 er):=qd BE4.out 2
   gi_wp2
   refine ⟨trivial,fun hh=>(by cases hh),?_⟩
   refine (callsIn_wide.2 (CAF.out _ HS4.out.mac)).mono ?_
   rintro e w5 ⟨rfl,f5⟩
   have HJ5:=qj (HJ.out _ _ _ _ [] HJ4.out f5 (by simp));have HS5:=qj (HS4.out.same f5);have HE5:=qj (HE4.out.same f5);have BE5:=qj (f5.keep BE4.out (by simp))
   clear f5 CAF n0 m0 b0 b1 b2 HJ4 HS4 HE4 BE4
   have m0:w5.cell? ⟨mx,0,none⟩=some (.pointer (some ⟨mb,0,none⟩)):=qd HS5.out.mbx 0
   have b1:w5.cell? ⟨wr.heap.size,1,none⟩=some (.int .i64 ea):=qd BE5.out 1
   gi_wp2
   refine ⟨trivial,fun hh=>(by cases hh),?_⟩
   refine (callsIn_wide.2 (CB.out _ HS5.out.mac)).mono ?_
   rintro e w6 ⟨rfl,f6⟩
   have HJ6:=qj (HJ.out _ _ _ _ [] HJ5.out f6 (by simp));have HS6:=qj (HS5.out.same f6);have HE6:=qj (HE5.out.same f6);have BE6:=qj (f6.keep BE5.out (by simp))
   clear f6 CB m0 b1 HJ5 HS5 HE5 BE5
   have o0:=qd HS6.out.now 0;have o1:=qd HS6.out.now 1;have o2:=qd HS6.out.now 2
   have g0:=ql HS6.out.now 0;have g1:=ql HS6.out.now 1;have g2:=ql HS6.out.now 2
   have y0:w6.cell? ⟨W.heap.size,0,none⟩=some (.func (.yield l) #[] #[]):=qd HS6.out.ybx 0
   obtain ⟨BS,FS⟩:=set3c HS6.out.now (.int .i64 z1) (.int .i64 ea) (.int .i64 nz2)
   have HS7:=qj (HS6.out.put (y:=(z1,ea)) FS (by simp only [HNZ2.out];exact BS))
   have HJ7:=qj (HJ.out _ _ _ _ [nb] HJ6.out FS (by simp;exact ⟨HB.out,HS6.out.off.2.2.2⟩))
   have HE7:=qj (HE6.out.put FS)
   have hpx:(pre++al)++[(z1,ea)] <+: stsM r b a ls:=by rw [HA2.out];exact ⟨_,by rw [List.append_assoc];rfl⟩
   obtain ⟨fn,tmps,assign,body,hyy,hRR⟩:=HY.out S4 (pre++al) (z1,ea) _ HJ7.out HS7.out.low hpx
   simp only [cstV,HNZ2.out] at hyy
   have HRR:=qj hRR;have HPX:=qj hpx
   have yy0:World.cell? _ ⟨W.heap.size,0,none⟩=some (.func (.yield l) #[] #[]):=qd HS7.out.ybx 0
   have hne:W.heap.size≠nb:=HS7.out.dif.2.2
   clear hRR BS FS hpx HJ6 HS6 HE6 BE6 HJ7
   gi_wp2
   refine ⟨fun hh=>(by cases hh),?_⟩
   refine (roundIn_any HRR.out).mono ?_
   rintro e w8 (⟨rfl,S8,hj8,hk8,hs8⟩ | ⟨rfl,hjx⟩)
   rotate_left
   ·have HJX:=qj hjx
    clear hjx HRR hyy
    gi_wp2
    refine bodyPost_ret (results_none rfl _ _ _) rfl ?_
    exact ⟨⟨_,rfl⟩,.inr ⟨_,HPX.out,HJX.out⟩⟩
   have HS8:=qj (HS7.out.kp hk8 hs8);have HE8:=qj (HE7.out.kp hk8 hs8)
   have HJ8:Hid (J S8 ((pre++al)++[(z1,ea)]) w8):=qj hj8
   clear hj8 hk8 hs8 HRR hyy HS7 HE7 o0 o1 o2 g0 g1 g2 y0 yy0 hne
   gi_wp2
   go_roundw
   case rel=>exact ⟨i+1,(z1,ea),(pre++al)++[(z1,ea)],S8,by go_num,hlt,qj (by rw [HA2.out];simp),qj HOK2.out.2.2,HJ8,HS8,HE8,HEA.out⟩
   case measure=>simp [RowKit.intOf];omega
  ·obtain rfl:i=ls.length:=by omega
   rw [List.drop_length] at HA
   have HA2:=qj HA.out
   clear HA HOK
   unfold stsG at HA2
   have CA:=qj (alone_in (m - 1) (m - 1) W.heap.size (stsM r b a ls) l mb mx W.heap.size nb db eb r n f t h a b HR.out J Jx HJ.out HB.out HY.out 4611686018427387904 (by omega) x (by omega) pre S' wr HSx.out HQ.out (by rw [HA2.out];exact List.prefix_rfl))
   rw [← HA2.out] at CA
   clear HSx HEx HQ HA2
   gi_wp2
   refine ⟨trivial,fun hh=>(by cases hh),?_⟩
   refine CA.out.mono ?_
   rintro e w4 (⟨rfl,S4,hj4,_⟩ | ⟨rfl,p,hp,hjx⟩)
   ·have HJ4:=qj hj4
    clear hj4 CA
    gi_wp2
    go_end0
    exact ⟨⟨_,rfl⟩,.inl ⟨_,_,rfl,HJ4.out⟩⟩
   ·have HJ4:=qj (And.intro hp hjx)
    clear hp hjx CA
    gi_wp2
    go_end0
    exact ⟨⟨_,rfl⟩,.inr ⟨p,HJ4.out.1,HJ4.out.2⟩⟩
end
end Go.Proofs.YtledkokhghjfmaaGreatDoor
