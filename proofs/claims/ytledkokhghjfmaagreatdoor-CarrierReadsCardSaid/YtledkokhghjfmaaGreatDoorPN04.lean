/-
  A range over an iterator that writes variables of its own between its yields.
-/
import Derived.RangeFuncNested
import Derived.RangeFuncBound
import Derived.RangeFuncCalls
import Derived.RangeFuncLeaves
import Derived.Test.YtledkokhghjfmaaGreatDoorPS20
import Derived.Test.YtledkokhghjfmaaGreatDoorPN03
import Derived.Test.YtledkokhghjfmaaGreatDoorPS02
import Derived.OrdersIn
import Derived.TacticsIn
namespace Go.Proofs.YtledkokhghjfmaaGreatDoor
section
open Go.RowKit Go.Lib
def FreeFrom {β:Type} (B:Nat) (I:β→World→Prop):Prop:=∀ s X Y (fp:List Nat),I s X→Fr fp X Y→(∀ k,k∈fp→B≤k)→I s Y
structure KpS (fp:List Nat) (A B:World):Prop where
 os:B.os=A.os
 tape:B.tape=A.tape
 output:B.output=A.output
 size:A.heap.size≤B.heap.size
 block:∀ k o,k∉fp→A.heap[k]?=some o→o.isCells=true→B.heap[k]?=some o
theorem KpS.trans {fp:List Nat} {A B C:World} (h:KpS fp A B) (k:KpS fp B C):KpS fp A C:=⟨k.os.trans h.os,k.tape.trans h.tape,k.output.trans h.output,Nat.le_trans h.size k.size,fun i o hn ho hc=>k.block i o hn (h.block i o hn ho hc) hc⟩
theorem KpS.of {fp:List Nat} {A B:World} (h:Fr fp A B):KpS fp A B:=⟨h.os,h.tape,h.output,h.size,fun _ _ hn ho _=>h.keep ho hn⟩
theorem KpS.put {fp:List Nat} (W:World) (l:Nat) (o o':Obj) (h:W.heap[l]?=some o) (hc:o.isCells=false):KpS fp W (W.putObj l o') :=
 have hg:=grownBy_putObj' W l o'
 ⟨hg.os,hg.tape,hg.output,hg.size,fun k ok _ hk hkc=>(hg.block k (Array.getElem?_eq_some_iff.1 hk).1 (fun e=>by cases e;rw [h] at hk;cases hk;rw [hc] at hkc;cases hkc)).trans hk⟩
theorem fr_put (W:World) (l:Nat) (o':Obj):Fr [l] W (W.putObj l o'):=Fr.grown (grownBy_putObj' W l o') (fun k e=>by cases e;simp)
def SeqY {α:Type} (n g:Nat) (lb:Array Value) (encs:α→Array Value) (fp:List Nat) (zs:List α) (w:World):Prop :=
 ∀ (l:Nat) (J Jx:List α→World→Prop),FreeFrom w.heap.size J→FreeFrom w.heap.size Jx →
  (∀ pre x W,J pre W→pre++[x] <+: zs→YieldAt Fence.wide (n - 1) Tryz.prog l (encs x) W fun e W' =>
   (e=.returned (.bool true)∧J (pre++[x]) W'∧KpS fp W W')∨(e=.returned (.bool false)∧Jx (pre++[x]) W')) →
  J [] w→CallsIn Fence.wide n Tryz.prog g (#[.func (.yield l) #[] #[]]++lb) w fun e W'=>(∃ v,e=.returned v)∧(J zs W'∨∃ pre,pre <+: zs∧Jx pre W')
def endY {α:Type} (fp:List Nat) (I:List α→World→Prop) (Ix:Code→List α→World→Prop) (xs:List α) (W:World):Exit→Act→World→Prop
 | .normal,_,W'=>Fr fp W W'∧I xs W'
 | .ret,_,W'=>Fr fp W W'∧Ix .ret xs W'
 | .exit id,_,W'=>Fr fp W W'∧Ix (.exit id) xs W'
 | _,_,_=>False
theorem range_y {α:Type} {g:Operand} {ps:Array Tmp} {assign body:Code} {Q:Exit→Act→World→Prop} {a:Act} {w:World} {n gf:Nat} {lb:Array Value} (h1:1≤n)
  (hg:a.eval g=.func (.func gf) #[] lb) (eg:∀ args w,(callFunc gf args).run Tryz.prog w=.ok (.enter gf args) w)
  {encs:α→Array Value} (fp:List Nat) (zs:List α) (hfp:∀ k,k∈fp→k < w.heap.size) (hseq:∀ W,Fr [] w W→SeqY (n - 1) gf lb encs fp zs W) (hps:∀ x,(encs x).size=ps.size)
  (I:List α→World→Prop) (Ix:Code→List α→World→Prop) (hI:FreeFrom w.heap.size I) (hIx:∀ c,FreeFrom w.heap.size (Ix c)) (h0:I [] w)
  (Ax:α→Act→World→Prop) (hAx:∀ x a' W l o o',Ax x a' W→W.heap[l]?=some o→o.isCells=false→Ax x a' (W.putObj l o'))
  (hassign:∀ (l:Nat) (pre:List α) (x:α) (W:World) (K:Act→World→Prop),I pre W→(∀ a' W',Fr [] W W'→Ax x a' W'→K a' W') →
   assign.wpIn (Fence.wide.inRound l) (n - 1 - 1) Tryz.prog (Exit.then K (fun _ _ _=>False)) { tmps:=(ps.zip (encs x)).foldl (fun t (p,v)=>t.setIfInBounds p v) a.tmps,defers:=[] } W)
  (hbody:∀ (l:Nat) (pre:List α) (x:α) (a':Act) (W:World),I pre W→Ax x a' W→pre++[x] <+: zs→w.heap.size≤W.heap.size→body.wpIn (Fence.wide.inRound l) (n - 1 - 1) Tryz.prog (endY fp I Ix (pre++[x]) W) a' W)
  (hdone:∀ (D:Nat) (W:World),w.heap.size≤D→I zs W→W.heap[D]?=some (.deferred (some []))→Q .normal { a with defers:={ target:=.collected D,args:=#[] } :: a.defers } W)
  (hstop:∀ (D:Nat) (c:Code) (pre:List α) (W:World),w.heap.size≤D→pre <+: zs→Ix c pre W→W.heap[D]?=some (.deferred (some []))→c.wpIn Fence.wide n Tryz.prog Q { a with defers:={ target:=.collected D,args:=#[] } :: a.defers } W) :
  (Code.rangeFunc g ps assign body).wpIn Fence.wide n Tryz.prog Q a w:=by
 refine wpIn_rangeFunc fun fn hfn=>?_
 obtain ⟨L,hL⟩:∃ L:Nat,w.heap.size+1=L:=⟨_,rfl⟩
 obtain ⟨rd,hrd⟩:∃ rd:LoopState→Option Code→Loop,rd=fun st pe=>{ state:=st,pending:=pe,fn,tmps:=a.tmps,params:=ps,assign,body,defers:=w.heap.size }:=⟨_,rfl⟩
 obtain ⟨W1,hW1⟩:∃ W1,(w.alloc (.deferred (some []))).alloc (.loop (rd .ready none))=W1:=⟨_,rfl⟩
 have f1:Fr [] w W1:=by rw [← hW1];exact (Fr.alloc _ _ _).trans (Fr.alloc _ _ _)
 have bL:W1.heap[L]?=some (.loop (rd .ready none)):=by
  have:=World.alloc_heap_new (w.alloc (.deferred (some []))) (.loop (rd .ready none))
  rw [World.size_alloc,hL,hW1] at this;exact this
 have bD:W1.heap[w.heap.size]?=some (.deferred (some [])):=by
  rw [← hW1];exact (Fr.alloc [] _ _).keep (World.alloc_heap_new w _) (by simp)
 have hz:W1.heap.size=L+1:=by rw [← hW1,← hL];simp
 refine ⟨L,[{ target:=.collected w.heap.size,args:=#[] }],W1,{ target:=.fn (.func gf) lb,args:=#[.func (.yield L) #[] #[]] },W1,gf,#[.func (.yield L) #[] #[]]++lb,W1,?_,?_,?_,?_,fun _=>h1,?_⟩
 ·rw [← hW1,← hL,hrd];exact run_enterLoop_outer _ _ _ _ _
 ·simp only [resolve,hg]
  simp [go_sem]
 ·intro f' _;trivial
 ·simp [invoke,go_sem,eg]
 refine (hseq W1 f1 L (fun pre W=>I pre W∧W.heap[L]?=some (.loop (rd .ready none))∧W.heap[w.heap.size]?=some (.deferred (some [])))
  (fun pre W=>∃ c,Ix c pre W∧W.heap[L]?=some (.loop (rd .done (some c)))∧W.heap[w.heap.size]?=some (.deferred (some []))) ?_ ?_ ?_ ⟨hI _ _ _ [] h0 f1 (by simp),bL,bD⟩).mono ?_
 ·rintro s X Y F ⟨i1,i2,i3⟩ hf hF
  exact ⟨hI _ _ _ F i1 hf (fun k hk=>by have:=hF k hk;omega),hf.keep i2 (fun hm=>by have:=hF _ hm;omega),hf.keep i3 (fun hm=>by have:=hF _ hm;omega)⟩
 ·rintro s X Y F ⟨c,i1,i2,i3⟩ hf hF
  exact ⟨c,hIx c _ _ _ F i1 hf (fun k hk=>by have:=hF k hk;omega),hf.keep i2 (fun hm=>by have:=hF _ hm;omega),hf.keep i3 (fun hm=>by have:=hF _ hm;omega)⟩
 ·rintro pre x W ⟨i1,i2,i3⟩ hp
  have hy:=run_yield (P:=Tryz.prog) (args:=encs x) i2 (by rw [hrd];exact hps x)
  rw [hrd] at hy
  refine ⟨fn,_,assign,body,hy,roundIn_of_wpIn hfn (hassign L pre x W _ i1 fun a' Wa fa ax=>?_)⟩
  have j2:=fa.keep i2 (by simp)
  have j3:=fa.keep i3 (by simp)
  have hlt:=(Array.getElem?_eq_some_iff.1 j2).1
  refine ⟨_,run_beginRound j2 (by rw [hrd]),?_⟩
  obtain ⟨B,hB⟩:∃ B,Obj.loop { rd .ready none with state:=.busy }=B:=⟨_,rfl⟩
  rw [hB]
  have fb:Fr [L] Wa (Wa.putObj L B):=fr_put _ _ _
  have k2:(Wa.putObj L B).heap[L]?=some B:=World.putObj_heap_same hlt
  have k3:=fb.keep j3 (by simp;omega)
  have hwa:w.heap.size≤(Wa.putObj L B).heap.size:=by have:=fb.size;omega
  have kp0:KpS fp W (Wa.putObj L B):=(KpS.of (fa.mono (by simp))).trans (KpS.put _ _ _ _ j2 rfl)
  refine wpIn_mono (hbody L pre x a' _ (hI _ _ _ [L] (hI _ _ _ [] i1 fa (by simp)) fb (by simp;omega)) (hAx _ _ _ _ _ _ ax j2 rfl) hp hwa) ?_
  have fin:∀ (jump:Option Code) (W3:World),Fr fp (Wa.putObj L B) W3 →
    (Instr.endRound L jump).run Tryz.prog W3=.ok (.bool jump.isNone) (W3.putObj L (.loop (rd (if jump.isNone then .ready else .done) jump)))∧W3.heap[L]?=some B ∧
    (W3.putObj L (.loop (rd (if jump.isNone then .ready else .done) jump))).heap[L]?=some (.loop (rd (if jump.isNone then .ready else .done) jump)) ∧
    (W3.putObj L (.loop (rd (if jump.isNone then .ready else .done) jump))).heap[w.heap.size]?=some (.deferred (some [])):=fun jump W3 hf=>by
   have m2:=hf.keep k2 (fun hm=>by have:=hfp _ hm;omega)
   have m3:=hf.keep k3 (fun hm=>by have:=hfp _ hm;omega)
   have hr:=run_endRound (P:=Tryz.prog) jump (m2.trans (by rw [hB]))
   rw [hrd] at hr ⊢
   exact ⟨hr,m2,World.putObj_heap_same (Array.getElem?_eq_some_iff.1 m2).1,(fr_put _ _ _).keep m3 (by simp;omega)⟩
  have hBc:B.isCells=false:=by rw [← hB];rfl
  rintro e a3 W3 hq
  cases e with
  | normal =>
   obtain ⟨hf,hi⟩:=hq
   obtain ⟨hr,m1,m2,m3⟩:=fin none W3 hf
   exact ⟨_,_,hr,.inl ⟨rfl,⟨hI _ _ _ [L] hi (fr_put _ _ _) (by simp;omega),m2,m3⟩,kp0.trans ((KpS.of hf).trans (KpS.put _ _ _ _ m1 hBc))⟩⟩
  | ret =>
   obtain ⟨hf,hi⟩:=hq
   obtain ⟨hr,m1,m2,m3⟩:=fin (some .ret) W3 hf
   exact ⟨_,_,hr,.inr ⟨rfl,.ret,hIx _ _ _ _ [L] hi (fr_put _ _ _) (by simp;omega),m2,m3⟩⟩
  | exit id =>
   obtain ⟨hf,hi⟩:=hq
   obtain ⟨hr,m1,m2,m3⟩:=fin (some (.exit id)) W3 hf
   exact ⟨_,_,hr,.inr ⟨rfl,.exit id,hIx _ _ _ _ [L] hi (fr_put _ _ _) (by simp;omega),m2,m3⟩⟩
  | goto t=>exact hq.elim
  | panic c=>exact hq.elim
  | outgrown=>exact hq.elim
 ·rintro e W2 ⟨⟨v,rfl⟩,(⟨i1,i2,i3⟩ | ⟨pre,hp,c,i1,i2,i3⟩)⟩
  ·refine ⟨none,_,by have:=run_endLoop (P:=Tryz.prog) i2 (by rw [hrd];simp);rw [hrd] at this;exact this,hdone _ _ (Nat.le_refl _) (hI _ _ _ [L] i1 (fr_put _ _ _) (by simp;omega)) ((fr_put _ _ _).keep i3 (by simp;omega))⟩
  ·refine ⟨some c,_,by have:=run_endLoop (P:=Tryz.prog) i2 (by rw [hrd];simp);rw [hrd] at this;exact this,hstop _ c pre _ (Nat.le_refl _) hp (hIx c _ _ _ [L] i1 (fr_put _ _ _) (by simp;omega)) ((fr_put _ _ _).keep i3 (by simp;omega))⟩
end
section
open Go.RowKit Go.Shelf Go.Lib
attribute [local go_sem] Oper.semAt_some
theorem KpS.cel {fp:List Nat} {A B:World} {b i:Nat} {v:Value} (h:KpS fp A B) (hc:A.cell? ⟨b,i,none⟩=some v) (hn:b∉fp):B.cell? ⟨b,i,none⟩=some v:=by
 unfold World.cell? at hc ⊢
 cases hb:A.heap[b]? with
 | none=>simp [hb] at hc
 | some o =>
  cases o with
  | cells c e f=>simp only [hb] at hc;simp only [h.block b _ hn hb rfl];exact hc
  | _=>simp [hb] at hc
theorem Sl.kpS {fp:List Nat} {A B:World} {v:Value} {n:Nat} {cs:List Value} (h:Sl A v n cs) (hk:KpS fp A B) (hn:∀ g,v.ownBlock=some g→g∉fp):Sl B v n cs:=by
 obtain ⟨a,cap,rfl,h1,h2,h3⟩:=h
 refine ⟨a,cap,rfl,h1,h2,fun h0=>?_⟩
 obtain ⟨b,off,rfl,hc⟩:=h3 h0
 exact ⟨b,off,rfl,fun j u hu=>hk.cel (hc j u hu) (hn b rfl)⟩
def lnNext (x:Ln) (e:Le):Ln:=(stepX x e.k.toNat e.a e.h).getD x
def lnAt (l:List Le) (k:Nat):Ln:=(l.take k).foldl lnNext line0L
structure LifeOk (l:List Le):Prop where
 len:l.length≤40
 step:∀ k (h:k < l.length),lnOk (lnAt l k)=true∧lnB l[k].k l[k].a l[k].h=true∧(lnAt l k).si≤l[k].a∧stepX (lnAt l k) l[k].k.toNat l[k].a l[k].h=some (lnAt l (k+1))
theorem lnAt_zero (l:List Le):lnAt l 0=line0L:=rfl
def yldL (l:List Le):List (Int × Ln):=(List.range (l.length+1)).map fun (k:Nat)=>((k:Int) - 1,lnAt l k)
abbrev ylE (x:Int × Ln):Array Value:=#[.int .i64 x.1,lnVv x.2]
theorem yldL_pre (l:List Le) {k:Nat} (h:k≤l.length):(List.range k).map (fun (k:Nat)=>((k:Int) - 1,lnAt l k))++[((k:Int) - 1,lnAt l k)] <+: yldL l:=by
 have:yldL l=(List.range (k+1)).map (fun (k:Nat)=>((k:Int) - 1,lnAt l k))++((List.range (l.length - k)).map (k+1+·)).map (fun (k:Nat)=>((k:Int) - 1,lnAt l k)):=by
  unfold yldL
  rw [← List.map_append,← List.range_add];congr 2;omega
 rw [this,List.range_succ,List.map_append,List.map_singleton]
 exact List.prefix_append _ _
def ylK (l:List Le) (k:Nat):List (Int × Ln):=(List.range k).map fun (k:Nat)=>((k:Int) - 1,lnAt l k)
theorem ylK_succ (l:List Le) (k:Nat):ylK l k++[((k:Int) - 1,lnAt l k)]=ylK l (k+1):=by
 unfold ylK;rw [List.range_succ,List.map_append,List.map_singleton]
theorem set4 {w:World} {b:Nat} {ty:TypeId} {c0 c1 c2 c3:Value} (h:w.heap[b]?=some (.cells #[c0,c1,c2,c3] ty (0,0))) (a0 a1 a2 a3:Value) :
  Fr [b] w ((((w.setCell ⟨b,0,none⟩ a0).setCell ⟨b,1,none⟩ a1).setCell ⟨b,2,none⟩ a2).setCell ⟨b,3,none⟩ a3) ∧
  ((((w.setCell ⟨b,0,none⟩ a0).setCell ⟨b,1,none⟩ a1).setCell ⟨b,2,none⟩ a2).setCell ⟨b,3,none⟩ a3).heap[b]?=some (.cells #[a0,a1,a2,a3] ty (0,0)):=by
 have f (W:World) (i:Nat) (u:Value):Fr [b] W (W.setCell ⟨b,i,none⟩ u):=Fr.setCell _ _ (by simp)
 exact ⟨(((f _ _ _).trans (f _ _ _)).trans (f _ _ _)).trans (f _ _ _),qs (i:=3) a3 (qs (i:=2) a2 (qs (i:=1) a1 (qs (i:=0) a0 h)))⟩
set_option maxRecDepth 100000 in
set_option maxHeartbeats 4000000 in
theorem lines1_seq (n bx:Nat) (a:Option Addr) (cap:Nat) (ls:List Le) (fp:List Nat) (hok:LifeOk ls) (W:World) (hx:W.heap[bx]?=some (.cells #[.slice a ls.length cap] 63 (0,0))) (hr:Sl W (.slice a ls.length cap) ls.length (ls.flatMap leC))
  (hfx:bx∉fp) (hfr:∀ g,(Value.slice a ls.length cap).ownBlock=some g→g∉fp∧g < W.heap.size) (hfl:∀ k,k∈fp→k < W.heap.size):SeqY n 195 #[.pointer (some ⟨bx,0,none⟩)] ylE fp (yldL ls) W:=by
 intro l' J Jx hJ hJx hY h0
 have HO:=qj hok;have HX:=qj hx;have HR:=qj hr;have HJ:=qj hJ;have HY:=qj hY;have HJ0:=qj h0
 have HFP:=qj (And.intro hfx (And.intro hfr hfl))
 have hbx:=blk_lt hx
 have hlen:=hok.len
 clear hok hx hr hJ hJx hY h0 hfx hfr hfl
 refine callsIn_of_wp Tryz.func195 rfl trivial ?_ rfl
 simp only [Tryz.ntmps195,List.size_toArray,List.length_cons,List.length_nil,Nat.reduceAdd,Nat.reduceSub,Array.replicate_succ,Array.replicate_zero,List.push_toArray,List.append_toArray,List.nil_append,List.cons_append]
 have FA:=qj (Fr.alloc [] W (.cells #[.int .i64 0,.int .i64 (-1),.int .i64 0,.int .i64 0] 131))
 have hb1:=qj (qm W (.cells #[.int .i64 0,.int .i64 (-1),.int .i64 0,.int .i64 0] 131))
 have HJ1:=qj (HJ.out _ _ _ [] HJ0.out FA.out (by simp))
 obtain ⟨fn,tmps,assign,body,hy,hR⟩:=HY.out [] (-1,line0L) _ HJ1.out (by have:=yldL_pre ls (Nat.zero_le _);simpa [lnAt_zero] using this)
 dsimp only [ylE,line0L] at hy
 have HRR:=qj hR
 clear hR HJ0 HJ1
 gi_wp2
 refine ⟨fun hh=>(by cases hh),?_⟩
 refine HRR.out.mono ?_
 rintro e w1 (⟨rfl,hJ1,hk1⟩ | ⟨rfl,hJx1⟩)
 ·have HJ1:Hid (J (ylK ls 1) w1):=qj (by have:=hJ1;simpa [ylK,lnAt_zero] using this)
  have HF1:Hid (w1.heap[W.heap.size]?=some (.cells #[.int .i64 0,.int .i64 (-1),.int .i64 0,.int .i64 0] 131 (0,0))):=qj (hk1.block _ _ (fun hm=>by have:=HFP.out.2.2 _ hm;omega) hb1.out rfl)
  have HX1:=qj (hk1.block _ _ HFP.out.1 (FA.out.keep HX.out (by simp)) rfl)
  have HR1:=qj ((HR.out.same FA.out).kpS hk1 fun g hg=>(HFP.out.2.1 g hg).1)
  clear hJ1 hk1 hy HRR HX HR FA hb1
  have x0:w1.cell? ⟨bx,0,none⟩=some (.slice a ls.length cap):=qd HX1.out 0
  gi_wp2
  clear x0
  gi_loopw [15] (fun s wr=>∃ i:Nat,i≤ls.length∧s=.int .i64 i∧Hid (J (ylK ls (i+1)) wr)∧Hid (wr.heap[W.heap.size]?=some (.cells #[.int .i64 (lnAt ls i).st,.int .i64 (lnAt ls i).ho,.int .i64 (lnAt ls i).ep,.int .i64 (lnAt ls i).si] 131 (0,0)))∧Hid (Sl wr (.slice a ls.length cap) ls.length (ls.flatMap leC))) (fun s _=>ls.length - (RowKit.intOf s).toNat)
  case atStart=>exact ⟨0,Nat.zero_le _,rfl,HJ1,HF1,HR1⟩
  case round =>
   clear HJ1 HF1 HX1 HR1
   obtain ⟨i,hi,rfl,HJi,HFi,HRi⟩:=hrel
   by_cases hlt:i < ls.length
   ·obtain ⟨sb,so,ha,hc⟩:=HRi.out.at_ (by omega)
    have hc':∀ j u,j < 3→(leC (ls[i]'hlt))[j]?=some u→wr.cell? ⟨sb,so+i*3+j,none⟩=some u:=fun j u hj hu=>by
     rw [Nat.add_assoc]
     exact hc _ u (by rw [flat_get (enc:=leC) (k:=3) (fun _=>rfl) _ i hlt j hj];exact hu)
    have e0:=hc' 0 _ (by omega) rfl;have e1:=hc' 1 _ (by omega) rfl;have e2:=hc' 2 _ (by omega) rfl
    obtain ⟨o1,o2,o3,o4⟩:=HO.out.step i hlt
    have HPf:Hid (ylK ls (i+1)++[((i:Int),lnAt ls (i+1))]=ylK ls (i+1+1)∧ylK ls (i+1)++[((i:Int),lnAt ls (i+1))] <+: yldL ls):=by
     have h1:=ylK_succ ls (i+1)
     have h2:=yldL_pre ls (k:=i+1) (by omega)
     have he:((i+1:Nat):Int) - 1=(i:Int):=by omega
     rw [he] at h1 h2
     exact qj ⟨h1,h2⟩
    have hk:0≤ls[i].k:=by
     unfold lnB at o2;simp only [Bool.and_eq_true] at o2;have:=(inB_iff.1 o2.1.1).1;omega
    obtain ⟨m,hm⟩:=Int.eq_ofNat_of_zero_le hk
    rw [hm,Int.toNat_natCast] at o4
    rw [hm] at o2
    have CS:=qj fun W=>lfStep_x (lnAt ls i) m ls[i].a ls[i].h W o1 o2 o3
    rw [o4] at CS
    simp only [Nat.add_zero,hm] at e0 e1 e2
    generalize ls[i].a=ea at *
    generalize ls[i].h=eh at *
    have hlb:=blk_lt HFi.out
    have l0:=qd HFi.out 0;have l1:=qd HFi.out 1;have l2:=qd HFi.out 2;have l3:=qd HFi.out 3
    subst ha
    clear hc hc' o1 o2 o3 o4 hk hm
    generalize lnAt ls i=x at *
    generalize hY1:lnAt ls (i+1)=y at *
    obtain ⟨st,ho,ep,si⟩:=x
    obtain ⟨yt,yo,yp,yi⟩:=y
    simp only [stV] at CS
    have FE:=qj (Fr.alloc [] wr (.cells #[.int .i64 (m:Int),.int .i64 ea,.int .i64 eh] 25))
    gi_wp2
    refine ⟨trivial,fun hh=>(by cases hh),?_⟩
    refine (callsIn_wide.2 (CS.out _)).mono ?_
    rintro e w2 ⟨rfl,fs⟩
    have F2:=qj (FE.out.trans fs)
    have FA:=qj (F2.out.trans (Fr.alloc [] w2 (.cells #[.int .i64 yt,.int .i64 yo,.int .i64 yp,.int .i64 yi] 131)))
    have hb3:=qj (qm w2 (.cells #[.int .i64 yt,.int .i64 yo,.int .i64 yp,.int .i64 yi] 131))
    have HL3:=qj (FA.out.keep HFi.out (by simp))
    have HR3:=qj (HRi.out.same FA.out)
    have HJ3:=qj (HJ.out _ _ _ [] HJi.out FA.out (by simp))
    have hw2:W.heap.size < w2.heap.size:=by have:=F2.out.size;omega
    obtain ⟨fn,tmps,assign,body,hy,hR⟩:=HY.out (ylK ls (i+1)) ((i:Int),⟨yt,yo,yp,yi⟩) _ HJ3.out (HPf.out.2)
    dsimp only [ylE] at hy
    have HRR:=qj hR
    clear hR CS FE F2 FA fs l0 l1 l2 l3 HFi HRi HJi HJ3 e0 e1 e2
    gi_wp2
    refine ⟨fun hh=>(by cases hh),?_⟩
    refine HRR.out.mono ?_
    rintro e w4 (⟨rfl,hJ4,hk4⟩ | ⟨rfl,hJx4⟩)
    ·have hnl:W.heap.size∉fp:=fun hm=>by have:=HFP.out.2.2 _ hm;omega
     have hnn:w2.heap.size∉fp:=fun hm=>by have:=HFP.out.2.2 _ hm;omega
     have HL4:=qj (hk4.block _ _ hnl HL3.out rfl)
     have hb4:=hk4.block _ _ hnn hb3.out rfl
     have HR4:=qj (HR3.out.kpS hk4 fun g hg=>(HFP.out.2.1 g hg).1)
     have HJ4:Hid (J (ylK ls (i+1+1)) w4):=qj (by rw [← HPf.out.1];exact hJ4)
     have n0:=qd hb4 0;have n1:=qd hb4 1;have n2:=qd hb4 2;have n3:=qd hb4 3
     have l0:=qd HL4.out 0;have l1:=qd HL4.out 1;have l2:=qd HL4.out 2;have l3:=qd HL4.out 3
     have y0:=ql HL4.out 0;have y1:=ql HL4.out 1;have y2:=ql HL4.out 2;have y3:=ql HL4.out 3
     clear hJ4 hk4 hy HRR hnl hnn hb4 HL3 HR3 hb3
     gi_wp2
     obtain ⟨f4,b4⟩:=set4 HL4.out (.int .i64 yt) (.int .i64 yo) (.int .i64 yp) (.int .i64 yi)
     go_roundw
     case rel =>
      refine ⟨i+1,hlt,by go_num,qj (HJ.out _ _ _ _ HJ4.out f4 (by simp)),qj (by rw [hY1];exact b4),qj (HR4.out.fr f4 (fun g hg hm=>?_))⟩
      simp at hm
      have:=(HFP.out.2.1 g hg).2
      omega
     case measure=>simp [RowKit.intOf];omega
    ·have HJx4:=qj hJx4
     clear hJx4 hy HRR
     gi_wp2
     refine bodyPost_ret (results_none rfl _ _ _) rfl ?_
     exact ⟨⟨_,rfl⟩,.inr ⟨_,HPf.out.2,HJx4.out⟩⟩
   ·obtain rfl:i=ls.length:=by omega
    gi_wp2
    go_end0
    exact ⟨⟨_,rfl⟩,.inl HJi.out⟩
 ·have HJx1:=qj hJx1
  clear hJx1 hy HRR
  gi_wp2
  refine bodyPost_ret (results_none rfl _ _ _) rfl ?_
  exact ⟨⟨_,rfl⟩,.inr ⟨_,by have:=yldL_pre ls (Nat.zero_le _);simpa [lnAt_zero] using this,HJx1.out⟩⟩
end
section
section
variable {P:Program} {ops:Array Oper} {Q:Exit→Act→World→Prop}
theorem wpOpIn_of {n l i:Nat} (hd:∀ o,o∈ops.toList→∀ c,o.op≠.defer c) (hL:¬ LetsOut Q) {K K':Act→World→Prop} (hK:∀ a w,K a w→K' a w) {a:Act} {w:World} (h:wpOp P ops Q i K a w):wpOpIn (Fence.wide.inRound l) n P ops Q i K' a w:=by
 unfold wpOp at h
 unfold wpOpIn
 cases ho:ops[i]? with
 | none=>rw [ho] at h;exact hK _ _ h
 | some o =>
  rw [ho] at h
  simp only at h ⊢
  split
  ·rename_i hw
   simp only [hw,if_true] at h
   have h:=h.resolve_right (fun hh=>hL hh.2)
   refine ⟨fun f _=>trivial,?_⟩
   rw [Oper.semAt_eq _ _ _ (hd o (by
    obtain ⟨hi,rfl⟩:=Array.getElem?_eq_some_iff.1 ho
    exact Array.mem_toList_iff.2 (Array.getElem_mem hi)))]
   unfold Oper.wp at h
   generalize (execOp a.eval o).run P w=r at h ⊢
   cases r with
   | ok x w' =>
    cases x with
    | value v=>exact hK _ _ h
    | skip=>exact hK _ _ h
    | defer d=>exact hK _ _ h
    | enter f args =>
     refine ⟨fun hh=>(by cases hh),CallsIn.inRound l (callsIn_wide.2 (Calls.mono h ?_))⟩
     intro e w'' he
     cases e with
     | returned v=>exact hK _ _ he
     | panicked ch=>exact he
     | outgrown=>exact he
    | row row args =>
     refine ⟨fun hh=>(by cases hh),fun c cs _=>?_⟩
     obtain ⟨v,w'',hr,hs⟩:=h c cs
     exact ⟨v,w'',hK _ _ hr,stepsIn_wide.2 hs⟩
    | round l f tmps assign body=>exact h.elim
    | _=>exact h.elim
   | halt x w' =>
    cases x with
    | panic v=>exact h
    | _=>exact h.elim
  ·rename_i hw
   simp only [hw] at h
   exact ⟨fun f _=>trivial,hK _ _ h⟩
theorem wpAnyIn_of_wpAny {n l:Nat} {md:Region.Mode} (hd:∀ o,o∈ops.toList→∀ c,o.op≠.defer c) (hL:¬ LetsOut Q):∀ (fuel:Nat) (listed:Array Bool) (a:Act) (w:World),wpAny P md ops Q fuel listed a w→wpAnyIn (Fence.wide.inRound l) n P md ops Q fuel listed a w
 | 0,_,_,_,h=>h
 | fuel+1,_listed,_a,_w,h=>⟨h.1,fun i hi=>wpOpIn_of hd hL (fun a' w' h'=>wpAnyIn_of_wpAny hd hL fuel _ a' w' h') (h.2 i hi)⟩
def noDeferB (l:List Oper):Bool:=l.all fun o=>match o.op with | .defer _=>false | _=>true
theorem noDefer_of {l:List Oper} (h:noDeferB l=true):∀ o,o∈l.toArray.toList→∀ c,o.op≠.defer c:=by
 intro o ho c hc
 have:=List.all_eq_true.1 h o (by simpa using ho)
 rw [hc] at this
 cases this
theorem reg_mixR {id n rl:Nat} {a:Act} {w:World} {l:List Oper} (S:World→Prop) (perm:List Nat) (hm:P.follows .mixedOrders=true) (hs:Region.noSelect l.toArray=true) (hp:permB l.toArray perm (Array.replicate l.toArray.size false)=true) (hl:perm.length=l.toArray.size) (hd:noDeferB l=true) (hL:¬ LetsOut (NoPanic Q)) (hS:S w.drew)
  (h:wpMix P l.toArray (NoPanic Q) S perm a w.drew):(Code.region id l.toArray true).wpIn (Fence.wide.inRound rl) n P Q a w:=by
 have h2:=wpAnyH_of_mix hs (fun _ _ _ _ _ h=>h) perm _ a _ hp hS h
 rw [hl] at h2
 have h3:=wpAnyIn_of_wpAny (n:=n) (l:=rl) (noDefer_of hd) hL _ _ _ _ (wpAny_of_held _ _ _ _ h2)
 exact Code.wpIn_mono NoPanic.imp (wpIn_region_any hm h3)
end
end
section
open Go.RowKit Go.Shelf Go.Lib
attribute [local go_sem] Oper.semAt_some
theorem yldL_K (l:List Le):yldL l=ylK l (l.length+1):=rfl
def nOfY (pre:List (Int × Ln)):Int:=(pre.getLast?.map (·.1+1)).getD 0
def lOfY (pre:List (Int × Ln)):Ln:=(pre.getLast?.map (·.2)).getD ⟨0,0,0,0⟩
theorem nOfY_snoc (pre:List (Int × Ln)) (x:Int × Ln):nOfY (pre++[x])=x.1+1∧lOfY (pre++[x])=x.2:=by
 unfold nOfY lOfY;simp
theorem nOfY_end (l:List Le):nOfY (yldL l)=l.length∧lOfY (yldL l)=lnAt l l.length:=by
 rw [yldL_K,← ylK_succ]
 have:=nOfY_snoc (ylK l l.length) ((l.length:Int) - 1,lnAt l l.length)
 refine ⟨?_,this.2⟩
 rw [this.1];show (l.length:Int) - 1+1=_;omega
abbrev lnC (x:Ln):Array Value:=#[.int .i64 x.st,.int .i64 x.ho,.int .i64 x.ep,.int .i64 x.si]
def RnI (w0:World) (nb lb:Nat) (pre:List (Int × Ln)) (W:World):Prop :=
 W.heap[nb]?=some (.cells #[.int .i64 (nOfY pre)] 3 (0,0))∧W.heap[lb]?=some (.cells (lnC (lOfY pre)) 131 (0,0))∧Fr [nb,lb] w0 W
theorem rnI_free (w0:World) (nb lb:Nat) (hn:nb < w0.heap.size) (hl:lb < w0.heap.size):FreeFrom w0.heap.size (RnI w0 nb lb):=by
 rintro s X Y F ⟨h1,h2,h3⟩ hf hF
 exact ⟨hf.keep h1 (fun hm=>by have:=hF _ hm;omega),hf.keep h2 (fun hm=>by have:=hF _ hm;omega),h3.step hf (fun i hi=>.inr (hF i hi))⟩
set_option maxRecDepth 100000 in
theorem lfLines_c (a:Option Addr) (n cap:Nat) (w:World):Calls Tryz.prog 181 #[.slice a n cap] w fun e w'=>e=.returned (.func (.func 195) #[] #[.pointer (some ⟨w.heap.size,0,none⟩)])∧w'=w.alloc (.cells #[.slice a n cap] 63):=by
 go_enter Tryz.func181,Tryz.ntmps181
 go_wp2_with fail
 go_ret
 exact ⟨rfl,rfl⟩
theorem alloc3y (w:World) (o0 o1 o2:Obj):(((w.alloc o0).alloc o1).alloc o2).heap[w.heap.size]?=some o0∧(((w.alloc o0).alloc o1).alloc o2).heap[w.heap.size+1]?=some o1∧(((w.alloc o0).alloc o1).alloc o2).heap[w.heap.size+1+1]?=some o2∧Fr [] w (((w.alloc o0).alloc o1).alloc o2)∧(((w.alloc o0).alloc o1).alloc o2).heap.size=w.heap.size+1+1+1:=by
 have h1:=qm (w.alloc o0) o1
 have h2:=qm ((w.alloc o0).alloc o1) o2
 simp only [World.size_alloc] at h1 h2
 exact ⟨(Fr.alloc [] _ _).keep ((Fr.alloc [] _ _).keep (qm w o0) (by simp)) (by simp),(Fr.alloc [] _ _).keep h1 (by simp),h2,((Fr.alloc _ _ _).trans (Fr.alloc _ _ _)).trans (Fr.alloc _ _ _),by simp⟩
def RnA (v:Value) (n B0 B4:Nat) (x:Int × Ln) (a':Act) (W:World):Prop:=∃ B,a'={ tmps:=#[v,undef,.pointer (some ⟨B0,0,none⟩),.int .i64 0,.int .i64 0,.pointer (some ⟨B0+1,0,none⟩),.pointer (some ⟨B0+1+1,0,none⟩),.int .i64 x.1,.pointer (some ⟨B,0,none⟩),.agg #[.int .i64 0,.int .i64 0,.int .i64 0,.int .i64 0],v,v,.int .i64 n,.int .i64 n,v,.func (.func 195) #[] #[.pointer (some ⟨B0+1+1+1,0,none⟩)],.int .i64 x.1,lnVv x.2,undef,undef,undef,undef,undef,undef,undef,undef,undef,undef,undef],defers:=[] }∧B4≤B∧W.heap[B]?=some (.cells (lnC x.2) 131 (0,0))
set_option maxRecDepth 100000 in
set_option maxHeartbeats 8000000 in
theorem lfRun_c (a:Option Addr) (cap:Nat) (ls:List Le) (w:World) (hok:LifeOk ls) (h:Sl w (.slice a ls.length cap) ls.length (ls.flatMap leC)) (hy:∀ g,(Value.slice a ls.length cap).ownBlock=some g→g < w.heap.size) :
  Calls Tryz.prog 154 #[.slice a ls.length cap] w fun e w'=>e=.returned (.tuple #[lnVv (lnAt ls ls.length),.int .i64 ls.length,.int .i64 0])∧Fr [] w w':=by
 have CL:=qj fun W=>lfLines_c a ls.length cap W
 have HO:=qj hok;have HS:=qj h;have HG:=qj hy
 have hlen:=hok.len
 have hcap:=h.caps3
 clear hok h hy
 refine (callsIn_wide (n:=3)).1 (callsIn_of_wp_marks Tryz.func154 rfl trivial ?_ rfl)
 simp only [Tryz.ntmps154,List.size_toArray,List.length_cons,List.length_nil,Nat.reduceAdd,Nat.reduceSub,Array.replicate_succ,Array.replicate_zero,List.push_toArray,List.append_toArray,List.nil_append,List.cons_append]
 refine wpIn_wide.2 ?_
 go_wp2_with fail
 have hmi:min (ls.length:Int) 40=(ls.length:Int):=by omega
 simp only [hmi,Int.toNat_natCast]
 have A3:=alloc3y w (.cells #[.int .i64 0,.int .i64 0,.int .i64 0,.int .i64 0] 131) (.cells #[.int .i64 0] 3) (.cells #[.int .i64 0,.int .i64 0,.int .i64 0,.int .i64 0] 131)
 generalize ((w.alloc (.cells #[.int .i64 0,.int .i64 0,.int .i64 0,.int .i64 0] 131)).alloc (.cells #[.int .i64 0] 3)).alloc (.cells #[.int .i64 0,.int .i64 0,.int .i64 0,.int .i64 0] 131)=w3 at *
 refine (CL.out w3).mono ?_
 rintro e w4 ⟨rfl,h4⟩
 have F4:=Fr.alloc [] w3 (.cells #[.slice a ls.length cap] 63)
 have B4:=qm w3 (.cells #[.slice a ls.length cap] 63)
 rw [← h4] at F4 B4
 obtain ⟨b0,b1,b2,f3,hz3⟩:=A3
 have HB0:=qj (F4.keep b0 (by simp));have HB1:=qj (F4.keep b1 (by simp));have HB2:=qj (F4.keep b2 (by simp))
 have HF4:=qj (f3.trans F4);have HB4:=qj B4
 have hz4:w4.heap.size=w.heap.size+1+1+1+1:=by rw [h4];simp [hz3]
 rw [hz3]
 rw [hz3] at HB4
 clear h4 F4 B4 b0 b1 b2 f3 CL hmi
 go_wp2_with fail
 refine (wpIn_wide (n:=3)).1 ?_
 have hz5:w4.heap.size=w.heap.size+1+1+1+1:=hz4
 refine range_y (n:=3) (by omega) (gf:=195) (lb:=#[.pointer (some ⟨w.heap.size+1+1+1,0,none⟩)]) rfl (fun _ _=>rfl) [w.heap.size+1,w.heap.size+1+1] (yldL ls) (by simp;omega)
  (fun W hf=>lines1_seq 2 (w.heap.size+1+1+1) a cap ls _ HO.out W (hf.keep HB4.out (by simp)) (HS.out.same (HF4.out.trans hf)) (by simp;omega) (fun g hg=>⟨by have:=HG.out g hg;simp;omega,by have:=HG.out g hg;have:=hf.size;omega⟩) (fun k hk=>by have:=hf.size;simp at hk;omega)) (fun _=>rfl)
  (RnI w4 (w.heap.size+1) (w.heap.size+1+1)) (fun _ _ _=>False) (rnI_free _ _ _ (by omega) (by omega)) (fun _ _ _ _ _ h _ _=>h) ⟨HB1.out,HB2.out,Fr.refl _ _⟩
  (RnA (.slice a ls.length cap) ls.length w.heap.size w4.heap.size) ?hAx ?assign ?body ?done ?stop
 case hAx =>
  rintro x a' W l o o' ⟨B,h1,h2,h3⟩ ho hc
  exact ⟨B,h1,h2,(fr_put _ _ _).keep h3 (fun hm=>by simp at hm;subst hm;rw [h3] at ho;cases ho;cases hc)⟩
 case assign =>
  rintro l pre ⟨xi,st,ho,ep,si⟩ W K hI hK
  have hs:=hI.2.2.size
  clear hI
  gi_wp2
  exact hK _ _ (Fr.alloc _ _ _) ⟨W.heap.size,rfl,hs,qm _ _⟩
 case body =>
  rintro l pre ⟨xi,st,ho,ep,si⟩ a' W ⟨i1,i2,i3⟩ ⟨B,rfl,hB,hb⟩ hp hs
  have HI1:=qj i1;have HI2:=qj i2;have HI3:=qj i3;have HBB:=qj hb
  have b0:=qd hb 0;have b1:=qd hb 1;have b2:=qd hb 2;have b3:=qd hb 3
  have hxi:-1≤xi∧xi≤40:=by
   obtain ⟨r,hr⟩:=hp
   have:(xi,(⟨st,ho,ep,si⟩:Ln))∈yldL ls:=by rw [← hr];simp
   unfold yldL at this
   simp only [List.mem_map,List.mem_range,Prod.mk.injEq] at this
   obtain ⟨k,h1,h2,_⟩:=this
   omega
  simp only [Nat.reduceSub]
  clear i1 i2 i3 hb hp
  gi_wp2
  refine reg_mixR (Fr [w.heap.size+1,w.heap.size+1+1] W) [0,1,2,3,4] (by kernel_rfl) (by kernel_rfl) (by kernel_rfl) rfl (by kernel_rfl) (by rintro ⟨a,w,h⟩;exact h) (Fr.drew _ _) ?_
  have FC:Fr [w.heap.size+1,w.heap.size+1+1] W W.drew:=Fr.drew _ _
  have N4:=(Fr.drew [] W).keep HI1.out (by simp);have N5:=(Fr.drew [] W).keep HI2.out (by simp)
  have hBn:B≠w.heap.size+1∧B≠w.heap.size+1+1:=by omega
  generalize W.drew=WC at FC N4 N5 ⊢
  (refine mix_take1 (v:=?_) rfl rfl rfl rfl (fun w hS=>?_) ?_;rotate_left;(focus (clear hS;go_simp;rfl));simp only [qu,qv,qx])
  (refine mix_take1 (v:=?_) rfl rfl rfl rfl (fun w hS=>?_) ?_;rotate_left;(focus (clear hS;go_simp;rw [IntWalk.i64_in (xi+1) (by omega)]));simp only [qu,qv,qx])
  (refine mix_take1 (v:=?_) rfl rfl rfl rfl (fun w hS=>?_) ?_;rotate_left;(focus (have s0:=hS.cel b0 (by simp;omega);have s1:=hS.cel b1 (by simp;omega);have s2:=hS.cel b2 (by simp;omega);have s3:=hS.cel b3 (by simp;omega);clear hS;go_simp;rfl));simp only [qu,qv,qx])
  have d4:=qd N4 0;have g4:=ql N4 0
  refine mix_do rfl rfl rfl (fun K hK=>?_)
  go_simp
  try go_upon
  try go_simp
  have P4:=qs (i:=0) (.int .i64 (xi+1)) N4
  have P5:=heap_setCell_other (p:=⟨w.heap.size+1,0,none⟩) (.int .i64 (xi+1)) N5 (by simp)
  have FC:=FC.trans (Fr.setCell (fp:=[w.heap.size+1,w.heap.size+1+1]) (p:=⟨w.heap.size+1,0,none⟩) WC (.int .i64 (xi+1)) (by simp))
  refine hK _ _ FC ?_
  clear hK K
  try simp only [Act.put,qu,qv,qx]
  generalize WC.setCell ⟨w.heap.size+1,0,none⟩ (.int .i64 (xi+1))=V1 at *
  have a0:=qd P5 0;have a1:=qd P5 1;have a2:=qd P5 2;have a3:=qd P5 3
  have g0:=ql P5 0;have g1:=ql P5 1;have g2:=ql P5 2;have g3:=ql P5 3
  refine mix_do rfl rfl rfl (fun K hK=>?_)
  go_simp
  try go_upon
  try go_simp
  obtain ⟨FS,Q5⟩:=set4 P5 (.int .i64 st) (.int .i64 ho) (.int .i64 ep) (.int .i64 si)
  have Q4:=FS.keep P4 (by simp)
  have FC:=FC.trans (FS.mono (by simp))
  refine hK _ _ FC ?_
  clear hK K
  try simp only [Act.put,qu,qv,qx]
  generalize (((V1.setCell ⟨w.heap.size+1+1,0,none⟩ (.int .i64 st)).setCell ⟨w.heap.size+1+1,1,none⟩ (.int .i64 ho)).setCell ⟨w.heap.size+1+1,2,none⟩ (.int .i64 ep)).setCell ⟨w.heap.size+1+1,3,none⟩ (.int .i64 si)=V2 at *
  refine mix_end ?_
  have HX2:Hid (Fr [w.heap.size+1,w.heap.size+1+1] W V2∧RnI w4 (w.heap.size+1) (w.heap.size+1+1) (pre++[(xi,(⟨st,ho,ep,si⟩:Ln))]) V2):=by
   obtain ⟨e1,e2⟩:=nOfY_snoc pre (xi,(⟨st,ho,ep,si⟩:Ln))
   refine qj ⟨FC,?_,?_,HI3.out.trans FC⟩
   ·rw [e1];simpa using Q4
   ·rw [e2];simpa using Q5
  clear FS Q5 Q4 FC P4 P5 a0 a1 a2 a3 g0 g1 g2 g3 b0 b1 b2 b3 d4 g4 N4 N5
  gi_wp2
  exact HX2.out
 case done =>
  rintro D W hD ⟨i1,i2,i3⟩ hd
  obtain ⟨e1,e2⟩:=nOfY_end ls
  rw [e1] at i1;rw [e2] at i2
  obtain ⟨z,hz⟩:∃ z,lnAt ls ls.length=z:=⟨_,rfl⟩
  rw [hz] at i2
  obtain ⟨zt,zo,zp,zi⟩:=z
  have HZ:=qj hz
  clear hz
  have HI1:=qj i1;have HI2:=qj i2;have HI3:=qj i3;have HD:=qj hd
  have HC0:=qj (i3.keep HB0.out (by simp;omega))
  have c0:W.cell? ⟨w.heap.size+1,0,none⟩=some (.int .i64 ls.length):=qd i1 0
  have l0:W.cell? ⟨w.heap.size+1+1,0,none⟩=some (.int .i64 zt):=qd i2 0
  have l1:W.cell? ⟨w.heap.size+1+1,1,none⟩=some (.int .i64 zo):=qd i2 1
  have l2:W.cell? ⟨w.heap.size+1+1,2,none⟩=some (.int .i64 zp):=qd i2 2
  have l3:W.cell? ⟨w.heap.size+1+1,3,none⟩=some (.int .i64 zi):=qd i2 3
  have r0:=qd HC0.out 0;have r1:=qd HC0.out 1;have r2:=qd HC0.out 2;have r3:=qd HC0.out 3
  have g0:=ql HC0.out 0;have g1:=ql HC0.out 1;have g2:=ql HC0.out 2;have g3:=ql HC0.out 3
  clear i1 i2 i3 hd e1 e2
  go_wp2_with fail
  refine reg_mix (Fr [w.heap.size] W) [0,1,2,3,4] (by kernel_rfl) (by kernel_rfl) (by kernel_rfl) rfl (Fr.drew _ _) ?_
  have FC:Fr [w.heap.size] W W.drew:=Fr.drew _ _
  have N0:=(Fr.drew [] W).keep HC0.out (by simp)
  generalize W.drew=WC at FC N0 ⊢
  iterate 2 (refine mix_take1 (v:=?_) rfl rfl rfl rfl (fun w hS=>?_) ?_;rotate_left;(focus (have c0:=hS.cel c0 (by simp);have l0:=hS.cel l0 (by simp;omega);have l1:=hS.cel l1 (by simp;omega);have l2:=hS.cel l2 (by simp;omega);have l3:=hS.cel l3 (by simp;omega);clear hS;go_simp;rfl));simp only [qu,qv,qx])
  clear r0 r1 r2 r3 g0 g1 g2 g3
  have r0:=qd N0 0;have r1:=qd N0 1;have r2:=qd N0 2;have r3:=qd N0 3
  have g0:=ql N0 0;have g1:=ql N0 1;have g2:=ql N0 2;have g3:=ql N0 3
  refine mix_do rfl rfl rfl (fun K hK=>?_)
  go_simp
  try go_upon
  try go_simp
  obtain ⟨FS,Q0⟩:=set4 N0 (.int .i64 zt) (.int .i64 zo) (.int .i64 zp) (.int .i64 zi)
  have FC:=FC.trans FS
  refine hK _ _ FC ?_
  clear hK K
  try simp only [Act.put,qu,qv,qx]
  generalize (((WC.setCell ⟨w.heap.size,0,none⟩ (.int .i64 zt)).setCell ⟨w.heap.size,1,none⟩ (.int .i64 zo)).setCell ⟨w.heap.size,2,none⟩ (.int .i64 zp)).setCell ⟨w.heap.size,3,none⟩ (.int .i64 zi)=V2 at *
  iterate 2 (refine mix_take1 (v:=?_) rfl rfl rfl rfl (fun w hS=>?_) ?_;rotate_left;(focus (clear hS;go_simp;rfl));simp only [qu,qv,qx])
  refine mix_end ?_
  have hDn:D≠w.heap.size:=by omega
  have hD2:=FC.keep HD.out (by simpa using hDn)
  have FQ:=((HF4.out.step HI3.out (fun i hi=>by simp at hi;exact .inr (by omega))).step FC (fun i hi=>by simp at hi;exact .inr (by omega))).step (fr_put V2 D (.deferred none)) (fun i hi=>by simp at hi;exact .inr (by omega))
  have HQ2:=qj ((World.putObj_heap_other (o:=.deferred none) (fun e=>hDn e.symm)).trans Q0)
  have HD2:=qj hD2;have HFQ:=qj FQ
  clear r0 r1 r2 r3 g0 g1 g2 g3 c0 l0 l1 l2 l3 FS FC Q0 hD2 FQ N0
  go_wp2_with fail
  refine ⟨by simp,.inl ⟨_,_,rfl,run_takeDeferred HD2.out,?_⟩⟩
  have k0:=qd HQ2.out 0;have k1:=qd HQ2.out 1;have k2:=qd HQ2.out 2;have k3:=qd HQ2.out 3
  generalize V2.putObj D (.deferred none)=V3 at *
  refine ⟨.tuple #[lnVv ⟨zt,zo,zp,zi⟩,.int .i64 ls.length,.int .i64 0],by simp [results,Tryz.results154,go_sem,k0,k1,k2,k3];try rfl,?_⟩
  exact ⟨by rw [HZ.out],HFQ.out⟩
 case stop =>
  rintro D c pre W _ _ h _
  exact h.elim
end
end Go.Proofs.YtledkokhghjfmaaGreatDoor
