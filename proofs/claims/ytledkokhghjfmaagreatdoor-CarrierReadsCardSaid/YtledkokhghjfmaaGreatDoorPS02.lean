/-
  append, whatever the source: nil, empty, or elements that can be read.
-/
import Derived.Test.YtledkokhghjfmaaGreatDoorPS01
import Derived.Laws.OwnMore
import Derived.Maps.AppendAt
import Derived.OrdersHeld
import Derived.RegionTactic
import Derived.Deep.RegionHeld3
import Derived.WalkKit
namespace Go.Proofs.YtledkokhghjfmaaGreatDoor
section
open Go.RowKit Go.Lib
structure SrcAt (w:World) (sv:Value) (m:Nat) (news:List Value):Prop where
 form:(sv=.slice none 0 0∧m=0∧news=[])∨∃ ad c,sv=.slice (some ad) m c∧∀ j u,news[j]?=some u→w.cell? (ad.add j)=some u
theorem wp_append_src {P:Program} {w:World} {o:Oper} {a:Act} {K:Act→World→Prop} {Q:Exit→Act→World→Prop} (s x:Operand) (t e:TypeId) (z:Value) (size bytes:Nat)
  (ho:o.op=.call { callee:=.builtin .append,args:=#[s,x],argTypes:=#[t,t] }) (ht:P.underlying t=some (.slice e)) (hinfo:(P.info? e).map (fun i=>(i.zero,i.size,i.bytes))=some (some z,size,bytes)) (hzs:z.cells.size=size) (hsz:0 < size)
  (v:Value) (n:Nat) (xs:List Value) (hs:a.eval s=v) (hown:w.ownsRow 0 e size v n xs)
  (sv:Value) (m:Nat) (news:List Value) (hx:a.eval x=sv) (hsrc:SrcAt w sv m news) (hl:news.length=m*size) (h1:∀ u,u∈news→u.oneCell'=true)
  (h63:n+m≤9223372036854775807) (hbytes:(n+m)*bytes≤140737488355328)
  (h:∀ ga cap w',w'.ownsRow 0 e size (.slice ga (n+m) cap) (n+m) (xs++news)→Fr v.ownBlock.toList w w'→((Value.slice ga (n+m) cap).ownBlock=v.ownBlock∨(Value.slice ga (n+m) cap).ownBlock=some w.heap.size)→K (a.put o.dst (.slice ga (n+m) cap)) w'):o.wp P a w K Q:=by
 obtain ⟨i,hi,hz0,hz1,hz2⟩:=info_parts hinfo
 have key:∃ ga cap w',(Builtin.append_ #[t,t] o.type #[v,sv]).run P w=.ok (.slice ga (n+m) cap) w'∧w'.ownsRow 0 e size (.slice ga (n+m) cap) (n+m) (xs++news)∧Fr v.ownBlock.toList w w'∧((Value.slice ga (n+m) cap).ownBlock=v.ownBlock∨(Value.slice ga (n+m) cap).ownBlock=some w.heap.size):=by
  rcases hsrc.form with ⟨rfl,rfl,rfl⟩ | ⟨ad,c,rfl,hc⟩
  ·have hrun:=run_append_owned_none (P:=P) (w:=w) 0 t o.type e i size ht hi v n xs hown
   obtain ⟨ga,cap,rfl⟩:∃ ga cap,v=.slice ga n cap:=by
    rcases hown.2 with ⟨rfl,rfl⟩ | ⟨g,cap,_,rfl,_⟩
    ·exact ⟨_,_,rfl⟩
    ·exact ⟨_,_,rfl⟩
   exact ⟨ga,cap,w,hrun,by simpa using hown,Fr.refl _ _,.inl rfl⟩
  ·obtain ⟨v',w',hr,h2,h3,_,h5⟩:=run_append_own_at (P:=P) w 0 t o.type e i z size bytes ht hi hz0 hz1 hz2 hzs hsz v n xs hown ad m c news hl hc h1 h63 hbytes (Nat.zero_le _)
   obtain ⟨ga,cap,rfl⟩:∃ ga cap,v'=.slice ga (n+m) cap:=by
    rcases h2.2 with ⟨rfl,h0⟩ | ⟨g,cap,_,rfl,_⟩
    ·exact ⟨none,0,by rw [h0]⟩
    ·exact ⟨_,_,rfl⟩
   exact ⟨ga,cap,w',hr,h2,Fr.grown h3 fun k hk=>by simp [hk],h5⟩
 obtain ⟨ga,cap,w',hr,h2,h3,h4⟩:=key
 unfold Oper.wp execOp
 simp only [ho,resolve,invoke,builtin,Sem.run_bind,Sem.run_pure,Result.andThen_ok,List.map_toArray,List.map_cons,List.map_nil,hs,hx,hr]
 exact h ga cap w' h2 h3 h4
end
section
section
variable {P:Program} {ops:Array Oper} {Q:Exit→Act→World→Prop} {S:World→Prop}
def effB (o:Oper):Bool:=match o.op with
 | .move _ | .assign _ | .pick .. | .nilCheck _ | .binOp .. | .unOp .. | .fieldAddr .. | .field .. | .indexAddr .. | .index .. | .extract .. | .slice .. | .load .. | .build .. | .makeInterface ..=>false
 | .call { callee:=.builtin b,.. }=>match b with | .len | .cap | .min | .max=>false | _=>true
 | _=>true
def permB (ops:Array Oper):List Nat→Array Bool→Bool
 | [],listed=>(Region.ready .any ops listed).isEmpty
 | i :: rest,listed=>(match ops[i]? with
   | none=>false
   | some o=>if effB o then Region.ready .any ops listed == [i] else Region.free .any ops listed i && (Region.ready .any ops listed).contains i) && permB ops rest (listed.setIfInBounds i true)
def wpMix (P:Program) (ops:Array Oper) (Q:Exit→Act→World→Prop) (S:World→Prop):List Nat→Act→World→Prop
 | [],a,w=>Q .normal a w
 | i :: rest,a,w=>match ops[i]? with
  | none=>False
  | some o=>if effB o then wpOp P ops Q i (fun a' w'=>S w'∧wpMix P ops Q S rest a' w') a w else ∃ v,YieldsIf P ops S o v a∧wpMix P ops Q S rest (a.put o.dst v) w
theorem wpAnyH_of_mix (hs:Region.noSelect ops=true) (hQ:∀ (d:Option Tmp) (v:Value) c a w,Q (.panic c) (a.put d v) w→Q (.panic c) a w) :
  ∀ (perm:List Nat) (listed:Array Bool) (a:Act) (w:World),permB ops perm listed=true→S w→wpMix P ops Q S perm a w→wpAnyH P .any ops Q S perm.length listed a w
 | [],listed,a,w,hp,_,h=>by
  simp only [permB,List.isEmpty_iff] at hp
  exact wpAnyH_done hp h 0
 | i :: rest,listed,a,w,hp,hS,h=>by
  simp only [permB,Bool.and_eq_true] at hp
  obtain ⟨h1,h2⟩:=hp
  cases ho:ops[i]? with
  | none=>simp [ho] at h1
  | some o =>
   simp only [ho] at h1
   simp only [wpMix,ho] at h
   cases he:effB o with
   | true =>
    simp only [he,if_true,beq_iff_eq] at h1
    simp only [he,if_true] at h
    refine wpAnyH_all h1 (by simp) fun j hj=>?_
    simp only [List.mem_singleton] at hj
    subst hj
    exact wpOp_mono (fun a' w' hh=>⟨hh.1,wpAnyH_of_mix hs hQ rest _ a' w' h2 hh.1 hh.2⟩) h
   | false =>
    simp only [he,Bool.false_eq_true,if_false,Bool.and_eq_true] at h1 h
    obtain ⟨v,hy,h3⟩:=h
    exact wpAnyH_take ho hs h1.1 h1.2 (hQ o.dst v) hy hS (wpAnyH_of_mix hs hQ rest _ _ w h2 hS h3)
theorem reg_mix {id:Nat} {a:Act} {w:World} {l:List Oper} (S:World→Prop) (perm:List Nat) (hm:P.follows .mixedOrders=true) (hs:Region.noSelect l.toArray=true) (hp:permB l.toArray perm (Array.replicate l.toArray.size false)=true) (hl:perm.length=l.toArray.size) (hS:S w.drew)
  (h:wpMix P l.toArray (NoPanic Q) S perm a w.drew):(Code.region id l.toArray true).wp P Q a w:=by
 have h2:=wpAnyH_of_mix hs (fun _ _ _ _ _ h=>h) perm _ a _ hp hS h
 rw [hl] at h2
 exact wp_region_noPanic (wp_region_held (S:=S) hm h2)
theorem mix_take {i:Nat} {rest:List Nat} {a:Act} {w:World} {o:Oper} {v:Value} (ho:ops[i]?=some o) (he:effB o=false) (hy:YieldsIf P ops S o v a) (h:wpMix P ops Q S rest (a.put o.dst v) w):wpMix P ops Q S (i :: rest) a w:=by
 simp only [wpMix,ho,he,Bool.false_eq_true,if_false]
 exact ⟨v,hy,h⟩
theorem mix_do {i:Nat} {rest:List Nat} {a:Act} {w:World} {o:Oper} (ho:ops[i]?=some o) (he:effB o=true) (hw:Region.wanted o (yielded ops a.tmps)=true)
  (h:∀ K:Act→World→Prop,(∀ a' w',S w'→wpMix P ops Q S rest a' w'→K a' w')→o.wp P a w K Q):wpMix P ops Q S (i :: rest) a w:=by
 simp only [wpMix,ho,he,if_true]
 unfold wpOp
 simp only [ho,hw,if_true]
 exact .inl (h _ fun a' w' h1 h2=>⟨h1,h2⟩)
theorem mix_skip {i:Nat} {rest:List Nat} {a:Act} {w:World} {o:Oper} (ho:ops[i]?=some o) (hw:Region.wanted o (yielded ops a.tmps)=false) (hS:S w) (h:wpMix P ops Q S rest (a.put o.dst undef) w):wpMix P ops Q S (i :: rest) a w:=by
 cases he:effB o with
 | true =>
  simp only [wpMix,ho,he,if_true]
  unfold wpOp
  simp only [ho,hw,Bool.false_eq_true,if_false]
  exact ⟨hS,h⟩
 | false=>exact mix_take ho he (.inr ⟨hw,rfl⟩) h
theorem wanted_of {a:Act} {o:Oper} {j t:Nat} {want b:Bool} (hg:o.guard=some (j,want)) (hd:(ops[j]?).bind (·.dst)=some t) (ht:a.tmps[t]?=some (.bool b)):Region.wanted o (yielded ops a.tmps)=(b == want):=by
 simp only [Region.wanted,hg,yielded,hd,Option.bind_some,ht]
 rfl
theorem put_some {a:Act} {o:Oper} {d:Tmp} (h:o.dst=some d) (v:Value):a.put o.dst v={ a with tmps:=a.tmps.setIfInBounds d v }:=by rw [h];rfl
theorem mix_take1 {i:Nat} {d:Tmp} {rest:List Nat} {a:Act} {w:World} {o:Oper} {v:Value} (ho:ops[i]?=some o) (hod:o.dst=some d) (he:effB o=false) (hg:o.guard=none)
  (hy:∀ w,S w→(execOp a.eval o).run P w=.ok (.value v) w) (h:wpMix P ops Q S rest { a with tmps:=a.tmps.setIfInBounds d v } w):wpMix P ops Q S (i :: rest) a w :=
 mix_take ho he (.inl ⟨by simp [Region.wanted,hg],hy⟩) (by rw [put_some hod];exact h)
theorem mix_takeg {i j t:Nat} {want:Bool} {d:Tmp} {rest:List Nat} {a:Act} {w:World} {o:Oper} {v:Value} (ho:ops[i]?=some o) (hod:o.dst=some d) (he:effB o=false) (hg:o.guard=some (j,want)) (hd:(ops[j]?).bind (·.dst)=some t) (ht:a.tmps[t]?=some (.bool want))
  (hy:∀ w,S w→(execOp a.eval o).run P w=.ok (.value v) w) (h:wpMix P ops Q S rest { a with tmps:=a.tmps.setIfInBounds d v } w):wpMix P ops Q S (i :: rest) a w :=
 mix_take ho he (.inl ⟨by rw [wanted_of hg hd ht];simp,hy⟩) (by rw [put_some hod];exact h)
theorem mix_dog {i j t:Nat} {want:Bool} {rest:List Nat} {a:Act} {w:World} {o:Oper} (ho:ops[i]?=some o) (he:effB o=true) (hg:o.guard=some (j,want)) (hd:(ops[j]?).bind (·.dst)=some t) (ht:a.tmps[t]?=some (.bool want))
  (h:∀ K:Act→World→Prop,(∀ a' w',S w'→wpMix P ops Q S rest a' w'→K a' w')→o.wp P a w K Q):wpMix P ops Q S (i :: rest) a w :=
 mix_do ho he (by rw [wanted_of hg hd ht];simp) h
theorem mix_skipg {i j t:Nat} {want:Bool} {rest:List Nat} {a:Act} {w:World} {o:Oper} (ho:ops[i]?=some o) (hg:o.guard=some (j,want)) (hd:(ops[j]?).bind (·.dst)=some t) (ht:a.tmps[t]?=some (.bool (!want))) (hS:S w) (h:wpMix P ops Q S rest (a.put o.dst undef) w):wpMix P ops Q S (i :: rest) a w :=
 mix_skip ho (by rw [wanted_of hg hd ht];cases want <;> rfl) hS h
theorem mix_skipT {i j t:Nat} {d:Tmp} {rest:List Nat} {a:Act} {w:World} {o:Oper} (ho:ops[i]?=some o) (hod:o.dst=some d) (hg:o.guard=some (j,true)) (hd:(ops[j]?).bind (·.dst)=some t) (ht:a.tmps[t]?=some (.bool false)) (hS:S w) (h:wpMix P ops Q S rest { a with tmps:=a.tmps.setIfInBounds d undef } w):wpMix P ops Q S (i :: rest) a w:=mix_skipg ho hg hd ht hS (by rw [put_some hod];exact h)
theorem mix_end {a:Act} {w:World} (h:Q .normal a w):wpMix P ops (NoPanic Q) S [] a w:=h
end
end
section
theorem Fr.cel {fp:List Nat} {w W:World} {b i:Nat} {v:Value} (h:Fr fp w W) (hc:w.cell? ⟨b,i,none⟩=some v) (hn:b∉fp):W.cell? ⟨b,i,none⟩=some v :=
 (World.cell?_of_block (h.block b (World.block_lt_of_cell? w _ hc) hn)).trans hc
section
variable {P:Program} {ops:Array Oper} {Q:Exit→Act→World→Prop} {S:World→Prop}
end
end
section
structure Cl where
 pub:Int
 f:Int
 t:Int
 needs:List Int
 bars:List Int
 gives:Int
structure Rp where
 cl:Int
 pub:Int
 frm:Int
structure Fa where
 thing:Int
 says:Int
 f:Int
 t:Int
 kf:Int
 kt:Int
structure Rb where
 cls:List Cl
 rps:List Rp
 fas:List Fa
structure Qn where
 thing:Int
 says:Int
 at_:Int
 known:Int
structure Fd where
 says:Int
 holds:Bool
 fact:Int
 cl:Int
deriving DecidableEq
instance:Inhabited Cl:=⟨⟨0,0,0,[],[],0⟩⟩
instance:Inhabited Rp:=⟨⟨0,0,0⟩⟩
instance:Inhabited Fa:=⟨⟨0,0,0,0,0,0⟩⟩
instance:Inhabited Fd:=⟨⟨0,false,0,0⟩⟩
def isInB (n low high:Int):Bool:=decide (low≤n) && decide (n≤high)
def secB (n:Int):Bool:=isInB n 0 10000000
def spellB (f t:Int):Bool:=secB f && isInB t (f+1) 10000001
def hasB (f t s:Int):Bool:=isInB s f (t - 1)
def ascGo (below:Int):Int→List Int→Bool
 | _,[]=>true
 | last,n :: l=>isInB n (last+1) (below - 1) && ascGo below n l
def ascB (l:List Int) (below:Int):Bool:=decide (l.length≤4) && ascGo below (-1) l
def clB (x:Cl):Bool:=secB x.pub && spellB x.f x.t && isInB x.gives 0 19 && ascB x.needs x.gives && ascB x.bars x.gives
def rpB (n:Nat) (x:Rp):Bool:=isInB x.cl 0 (n - 1) && secB x.pub && secB x.frm
def faB (x:Fa):Bool:=isInB x.thing 0 99999999 && isInB x.says 0 19 && spellB x.f x.t && spellB x.kf x.kt
def validB (c:Rb):Bool:=decide (c.cls.length≤20) && decide (c.rps.length≤10) && decide (c.fas.length≤20) && c.cls.all clB && c.rps.all (rpB c.cls.length) && c.fas.all faB
def asksB (q:Qn):Bool:=isInB q.thing 0 99999999 && isInB q.says 0 19 && secB q.at_ && secB q.known
def statesB (x:Fa) (q:Qn):Bool:=decide (x.thing=q.thing) && hasB x.f x.t q.at_ && hasB x.kf x.kt q.known
def repB (i:Int) (q:Qn) (r:Rp):Bool:=decide (r.cl=i) && decide (r.pub≤q.known) && decide (r.frm≤q.at_)
def rulesB (c:Rb) (q:Qn) (i:Nat):Bool :=
 let x:=c.cls.getD i default
 decide (x.pub≤q.known) && hasB x.f x.t q.at_ && !c.rps.any (repB i q)
def pickN (p:Nat→Bool) (n:Nat):List Int:=((List.range n).filter p).map fun (i:Nat)=>(i:Int)
def factsOf (c:Rb) (q:Qn):List Int:=pickN (fun i=>statesB (c.fas.getD i default) q) c.fas.length
def clausesOf (c:Rb) (q:Qn):List Int:=pickN (rulesB c q) c.cls.length
def Rb.fa (c:Rb) (i:Int):Fa:=c.fas.getD i.toNat default
def Rb.cl (c:Rb) (i:Int):Cl:=c.cls.getD i.toNat default
def givesB (c:Rb) (so:Int→Bool) (n:Int) (i:Int):Bool:=decide ((c.cl i).gives=n) && (c.cl i).needs.all so && !(c.cl i).bars.any so
def findW (c:Rb) (fs cs:List Int) (so:Int→Bool) (n:Int):Fd :=
 match fs.find? (fun i=>decide ((c.fa i).says=n)) with
 | some i=>⟨n,true,i,-1⟩
 | none=>match cs.find? (givesB c so n) with
  | some i=>⟨n,true,-1,i⟩
  | none=>⟨n,false,-1,-1⟩
def fdTo (c:Rb) (fs cs:List Int):Nat→List Fd
 | 0=>[]
 | k+1=>fdTo c fs cs k++[findW c fs cs (fun i=>((fdTo c fs cs k).getD i.toNat default).holds) k]
def fdOf (c:Rb) (fs cs:List Int) (n:Int):Fd:=(fdTo c fs cs (n.toNat+1)).getD n.toNat default
def soB (c:Rb) (fs cs:List Int) (n:Int):Bool:=(fdOf c fs cs n).holds
def findsB (l:List Fd) (n:Int) (h:Bool):Bool:=l.any fun y=>decide (y.says=n) && y.holds == h
def barredB (c:Rb) (l:List Fd) (i:Int):Bool:=(c.cl i).needs.any (fun n=>findsB l n false) || (c.cl i).bars.any (fun n=>findsB l n true)
def rightB (c:Rb) (fs cs:List Int) (x:Fd) (l:List Fd):Bool :=
 if x.holds && decide (x.cl=-1) then fs.contains x.fact && decide ((c.fa x.fact).says=x.says)
 else if x.holds then
  decide (x.fact=-1) && cs.contains x.cl && decide ((c.cl x.cl).gives=x.says) && (c.cl x.cl).needs.all (fun n=>findsB l n true) && (c.cl x.cl).bars.all (fun n=>findsB l n false)
 else decide (x.fact=-1) && decide (x.cl=-1) && !fs.any (fun i=>decide ((c.fa i).says=x.says)) && !cs.any (fun i=>decide ((c.cl i).gives=x.says) && !barredB c l i)
def provesGo (c:Rb) (fs cs:List Int) (l:List Fd):Int→List Fd→Bool
 | _,[]=>true
 | last,x :: r=>isInB x.says (last+1) 19 && rightB c fs cs x l && provesGo c fs cs l x.says r
def lastOf (l:List Fd):Int:=(l.getLast?.map (·.says)).getD (-1)
def provesB (c:Rb) (fs cs:List Int) (n:Int) (h:Bool) (l:List Fd):Bool :=
 provesGo c fs cs l (-1) l && decide (l≠[]) && decide (lastOf l=n) && ((l.getLast?.map (·.holds)).getD false == h)
def prune (c:Rb) (fs cs:List Int) (n:Int) (h:Bool):Nat→List Fd→List Fd
 | 0,l=>l
 | k+1,l=>prune c fs cs n h k (if provesB c fs cs n h (l.eraseIdx k) then l.eraseIdx k else l)
def decideL (c:Rb) (q:Qn):List Fd :=
 let fs:=factsOf c q
 let cs:=clausesOf c q
 prune c fs cs q.says (soB c fs cs q.says) q.says.toNat (fdTo c fs cs (q.says.toNat+1))
def decideA (c:Rb) (q:Qn):Bool:=soB c (factsOf c q) (clausesOf c q) q.says
def okB (c:Rb) (q:Qn):Bool:=validB c && asksB q
def checkB (c:Rb) (q:Qn) (h:Bool) (l:List Fd):Bool:=okB c q && provesB c (factsOf c q) (clausesOf c q) q.says h l
def insI:List Int→Int→List Int
 | [],x=>[x]
 | y :: l,x=>if x < y then x :: y :: l else if x=y then y :: l else y :: insI l x
def useF (l:List Fd):List Int:=l.foldl (fun a x=>if 0≤x.fact then insI a x.fact else a) []
def useC (c:Rb) (cs:List Int) (l:List Fd):List Int:=l.foldl (fun a x=>if 0≤x.fact then a else if 0≤x.cl then insI a x.cl else cs.foldl (fun a i=>if (c.cl i).gives=x.says then insI a i else a) a) []
def usesB (c:Rb) (q:Qn) (l:List Fd):Bool:=checkB c q true l || checkB c q false l
end
section
section
variable {c:Rb} {fs cs:List Int}
structure Good (c:Rb) (fs cs:List Int):Prop where
 terms:∀ i,i∈cs→∀ m,m∈(c.cl i).needs∨m∈(c.cl i).bars→0≤m∧m < (c.cl i).gives
 fnn:∀ i,i∈fs→0≤i
 cnn:∀ i,i∈cs→0≤i
end
end
section
section
variable {c:Rb} {fs cs:List Int}
end
end
section
open Go.RowKit Go.Lib
def Sl (w:World) (v:Value) (n:Nat) (cs:List Value):Prop :=
 ∃ a cap,v=.slice a n cap∧n≤cap∧cap≤9223372036854775807∧(0 < n→∃ b off,a=some ⟨b,off,none⟩∧∀ j u,cs[j]?=some u→w.cell? ⟨b,off+j,none⟩=some u)
theorem Sl.fr {w w':World} {v:Value} {n:Nat} {cs:List Value} {S:List Nat} (h:Sl w v n cs) (hf:Fr S w w') (hn:∀ g,v.ownBlock=some g→g∉S):Sl w' v n cs:=by
 obtain ⟨a,cap,rfl,h1,h2,h3⟩:=h
 refine ⟨a,cap,rfl,h1,h2,fun h0=>?_⟩
 obtain ⟨b,off,rfl,hc⟩:=h3 h0
 refine ⟨b,off,rfl,fun j u hu=>?_⟩
 have:=hc j u hu
 exact (World.cell?_of_block (hf.block b (World.block_lt_of_cell? w _ this) (hn b rfl))).trans this
theorem Sl.same {w w':World} {v:Value} {n:Nat} {cs:List Value} (h:Sl w v n cs) (hf:Fr [] w w'):Sl w' v n cs:=h.fr hf (by simp)
theorem Sl.nil (w:World):Sl w (.slice none 0 0) 0 []:=⟨none,0,rfl,by omega,by omega,by omega⟩
theorem Sl.len {w:World} {v:Value} {n:Nat} {cs:List Value} (h:Sl w v n cs):n≤9223372036854775807:=by
 obtain ⟨a,cap,rfl,h1,h2,_⟩:=h
 omega
theorem Sl.val {w:World} {v:Value} {n:Nat} {cs:List Value} (h:Sl w v n cs):∃ a cap,v=.slice a n cap:=by
 obtain ⟨a,cap,rfl,_⟩:=h
 exact ⟨a,cap,rfl⟩
theorem Sl.at_ {w:World} {a:Option Addr} {cap n:Nat} {cs:List Value} (h:Sl w (.slice a n cap) n cs) (h0:0 < n):∃ b off,a=some ⟨b,off,none⟩∧∀ j u,cs[j]?=some u→w.cell? ⟨b,off+j,none⟩=some u:=by
 obtain ⟨a',cap',hv,h1,h2,h3⟩:=h
 cases hv
 exact h3 h0
theorem sl_of_row {w:World} {e:TypeId} {size:Nat} {v:Value} {n:Nat} {xs:List Value} (h:w.ownsRow 0 e size v n xs):Sl w v n xs:=by
 rcases h.2 with ⟨rfl,rfl⟩ | ⟨g,cap,cur,rfl,_,hg,r1,r2,r3,r4⟩
 ·exact ⟨none,0,rfl,by omega,by omega,by omega⟩
 ·refine ⟨_,cap,rfl,r1,r2,fun _=>⟨g,0,rfl,fun j u hu=>?_⟩⟩
  have hj:j < xs.length:=(List.getElem?_eq_some_iff.1 hu).1
  have hl:=h.1
  rw [Nat.zero_add,qd hg]
  rw [← r4,List.getElem?_take_of_lt (by omega),Array.getElem?_toList] at hu
  exact hu
theorem flat_get {α:Type} {enc:α→List Value} {k:Nat} (hk:∀ x,(enc x).length=k):∀ (l:List α) (i:Nat) (h:i < l.length) (j:Nat),j < k→(l.flatMap enc)[i*k+j]?=(enc l[i])[j]?
 | [],i,h,_,_=>by simp at h
 | x :: l,0,_,j,hj=>by
  simp only [List.flatMap_cons,Nat.zero_mul,Nat.zero_add,List.getElem_cons_zero]
  rw [List.getElem?_append_left (by rw [hk];exact hj)]
 | x :: l,i+1,h,j,hj=>by
  have hi:i < l.length:=by simpa using h
  rw [List.flatMap_cons,List.getElem?_append_right (by rw [hk,Nat.succ_mul];omega),hk,show (i+1)*k+j - k=i*k+j by rw [Nat.succ_mul];omega,flat_get hk l i hi j hj]
  simp
theorem flat_len {α:Type} {enc:α→List Value} {k:Nat} (hk:∀ x,(enc x).length=k) (l:List α):(l.flatMap enc).length=l.length*k:=by
 induction l with
 | nil=>simp
 | cons x l ih=>rw [List.flatMap_cons,List.length_append,hk,ih,List.length_cons,Nat.succ_mul];omega
abbrev intC (l:List Int):List Value:=l.map (Value.int .i64)
def rpC (x:Rp):List Value:=[.int .i64 x.cl,.int .i64 x.pub,.int .i64 x.frm]
def faC (x:Fa):List Value:=[.int .i64 x.thing,.int .i64 x.says,.int .i64 x.f,.int .i64 x.t,.int .i64 x.kf,.int .i64 x.kt]
def fdC (x:Fd):List Value:=[.int .i64 x.says,.bool x.holds,.int .i64 x.fact,.int .i64 x.cl]
structure ClV where
 x:Cl
 vn:Value
 vb:Value
instance:Inhabited ClV:=⟨⟨default,.slice none 0 0,.slice none 0 0⟩⟩
def clC (y:ClV):List Value:=[.int .i64 y.x.pub,.int .i64 y.x.f,.int .i64 y.x.t,y.vn,y.vb,.int .i64 y.x.gives]
abbrev I64 (x:Int):Prop:=-9223372036854775808≤x∧x≤9223372036854775807
abbrev IntsAt (w:World) (v:Value) (l:List Int):Prop:=Sl w v l.length (intC l)
structure ClOk (x:Cl):Prop where
 pub:I64 x.pub
 f:I64 x.f
 t:I64 x.t
 gives:I64 x.gives
 needs:∀ m,m∈x.needs→I64 m
 bars:∀ m,m∈x.bars→I64 m
structure RpOk (x:Rp):Prop where
 cl:I64 x.cl
 pub:I64 x.pub
 frm:I64 x.frm
structure FaOk (x:Fa):Prop where
 thing:I64 x.thing
 says:I64 x.says
 f:I64 x.f
 t:I64 x.t
 kf:I64 x.kf
 kt:I64 x.kt
structure FdOk (x:Fd):Prop where
 says:I64 x.says
 fact:I64 x.fact
 cl:I64 x.cl
structure QnOk (q:Qn):Prop where
 thing:I64 q.thing
 says:I64 q.says
 at_:I64 q.at_
 known:I64 q.known
structure RbOk (c:Rb):Prop where
 cls:∀ x,x∈c.cls→ClOk x
 rps:∀ x,x∈c.rps→RpOk x
 fas:∀ x,x∈c.fas→FaOk x
structure ClsAt (w:World) (v:Value) (ys:List ClV):Prop where
 sl:Sl w v ys.length (ys.flatMap clC)
 needs:∀ y,y∈ys→IntsAt w y.vn y.x.needs
 bars:∀ y,y∈ys→IntsAt w y.vb y.x.bars
structure RbAt (w:World) (vc vr vf:Value) (ys:List ClV) (c:Rb):Prop where
 eq:c.cls=ys.map (·.x)
 cls:ClsAt w vc ys
 rps:Sl w vr c.rps.length (c.rps.flatMap rpC)
 fas:Sl w vf c.fas.length (c.fas.flatMap faC)
 ok:RbOk c
abbrev rbV (vc vr vf:Value):Value:=.agg #[vc,vr,vf]
abbrev qnV (q:Qn):Value:=.agg #[.int .i64 q.thing,.int .i64 q.says,.int .i64 q.at_,.int .i64 q.known]
abbrev faV (x:Fa):Value:=.agg #[.int .i64 x.thing,.int .i64 x.says,.int .i64 x.f,.int .i64 x.t,.int .i64 x.kf,.int .i64 x.kt]
abbrev rpV (x:Rp):Value:=.agg #[.int .i64 x.cl,.int .i64 x.pub,.int .i64 x.frm]
abbrev clV (y:ClV):Value:=.agg #[.int .i64 y.x.pub,.int .i64 y.x.f,.int .i64 y.x.t,y.vn,y.vb,.int .i64 y.x.gives]
abbrev fdV (x:Fd):Value:=.agg #[.int .i64 x.says,.bool x.holds,.int .i64 x.fact,.int .i64 x.cl]
end
end Go.Proofs.YtledkokhghjfmaaGreatDoor
