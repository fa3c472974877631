/-
  General facts on worlds: a frame by a list of blocks that may have changed ('Fr'), blocks of bytes, and small laws. No program in sight.
-/
import Derived.WalkKit
import Derived.WalkSpells
import Derived.WalkLawsBesides
import Derived.Lib.Hide
import Derived.Lib.BufferWrite
import Derived.Deep.AppendLies
import Derived.Laws.CopyOwn
import Derived.Maps.RangeRun
import Derived.Maps.Keyed
import Derived.Lib.SliceRun
import Derived.Deep.OwnRows
namespace Go.Proofs.YtledkokhghjfmaaGreatDoor
theorem qu {α : Type} {l : List α} {i : Nat} {a : α} : l.toArray.setIfInBounds i a = (l.set i a).toArray := List.setIfInBounds_toArray ..
theorem qv {α : Type} {x a : α} {n : Nat} {xs : List α} : (x :: xs).set (n + 1) a = x :: xs.set n a := List.set_cons_succ
theorem qx {α : Type} {x a : α} {xs : List α} : (x :: xs).set 0 a = a :: xs := List.set_cons_zero
theorem qj {p : Prop} (h : p) : Go.RowKit.Hid p := h
section
open Go.RowKit Go.Lib
structure Fr (fp:List Nat) (w w':World):Prop where
 os:w'.os=w.os
 tape:w'.tape=w.tape
 output:w'.output=w.output
 size:w.heap.size≤w'.heap.size
 block:∀ k,k < w.heap.size→k∉fp→w'.heap[k]?=w.heap[k]?
structure Upd (fp fp2:List Nat) (w w':World):Prop where
 fr:Fr fp w w'
 sub:∀ k,k∈fp2→k∈fp∨w.heap.size≤k
theorem Fr.refl (fp:List Nat) (w:World):Fr fp w w:=⟨rfl,rfl,rfl,Nat.le_refl _,fun _ _ _=>rfl⟩
theorem Fr.trans {fp:List Nat} {a b c:World} (h:Fr fp a b) (k:Fr fp b c):Fr fp a c :=
 ⟨k.os.trans h.os,k.tape.trans h.tape,k.output.trans h.output,Nat.le_trans h.size k.size,fun i hi hn=>(k.block i (Nat.lt_of_lt_of_le hi h.size) hn).trans (h.block i hi hn)⟩
theorem Fr.step {fp fp2:List Nat} {a b c:World} (h:Fr fp a b) (k:Fr fp2 b c) (hs:∀ i,i∈fp2→i∈fp∨a.heap.size≤i):Fr fp a c :=
 ⟨k.os.trans h.os,k.tape.trans h.tape,k.output.trans h.output,Nat.le_trans h.size k.size,fun i hi hn=>by
  have h2:i∉fp2:=fun hm=>by
   rcases hs i hm with h | h
   ·exact hn h
   ·omega
  exact (k.block i (Nat.lt_of_lt_of_le hi h.size) h2).trans (h.block i hi hn)⟩
theorem Fr.mono {fp fp2:List Nat} {a b:World} (h:Fr fp a b) (hs:∀ i,i∈fp→i∈fp2):Fr fp2 a b :=
 ⟨h.os,h.tape,h.output,h.size,fun i hi hn=>h.block i hi fun hm=>hn (hs i hm)⟩
theorem Fr.alloc (fp:List Nat) (w:World) (o:Obj):Fr fp w (w.alloc o):=⟨rfl,rfl,rfl,by simp,fun _ hk _=>Below.heap_alloc _ _ _ hk⟩
theorem Fr.drew (fp:List Nat) (w:World):Fr fp w w.drew:=⟨rfl,rfl,rfl,Nat.le_refl _,fun _ _ _=>rfl⟩
theorem Fr.setCell {fp:List Nat} (w:World) {p:Addr} (v:Value) (h:p.block∈fp):Fr fp w (w.setCell p v) :=
 ⟨rfl,rfl,rfl,by simp [World.setCell],fun k _ hn=>Below.heap_setCell _ _ _ _ (fun e=>hn (e ▸ h))⟩
theorem Fr.setRow {fp:List Nat} (w:World) {g:Nat} (cs:Array Value) (h:g∈fp):Fr fp w (w.setRow g cs) :=
 ⟨rfl,rfl,rfl,by simp,fun k _ hn=>setRow_other _ _ _ _ (fun e=>hn (e ▸ h))⟩
theorem Fr.grown {fp:List Nat} {w w':World} {row:Option Nat} (hg:w.grownBy w' row) (hr:∀ k,row=some k→k∈fp):Fr fp w w' :=
 ⟨hg.os,hg.tape,hg.output,hg.size,fun k hk hn=>hg.block k hk fun e=>hn (hr k e.symm)⟩
theorem Fr.below {w w':World} (h:Fr [] w w'):Below w.heap.size w w':=⟨h.os,h.tape,h.output,h.size,fun k hk=>h.block k hk (by simp)⟩
theorem Fr.of_below {w w':World} (fp:List Nat) (h:Below w.heap.size w w'):Fr fp w w':=⟨h.os,h.tape,h.output,h.size,fun k hk _=>h.block k hk⟩
theorem Fr.keep {fp:List Nat} {w w':World} (h:Fr fp w w') {k:Nat} {o:Obj} (hk:w.heap[k]?=some o) (hn:k∉fp):w'.heap[k]?=some o :=
 (h.block k (Array.getElem?_eq_some_iff.1 hk).1 hn).trans hk
theorem Upd.refl (fp:List Nat) (w:World):Upd fp fp w w:=⟨Fr.refl _ _,fun _ h=>.inl h⟩
theorem Upd.trans {f1 f2 f3:List Nat} {a b c:World} (h:Upd f1 f2 a b) (k:Upd f2 f3 b c):Upd f1 f3 a c :=
 ⟨h.fr.step k.fr h.sub,fun i hi=>by
  rcases k.sub i hi with h1 | h1
  ·exact h.sub i h1
  ·exact .inr (Nat.le_trans h.fr.size h1)⟩
theorem blk_lt {w:World} {k:Nat} {o:Obj} (h:w.heap[k]?=some o):k < w.heap.size:=(Array.getElem?_eq_some_iff.1 h).1
theorem qm (w:World) (o:Obj):(w.alloc o).heap[w.heap.size]?=some o:=by
 show (w.heap.push o)[w.heap.size]?=_
 simp
theorem heap_alloc_old {w:World} {k:Nat} {x:Obj} (o:Obj) (h:w.heap[k]?=some x):(w.alloc o).heap[k]?=some x:=(Below.heap_alloc _ _ _ (blk_lt h)).trans h
theorem heap_setCell_other {w:World} {k:Nat} {x:Obj} {p:Addr} (v:Value) (h:w.heap[k]?=some x) (hn:k≠p.block):(w.setCell p v).heap[k]?=some x:=(Below.heap_setCell _ _ _ _ hn).trans h
theorem qs {w:World} {b i:Nat} {c:Array Value} {e:TypeId} {f:Nat × Nat} (v:Value) (h:w.heap[b]?=some (.cells c e f)):(w.setCell ⟨b,i,none⟩ v).heap[b]?=some (.cells (c.setIfInBounds i v) e f):=by
 simp [World.setCell,Array.getElem?_modify,h]
theorem qd {w:World} {b:Nat} {c:Array Value} {e:TypeId} {f:Nat × Nat} (h:w.heap[b]?=some (.cells c e f)) (i:Nat):w.cell? ⟨b,i,none⟩=c[i]?:=by
 simp [World.cell?,h]
theorem ql {w:World} {b:Nat} {c:Array Value} {e:TypeId} (h:w.heap[b]?=some (.cells c e (0,0))) (i:Nat):w.frozen? ⟨b,i,none⟩=false:=by
 simp [World.frozen?,h]
def BytesAt (w:World) (b:Nat) (e:TypeId) (l:List UInt8):Prop:=w.heap[b]?=some (.cells (byteCells l).toArray e (0,0))
def paste (l:List UInt8) (o:Nat) (s:List UInt8):List UInt8:=l.take o++s++l.drop (o+s.length)
theorem paste_length (l:List UInt8) (o:Nat) (s:List UInt8) (h:o+s.length≤l.length):(paste l o s).length=l.length:=by
 simp [paste];omega
theorem ret0 {P:Program} {fn:Func} {R:Ending→World→Prop} {a:Act} {w:World} (h:fn.results=#[]) (hd:a.defers=[]) (hR:R (.returned (.tuple #[])) w):bodyPost P fn R .ret a w :=
 bodyPost_ret (results_none h _ _ _) hd hR
theorem step_of_wp {P:Program} {ops:Array Oper} {o:Oper} {a:Act} {w:World} {K:Act→World→Prop} {Q:Exit→Act→World→Prop} {E:Prop} (hg:o.guard=none) (h:o.wp P a w K Q) :
  if Region.wanted o (yielded ops a.tmps)=true then Oper.wp P o a w K Q else E:=by
 rw [if_pos (by simp [Region.wanted,hg])];exact h
theorem wpList_of_wp {P:Program} {w:World} {ops:Array Oper} {rest:List Oper} {o:Oper} {a:Act} {Q:Exit→Act→World→Prop} (hgd:o.guard=none)
  (h:∀ K:Act→World→Prop,(∀ a w,wpList P ops Q rest a w→K a w)→o.wp P a w K Q):wpList P ops Q (o :: rest) a w:=wpList_plain hgd h
theorem wp_copy_str {P:Program} {w:World} {o:Oper} {a:Act} {K:Act→World→Prop} {Q:Exit→Act→World→Prop} (d s:Operand) (t t' e:TypeId)
  (ho:o.op=.call { callee:=.builtin .copy,args:=#[d,s],argTypes:=#[t,t'] }) (hu:P.underlying t=some (.slice e)) (hs:(P.info? e).map (·.size)=some 1)
  (g off dLen dCap:Nat) (str:ByteArray) (l:List UInt8) (e':TypeId) (hd:a.eval d=.slice (some ⟨g,off,none⟩) dLen dCap) (hx:a.eval s=.string str)
  (hb:BytesAt w g e' l) (hle:str.size≤dLen) (hfit:off+str.size≤l.length)
  (h:∀ w',Fr [g] w w'→w'.heap.size=w.heap.size→BytesAt w' g e' (paste l off str.data.toList)→K (a.put o.dst (.int .i64 str.size)) w'):o.wp P a w K Q:=by
 have hrun:=run_copy_row_string (P:=P) w t t' o.type e g off dLen dCap str _ e' hu hs hb hle (by simpa [byteCells_length] using hfit)
 unfold Oper.wp execOp
 simp only [ho,resolve,invoke,builtin,Sem.run_bind,Sem.run_pure,Result.andThen_ok,List.map_toArray,List.map_cons,List.map_nil,hd,hx,hrun]
 refine h _ (Fr.setRow _ _ (by simp)) (by simp) ?_
 unfold BytesAt
 rw [setRow_heap _ _ _ _ _ _ hb]
 simp [paste,byteCells]
theorem wp_bytes_str {P:Program} {w:World} {o:Oper} {a:Act} {K:Act→World→Prop} {Q:Exit→Act→World→Prop} (x:Operand) (src dst e:TypeId) (ho:o.op=.convert src dst x)
  (hs:P.underlying src=some (.slice e)) (he:P.underlying e=some (.int .u8)) (hd:P.underlying dst=some .string)
  (g off n cap:Nat) (l:List UInt8) (e':TypeId) (hx:a.eval x=.slice (some ⟨g,off,none⟩) n cap) (hb:BytesAt w g e' l) (hfit:off+n≤l.length)
  (h:K (a.put o.dst (.string ⟨((l.drop off).take n).toArray⟩)) w):o.wp P a w K Q:=by
 have hlen:((l.drop off).take n).length=n:=by simp;omega
 have hrun:=run_convert_bytes_back (P:=P) w src dst e ⟨g,off,none⟩ cap ((l.drop off).take n) hs he hd (fun j hj=>by
  have hj':j < n:=by rw [hlen] at hj;exact hj
  have ha:(⟨g,off,none⟩:Addr).add j=⟨g,off+j,none⟩:=by
   unfold Addr.add;split
   ·rename_i h0;simp only [h0,Nat.add_zero]
   ·rfl
  rw [ha,qd hb]
  have h2:off+j < l.length:=by omega
  simp [byteCells,List.getElem?_map,List.getElem?_eq_getElem h2])
 rw [hlen] at hrun
 unfold Oper.wp execOp
 simp only [ho,Sem.run_bind,Sem.run_pure,Result.andThen_ok,hx,hrun]
 exact h
theorem paste_nil (l:List UInt8) (o:Nat):paste l o []=l:=by simp [paste]
end
section
open Go.RowKit Go.Lib
open Go.ChangeMaps (setBlock)
section
variable {α β:Type} [DecidableEq α]
def getA:List (α × β)→α→Option β
 | [],_=>none
 | p :: l,a=>if p.1=a then some p.2 else getA l a
def setA:List (α × β)→α→β→List (α × β)
 | [],a,v=>[(a,v)]
 | p :: l,a,v=>if p.1=a then (a,v) :: l else p :: setA l a v
def delA (l:List (α × β)) (a:α):List (α × β):=l.filter fun p=>decide (p.1≠a)
theorem getA_none:∀ {l:List (α × β)} {a:α},(∀ p∈l,p.1≠a)→getA l a=none
 | [],_,_=>rfl
 | p :: l,a,h=>by rw [getA,if_neg (h p List.mem_cons_self)];exact getA_none fun q hq=>h q (List.mem_cons_of_mem _ hq)
theorem getA_none_iff {l:List (α × β)} {a:α}:getA l a=none↔a∉l.map Prod.fst:=by
 induction l with
 | nil=>simp [getA]
 | cons p l ih =>
  rw [getA]
  by_cases h:p.1=a
  ·simp [h]
  ·rw [if_neg h,ih];simp [Ne.symm h]
theorem getA_at:∀ {l:List (α × β)} {a:α} {v:β} {j:Nat},(l.map Prod.fst).Nodup→l[j]?=some (a,v)→getA l a=some v
 | [],_,_,_,_,h=>by simp at h
 | p :: l,a,v,0,_,h=>by
  simp only [List.getElem?_cons_zero,Option.some.injEq] at h
  subst h
  simp [getA]
 | p :: l,a,v,j+1,hn,h=>by
  simp only [List.getElem?_cons_succ] at h
  obtain ⟨h1,h2⟩:=List.nodup_cons.1 hn
  have hm:a∈l.map Prod.fst:=List.mem_map.2 ⟨(a,v),List.mem_of_getElem? h,rfl⟩
  rw [getA,if_neg (fun e=>h1 (by rw [e];exact hm))]
  exact getA_at h2 h
theorem setA_none:∀ {l:List (α × β)} {a:α} {v:β},(∀ p∈l,p.1≠a)→setA l a v=l++[(a,v)]
 | [],_,_,_=>rfl
 | p :: l,a,v,h=>by rw [setA,if_neg (h p List.mem_cons_self),setA_none fun q hq=>h q (List.mem_cons_of_mem _ hq)];rfl
theorem setA_at:∀ {l:List (α × β)} {a:α} {u v:β} {j:Nat},(l.map Prod.fst).Nodup→l[j]?=some (a,u)→setA l a v=l.set j (a,v)
 | [],_,_,_,_,_,h=>by simp at h
 | p :: l,a,u,v,0,_,h=>by
  simp only [List.getElem?_cons_zero,Option.some.injEq] at h
  subst h
  simp [setA]
 | p :: l,a,u,v,j+1,hn,h=>by
  simp only [List.getElem?_cons_succ] at h
  obtain ⟨h1,h2⟩:=List.nodup_cons.1 hn
  have hm:a∈l.map Prod.fst:=List.mem_map.2 ⟨(a,u),List.mem_of_getElem? h,rfl⟩
  rw [setA,if_neg (fun e=>h1 (by rw [e];exact hm)),setA_at h2 h]
  rfl
theorem setA_keys (l:List (α × β)) (a:α) (v:β):(setA l a v).map Prod.fst=if a∈l.map Prod.fst then l.map Prod.fst else l.map Prod.fst++[a]:=by
 induction l with
 | nil=>rfl
 | cons p l ih =>
  rw [setA]
  by_cases h:p.1=a
  ·simp [h]
  ·rw [if_neg h,List.map_cons,ih]
   by_cases hm:a∈l.map Prod.fst
   ·rw [if_pos hm,if_pos (by rw [List.map_cons];exact List.mem_cons_of_mem _ hm)];rfl
   ·rw [if_neg hm,if_neg (by simp only [List.map_cons,List.mem_cons,not_or];exact ⟨fun e=>h e.symm,hm⟩)];rfl
theorem setA_nodup {l:List (α × β)} (h:(l.map Prod.fst).Nodup) (a:α) (v:β):((setA l a v).map Prod.fst).Nodup:=by
 rw [setA_keys]
 split
 ·exact h
 ·rename_i hm
  exact List.nodup_append.2 ⟨h,by simp,by intro x hx y hy;simp at hy;subst hy;exact fun e=>hm (e ▸ hx)⟩
theorem getA_setA (l:List (α × β)) (a b:α) (v:β):getA (setA l a v) b=if b=a then some v else getA l b:=by
 induction l with
 | nil =>
  by_cases h:b=a
  ·simp [setA,getA,h]
  ·simp [setA,getA,h,Ne.symm h]
 | cons p l ih =>
  rw [setA]
  by_cases h:p.1=a
  ·rw [if_pos h]
   by_cases h2:b=a
   ·simp [getA,h2]
   ·simp [getA,h2,Ne.symm h2,h]
  ·rw [if_neg h,getA,ih,getA]
   by_cases h2:b=a
   ·subst h2;simp [h]
   ·simp [h2]
theorem delA_nodup {l:List (α × β)} (h:(l.map Prod.fst).Nodup) (a:α):((delA l a).map Prod.fst).Nodup:=h.sublist (List.Sublist.map _ List.filter_sublist)
theorem delA_none {l:List (α × β)} {a:α} (h:∀ p∈l,p.1≠a):delA l a=l:=List.filter_eq_self.2 fun p hp=>by simpa using h p hp
theorem delA_at:∀ {l:List (α × β)} {a:α} {v:β} {j:Nat},(l.map Prod.fst).Nodup→l[j]?=some (a,v)→delA l a=l.eraseIdx j
 | [],_,_,_,_,h=>by simp at h
 | p :: l,a,v,0,hn,h=>by
  simp only [List.getElem?_cons_zero,Option.some.injEq] at h
  subst h
  obtain ⟨h1,_⟩:=List.nodup_cons.1 hn
  have:=delA_none (l:=l) (a:=a) fun q hq e=>h1 (by rw [← e];exact List.mem_map.2 ⟨q,hq,rfl⟩)
  unfold delA at this ⊢
  rw [List.filter_cons_of_neg (by simp),this];rfl
 | p :: l,a,v,j+1,hn,h=>by
  simp only [List.getElem?_cons_succ] at h
  obtain ⟨h1,h2⟩:=List.nodup_cons.1 hn
  have hm:a∈l.map Prod.fst:=List.mem_map.2 ⟨(a,v),List.mem_of_getElem? h,rfl⟩
  have:=delA_at h2 h
  unfold delA at this ⊢
  rw [List.filter_cons_of_pos (by simp;exact fun e=>h1 (by rw [e];exact hm)),this];rfl
def mapV {γ:Type} (f:β→γ) (l:List (α × β)):List (α × γ):=l.map fun p=>(p.1,f p.2)
theorem getA_mapV {γ:Type} (f:β→γ) (l:List (α × β)) (a:α):getA (mapV f l) a=(getA l a).map f:=by
 induction l with
 | nil=>rfl
 | cons p l ih =>
  show (if p.1=a then some (f p.2) else getA (mapV f l) a)=_
  rw [ih,getA]
  split <;> rfl
theorem setA_mapV {γ:Type} (f:β→γ) (l:List (α × β)) (a:α) (v:β):setA (mapV f l) a (f v)=mapV f (setA l a v):=by
 induction l with
 | nil=>rfl
 | cons p l ih =>
  show (if p.1=a then (a,f v) :: mapV f l else (p.1,f p.2) :: setA (mapV f l) a (f v))=_
  rw [ih,setA]
  split <;> rfl
theorem delA_mapV {γ:Type} (f:β→γ) (l:List (α × β)) (a:α):delA (mapV f l) a=mapV f (delA l a):=by
 unfold delA mapV
 rw [List.filter_map];rfl
theorem delA_len {l:List (α × β)} {a:α} {v:β} (h:getA l a=some v):(delA l a).length < l.length:=by
 have hm:a∈l.map Prod.fst:=Classical.byContradiction fun hn=>by rw [getA_none_iff.2 hn] at h;cases h
 obtain ⟨p,hp,rfl⟩:=List.mem_map.1 hm
 unfold delA
 rcases Nat.lt_or_ge (List.filter (fun q=>decide (q.1≠p.1)) l).length l.length with h1 | h1
 ·exact h1
 ·have:=List.length_filter_eq_length_iff.1 (Nat.le_antisymm (List.length_filter_le _ _) h1) p hp
  simp at this
end
theorem map_erase {β γ:Type} (f:β→γ):∀ (l:List β) (j:Nat),(l.eraseIdx j).map f=(l.map f).eraseIdx j
 | [],_=>rfl
 | _ :: _,0=>rfl
 | x :: l,j+1=>by simp [map_erase f l j]
structure KeyD {α:Type} (P:Program) (k:TypeId) (enc:α→Value):Prop where
 check:∀ (w:World) (em:Bool) (a:α),(Instr.checkKey em 10000 k (enc a)).run P w=.ok () w
 find:∀ (w:World) (a:α) (es:List MapEntry),(∀ e∈es,∃ b,e.key=enc b) →
  ((Instr.findKey k (enc a) es).run P w=.ok none w∧∀ e∈es,e.key≠enc a)∨∃ j e,(Instr.findKey k (enc a) es).run P w=.ok (some (j,e.val)) w∧es[j]?=some e∧e.key=enc a
 stays:∀ (w:World) (a:α),(Instr.keyThatStays (enc a) (enc a)).run P w=.ok (enc a) w
 inj:∀ a b:α,enc a=enc b→a=b
def mpOf {α:Type} (enc:α→Value) (l:List (α × Value)):List (Value × Value):=l.map fun p=>(enc p.1,p.2)
def entOf (e:MapEntry):Value × Value:=(e.key,e.val)
structure MpAt {α:Type} (enc:α→Value) (w:World) (b:Nat) (l:List (α × Value)):Prop where
 blk:∃ (es:Array MapEntry) (clock:Nat),w.heap[b]?=some (.map es clock)∧es.toList.map entOf=mpOf enc l∧(∀ e∈es.toList,e.born < clock)∧(es.toList.map (·.born)).Nodup
 nodup:(l.map Prod.fst).Nodup
section
variable {α:Type} {enc:α→Value} {P:Program} {k:TypeId} {w:World} {b:Nat} {l:List (α × Value)}
theorem MpAt.keep (h:MpAt enc w b l) {fp:List Nat} {w':World} (hf:Fr fp w w') (hn:b∉fp):MpAt enc w' b l:=by
 obtain ⟨es,c,h1,h2⟩:=h.blk
 exact ⟨⟨es,c,hf.keep h1 hn,h2⟩,h.nodup⟩
theorem MpAt.lt (h:MpAt enc w b l):b < w.heap.size:=by
 obtain ⟨es,c,h1,_⟩:=h.blk
 exact blk_lt h1
theorem mpAt_new (w:World):MpAt enc (w.alloc (.map #[] 0)) w.heap.size []:=⟨⟨#[],0,qm _ _,rfl,by simp,by simp⟩,by simp⟩
theorem Fr.setBlock {fp:List Nat} {w:World} {b:Nat} {o:Obj} (h:b∈fp):Fr fp w (setBlock w b o) :=
 ⟨rfl,rfl,rfl,by simp [ChangeMaps.setBlock],fun k _ hn=>by
  have hb:b≠k:=fun e=>hn (e ▸ h)
  simp [ChangeMaps.setBlock,hb]⟩
theorem heap_setB {w:World} {b:Nat} {x:Obj} (h:w.heap[b]?=some x) (o:Obj):(setBlock w b o).heap[b]?=some o:=by
 have:=blk_lt h
 simp [ChangeMaps.setBlock,this]
theorem ent_mem {es:List MapEntry} (h:es.map entOf=mpOf enc l) {e:MapEntry} (he:e∈es):∃ p∈l,e.key=enc p.1∧e.val=p.2:=by
 have:entOf e∈mpOf enc l:=h ▸ List.mem_map.2 ⟨e,he,rfl⟩
 obtain ⟨p,hp,hq⟩:=List.mem_map.1 this
 exact ⟨p,hp,(congrArg Prod.fst hq).symm,(congrArg Prod.snd hq).symm⟩
theorem ent_at {es:List MapEntry} (h:es.map entOf=mpOf enc l) {j:Nat} {e:MapEntry} (he:es[j]?=some e):∃ p,l[j]?=some p∧e.key=enc p.1∧e.val=p.2:=by
 have h1:(es.map entOf)[j]?=some (entOf e):=by simp [he]
 rw [h,mpOf,List.getElem?_map] at h1
 cases hl:l[j]? with
 | none=>simp [hl] at h1
 | some p =>
  rw [hl] at h1
  simp only [Option.map_some,Option.some.injEq] at h1
  exact ⟨p,rfl,(congrArg Prod.fst h1).symm,(congrArg Prod.snd h1).symm⟩
variable [DecidableEq α]
theorem KeyD.found (K:KeyD P k enc) (w:World) (a:α) {es:List MapEntry} (h:es.map entOf=mpOf enc l) (hn:(l.map Prod.fst).Nodup) :
  ((Instr.findKey k (enc a) es).run P w=.ok none w∧getA l a=none∧∀ p∈l,p.1≠a)∨∃ j v,(Instr.findKey k (enc a) es).run P w=.ok (some (j,v)) w∧l[j]?=some (a,v)∧(∃ e,es[j]?=some e∧e.key=enc a)∧getA l a=some v:=by
 rcases K.find w a es (fun e he=>by obtain ⟨p,_,h1,_⟩:=ent_mem h he;exact ⟨_,h1⟩) with ⟨h1,h2⟩ | ⟨j,e,h1,h2,h3⟩
 ·have h4:∀ p∈l,p.1≠a:=fun p hp e=>by
   have:(enc p.1,p.2)∈es.map entOf:=h ▸ List.mem_map.2 ⟨p,hp,rfl⟩
   obtain ⟨x,hx,hq⟩:=List.mem_map.1 this
   exact h2 x hx (by rw [← e];exact congrArg Prod.fst hq)
  exact .inl ⟨h1,getA_none h4,h4⟩
 ·obtain ⟨p,hp,hk,hv⟩:=ent_at h h2
  have:p=(a,e.val):=by
   have:=K.inj _ _ (hk.symm.trans h3)
   cases p;simp_all
  subst this
  exact .inr ⟨j,_,h1,hp,⟨e,h2,h3⟩,getA_at hn hp⟩
theorem MpAt.look (h:MpAt enc w b l) (K:KeyD P k enc) {t e:TypeId} (ht:P.underlying t=some (.map k e)) {z:Value} (hz:(zeroValue e).run P w=.ok z w) (a:α) (ok:Bool) :
  (Instr.lookup t (.map (some b)) (enc a) ok).run P w=.ok (if ok then .tuple #[(getA l a).getD z,.bool (getA l a).isSome] else (getA l a).getD z) w:=by
 obtain ⟨es,c,hb,he,_⟩:=h.blk
 rcases K.found w a he h.nodup with ⟨h1,h2,_⟩ | ⟨j,v,h1,_,_,h2⟩
 ·simp [Instr.lookup,run_underlying ht,MapKept.run_getObj_map hb,K.check,h1,h2,hz,Result.andThen]
 ·simp [Instr.lookup,run_underlying ht,MapKept.run_getObj_map hb,K.check,h1,h2,Result.andThen]
theorem MpAt.upd (h:MpAt enc w b l) (K:KeyD P k enc) {t e:TypeId} (ht:P.underlying t=some (.map k e)) (a:α) (v:Value) :
  ∃ w',(Instr.mapUpdate t (.map (some b)) (enc a) v).run P w=.ok () w'∧Fr [b] w w'∧w'.heap.size=w.heap.size∧MpAt enc w' b (setA l a v):=by
 obtain ⟨es,c,hb,he,hc,hn⟩:=h.blk
 rcases K.found w a he h.nodup with ⟨h1,_,h2⟩ | ⟨j,u,h1,hp,⟨e0,hj,hk⟩,h2⟩
 ·refine ⟨setBlock w b (.map (es.push ⟨enc a,v,c⟩) (c+1)),?_,Fr.setBlock (by simp),by simp [ChangeMaps.setBlock],⟨_,_,heap_setB hb _,?_,?_,?_⟩,setA_nodup h.nodup a v⟩
  ·simp [Instr.mapUpdate,run_underlying ht,MapKept.run_getObj_map hb,K.check,h1,MapKept.run_setObj_map _ hb,Result.andThen,ChangeMaps.setBlock]
  ·rw [setA_none h2];simp [mpOf,he,entOf]
  ·intro x hx
   rw [Array.toList_push,List.mem_append] at hx
   rcases hx with hx | hx
   ·have:=hc x hx;omega
   ·simp at hx;subst hx;simp
  ·rw [Array.toList_push,List.map_append]
   refine List.nodup_append.2 ⟨hn,by simp,fun x hx y hy=>?_⟩
   obtain ⟨e,he,rfl⟩:=List.mem_map.1 hx
   have:=hc e he
   simp at hy
   omega
 ·have hjs:j < es.size:=by simpa using (List.getElem?_eq_some_iff.1 hj).1
  have hge:es[j]?=some e0:=by simpa using hj
  have hmod:(es.modify j fun e=>{ e with key:=enc a,val:=v }).toList=es.toList.set j ⟨enc a,v,e0.born⟩:=by
   apply List.ext_getElem?
   intro i
   simp only [Array.toList_modify,List.getElem?_modify,List.getElem?_set]
   by_cases hij:j=i
   ·subst hij
    simp [hjs]
    have:es[j]=e0:=by simpa [hjs] using hge
    rw [this]
   ·simp [hij]
  refine ⟨setBlock w b (.map (es.modify j fun e=>{ e with key:=enc a,val:=v }) c),?_,Fr.setBlock (by simp),by simp [ChangeMaps.setBlock],⟨_,_,heap_setB hb _,?_,?_,?_⟩,setA_nodup h.nodup a v⟩
  ·simp [Instr.mapUpdate,run_underlying ht,MapKept.run_getObj_map hb,K.check,h1,hge,hk,K.stays,MapKept.run_setObj_map _ hb,Result.andThen,ChangeMaps.setBlock]
  ·rw [hmod,setA_at h.nodup hp];simp [mpOf,List.map_set,he,entOf]
  ·rw [hmod]
   intro x hx
   rcases List.mem_or_eq_of_mem_set hx with hx | rfl
   ·exact hc x hx
   ·exact hc e0 (List.mem_of_getElem? hj)
  ·rw [hmod,List.map_set]
   have:(es.toList.map (·.born)).set j e0.born=es.toList.map (·.born):=by
    apply List.ext_getElem?
    intro i
    rw [List.getElem?_set]
    split
    ·rename_i hi
     subst hi
     have:es[j]=e0:=by simpa [hjs] using hge
     simp [hjs,this]
    ·rfl
   rw [this];exact hn
theorem MpAt.drop (h:MpAt enc w b l) (K:KeyD P k enc) {t e ty:TypeId} (ht:P.underlying t=some (.map k e)) (a:α) :
  ∃ w',(Builtin.delete_ #[t,k] ty #[.map (some b),enc a]).run P w=.ok (.tuple #[]) w'∧Fr [b] w w'∧w'.heap.size=w.heap.size∧MpAt enc w' b (delA l a):=by
 obtain ⟨es,c,hb,he,hc,hn⟩:=h.blk
 rcases K.found w a he h.nodup with ⟨h1,_,h2⟩ | ⟨j,u,h1,hp,⟨e0,hj,hk⟩,h2⟩
 ·refine ⟨setBlock w b (.map es c),?_,Fr.setBlock (by simp),by simp [ChangeMaps.setBlock],⟨_,_,heap_setB hb _,?_,hc,hn⟩,delA_nodup h.nodup a⟩
  ·simp [Builtin.delete_,run_underlying ht,MapKept.run_getObj_map hb,K.check,h1,MapKept.run_setObj_map _ hb,Result.andThen,ChangeMaps.setBlock]
  ·rw [delA_none h2];exact he
 ·have hjs:j < es.size:=by simpa using (List.getElem?_eq_some_iff.1 hj).1
  have hsub:(es.eraseIdxIfInBounds j).toList=es.toList.eraseIdx j:=by
   unfold Array.eraseIdxIfInBounds
   rw [dif_pos hjs]
   simp
  refine ⟨setBlock w b (.map (es.eraseIdxIfInBounds j) c),?_,Fr.setBlock (by simp),by simp [ChangeMaps.setBlock],⟨_,_,heap_setB hb _,?_,?_,?_⟩,delA_nodup h.nodup a⟩
  ·simp [Builtin.delete_,run_underlying ht,MapKept.run_getObj_map hb,K.check,h1,MapKept.run_setObj_map _ hb,Result.andThen,ChangeMaps.setBlock]
  ·rw [hsub,delA_at h.nodup hp,mpOf,map_erase,map_erase,he];rfl
  ·rw [hsub];exact fun x hx=>hc x ((List.eraseIdx_sublist _ _).subset hx)
  ·rw [hsub];exact hn.sublist (List.Sublist.map _ (List.eraseIdx_sublist _ _))
end
structure ItAt {α:Type} (enc:α→Value) (w:World) (r b:Nat) (l left:List (α × Value)):Prop where
 blk:∃ (es:Array MapEntry) (clock:Nat) (seen:Array Nat),w.heap[b]?=some (.map es clock)∧w.heap[r]?=some (.mapIter (some b) clock seen clock)∧es.toList.map entOf=mpOf enc l∧(∀ e∈es.toList,e.born < clock)∧(es.toList.map (·.born)).Nodup∧(leftOf es seen).toList.map entOf=mpOf enc left
section
variable {α:Type} {enc:α→Value} {P:Program} {w:World} {r b:Nat} {l left:List (α × Value)}
theorem ItAt.keep (h:ItAt enc w r b l left) {fp:List Nat} {w':World} (hf:Fr fp w w') (hb:b∉fp) (hr:r∉fp):ItAt enc w' r b l left:=by
 obtain ⟨es,c,s,h1,h2,h3⟩:=h.blk
 exact ⟨⟨es,c,s,hf.keep h1 hb,hf.keep h2 hr,h3⟩⟩
theorem ItAt.lt (h:ItAt enc w r b l left):r < w.heap.size∧b < w.heap.size:=by
 obtain ⟨es,c,s,h1,h2,_⟩:=h.blk
 exact ⟨blk_lt h2,blk_lt h1⟩
theorem MpAt.range (h:MpAt enc w b l) {t k e:TypeId} (ht:P.underlying t=some (.map k e)) :
  ∃ c,(Instr.range t (.map (some b))).run P w=.ok (.pointer (some ⟨w.heap.size,0,none⟩)) (w.alloc (.mapIter (some b) c #[] c))∧ItAt enc (w.alloc (.mapIter (some b) c #[] c)) w.heap.size b l l:=by
 obtain ⟨es,c,hb,he,hc,hn⟩:=h.blk
 refine ⟨c,run_range_map w t k e b es c ht hb,⟨es,c,#[],heap_alloc_old _ hb,qm _ _,he,hc,hn,?_⟩⟩
 rw [show leftOf es #[]=es by unfold leftOf;exact Array.filter_eq_self.2 (by simp)]
 exact he
theorem filter_one:∀ (L:List MapEntry) (e:MapEntry),(L.map (·.born)).Nodup→e∈L→∃ A B,L=A++e :: B∧L.filter (fun x=>decide (x.born≠e.born))=A++B
 | [],_,_,h=>by simp at h
 | x :: L,e,hn,h=>by
  obtain ⟨h1,h2⟩:=List.nodup_cons.1 hn
  rcases List.mem_cons.1 h with rfl | h
  ·refine ⟨[],L,rfl,?_⟩
   rw [List.filter_cons_of_neg (by simp)]
   exact List.filter_eq_self.2 fun y hy=>by
    have:y.born≠e.born:=fun q=>h1 (List.mem_map.2 ⟨y,hy,q⟩)
    simpa using this
  ·obtain ⟨A,B,rfl,h4⟩:=filter_one L e h2 h
   refine ⟨x :: A,B,rfl,?_⟩
   have:x.born≠e.born:=fun q=>h1 (List.mem_map.2 ⟨e,h,q.symm⟩)
   rw [List.filter_cons_of_pos (by simpa using this),h4];rfl
theorem map_split {β γ:Type} {f:β→γ} {l:List β} {a:γ} {A B:List γ} (h:l.map f=A++a :: B):∃ l1 x l2,l=l1++x :: l2∧l1.map f=A∧f x=a∧l2.map f=B:=by
 obtain ⟨l1,l3,rfl,h1,h2⟩:=List.map_eq_append_iff.1 h
 obtain ⟨x,l2,rfl,h3,h4⟩:=List.map_eq_cons_iff.1 h2
 exact ⟨l1,x,l2,rfl,h1,h3,h4⟩
theorem ItAt.next (h:ItAt enc w r b l left) (hne:r≠b) (ty:TypeId) :
  (left=[]∧(Instr.next (.pointer (some ⟨r,0,none⟩)) false ty).run P w=.ok (.tuple #[.bool false]) w) ∨
  ∃ l1 a v l2 w',left=l1++(a,v) :: l2∧(Instr.next (.pointer (some ⟨r,0,none⟩)) false ty).run P w=.ok (.tuple #[.bool true,enc a,v]) w'∧Fr [r] w w'∧w'.heap.size=w.heap.size∧ItAt enc w' r b l (l1++l2) ∧
   ∀ w2,w2.heap[r]?=w'.heap[r]?→w2.heap[b]?=w'.heap[b]?→(Instr.entry (.pointer (some ⟨r,0,none⟩))).run P w2=.ok (.tuple #[enc a,v]) w2:=by
 obtain ⟨es,c,seen,hb,hr,he,hc,hn,hl⟩:=h.blk
 rcases run_next_at (P:=P) w ty r b c c seen es c hr hb hc (Nat.le_refl _) with ⟨h0,h1⟩ | ⟨e,hm,w1,hw,h1⟩
 ·refine .inl ⟨?_,h1⟩
  have hz:(leftOf es seen).toList=[]:=by rw [← List.length_eq_zero_iff];simpa using h0
  rw [hz] at hl
  exact List.map_eq_nil_iff.1 hl.symm
 ·have hmes:e∈es.toList:=by
   unfold leftOf at hm
   simp at hm ⊢
   exact hm.1
  have hnl:((leftOf es seen).toList.map (·.born)).Nodup:=by
   unfold leftOf
   rw [Array.toList_filter]
   exact hn.sublist (List.Sublist.map _ List.filter_sublist)
  obtain ⟨A,B,hAB,hfi⟩:=filter_one _ e hnl hm
  rw [hAB,List.map_append,List.map_cons] at hl
  obtain ⟨l1,x,l2,rfl,e1,e2,e3⟩:=map_split hl.symm
  obtain ⟨a,v⟩:=x
  obtain ⟨hk,hv⟩:enc a=e.key∧v=e.val:=⟨congrArg Prod.fst e2,congrArg Prod.snd e2⟩
  have hw1:w1.heap=w.heap:=by rcases hw with rfl | rfl <;> rfl
  have hb1:w1.heap[b]?=some (.map es c):=by rw [hw1];exact hb
  have hr1:w1.heap[r]?=some (.mapIter (some b) c seen c):=by rw [hw1];exact hr
  have hrn:(setBlock w1 r (.mapIter (some b) c (seen.push e.born) c)).heap[r]?=some (.mapIter (some b) c (seen.push e.born) c):=heap_setB hr1 _
  have hbn:(setBlock w1 r (.mapIter (some b) c (seen.push e.born) c)).heap[b]?=some (.map es c):=(Fr.setBlock (fp:=[r]) (w:=w1) (by simp)).keep hb1 (by simpa using Ne.symm hne)
  refine .inr ⟨l1,a,v,l2,setBlock w1 r (.mapIter (some b) c (seen.push e.born) c),rfl,by rw [h1,hk,hv],?_,by simp [ChangeMaps.setBlock,hw1],⟨es,c,seen.push e.born,hbn,hrn,he,hc,hn,?_⟩,?_⟩
  ·have f1:Fr [r] w w1:=by
    rcases hw with rfl | rfl
    ·exact Fr.refl _ _
    ·exact Fr.drew _ _
   exact f1.trans (Fr.setBlock (by simp))
  ·have:(leftOf es (seen.push e.born)).toList=(leftOf es seen).toList.filter (fun x=>decide (x.born≠e.born)):=by
    unfold leftOf
    rw [Array.toList_filter,Array.toList_filter,List.filter_filter]
    apply List.filter_congr
    intro y _
    simp [Bool.and_comm,decide_not]
   rw [this,hfi,List.map_append,← e1,← e3]
   simp [mpOf]
  ·intro w2 h2r h2b
   rw [hk,hv]
   exact run_entry_at w2 r b c seen es c e (h2r.trans hrn) (h2b.trans hbn) hmes hn
end
end
section
def xorI (a b:Int):Int:=bits .xor .u32 a b
def andI (a b:Int):Int:=bits .and .u32 a b
def orI (a b:Int):Int:=bits .or .u32 a b
def addI (a b:Int):Int:=IntKind.u32.wrap (a+b)
def ror (x:Int) (n:Nat):Int:=bits .or .u32 (x*2 ^ (32 - n) % 4294967296) (x / 2 ^ n)
def mixGo (x:Int):List Int→Int→Int
 | [],a=>a
 | n :: l,a=>mixGo x l (xorI a (ror x n.toNat))
def mix (x:Int) (l:List Int):Int:=mixGo x l 0
theorem mixGo_snoc (x n:Int):∀ (l:List Int) (a:Int),mixGo x (l++[n]) a=xorI (mixGo x l a) (ror x n.toNat)
 | [],_=>rfl
 | _ :: l,_=>mixGo_snoc x n l _
def word4 (a b c d:Int):Int:=orI (orI (orI (IntKind.u32.wrap (IntKind.u32.wrap a*16777216)) (IntKind.u32.wrap (IntKind.u32.wrap b*65536))) (IntKind.u32.wrap (IntKind.u32.wrap c*256))) (IntKind.u32.wrap d)
def ext (w:List Int) (k:Nat):Int :=
 addI (addI (addI (w.getD (k - 16) 0) (xorI (mix (w.getD (k - 15) 0) [7,18]) (w.getD (k - 15) 0 / 8))) (w.getD (k - 7) 0)) (xorI (mix (w.getD (k - 2) 0) [17,19]) (w.getD (k - 2) 0 / 1024))
def sch (b:List Int):Nat→List Int
 | 0=>[]
 | k+1=>sch b k++[if k < 16 then word4 (b.getD (4*k) 0) (b.getD (4*k+1) 0) (b.getD (4*k+2) 0) (b.getD (4*k+3) 0) else ext (sch b k) k]
theorem sch_len (b:List Int):∀ k,(sch b k).length=k
 | 0=>rfl
 | k+1=>by rw [sch,List.length_append,sch_len b k];rfl
structure W8 where
 a:Int
 b:Int
 c:Int
 d:Int
 e:Int
 f:Int
 g:Int
 h:Int
def tOf (v:W8) (k w:Int):Int:=addI (addI (addI (addI v.h (mix v.e [6,11,25])) (xorI (andI v.e v.f) (andI (xorI 4294967295 v.e) v.g))) k) w
def uOf (v:W8):Int:=addI (mix v.a [2,13,22]) (xorI (xorI (andI v.a v.b) (andI v.a v.c)) (andI v.b v.c))
def rnd (v:W8) (k w:Int):W8:=⟨addI (tOf v k w) (uOf v),v.a,v.b,v.c,addI v.d (tOf v k w),v.e,v.f,v.g⟩
def kTab:List Int:=[
 0x428a2f98,0x71374491,0xb5c0fbcf,0xe9b5dba5,0x3956c25b,0x59f111f1,0x923f82a4,0xab1c5ed5,
 0xd807aa98,0x12835b01,0x243185be,0x550c7dc3,0x72be5d74,0x80deb1fe,0x9bdc06a7,0xc19bf174,
 0xe49b69c1,0xefbe4786,0x0fc19dc6,0x240ca1cc,0x2de92c6f,0x4a7484aa,0x5cb0a9dc,0x76f988da,
 0x983e5152,0xa831c66d,0xb00327c8,0xbf597fc7,0xc6e00bf3,0xd5a79147,0x06ca6351,0x14292967,
 0x27b70a85,0x2e1b2138,0x4d2c6dfc,0x53380d13,0x650a7354,0x766a0abb,0x81c2c92e,0x92722c85,
 0xa2bfe8a1,0xa81a664b,0xc24b8b70,0xc76c51a3,0xd192e819,0xd6990624,0xf40e3585,0x106aa070,
 0x19a4c116,0x1e376c08,0x2748774c,0x34b0bcb5,0x391c0cb3,0x4ed8aa4a,0x5b9cca4f,0x682e6ff3,
 0x748f82ee,0x78a5636f,0x84c87814,0x8cc70208,0x90befffa,0xa4506ceb,0xbef9a3f7,0xc67178f2]
def rnds (W:List Int) (v:W8):Nat→W8
 | 0=>v
 | k+1=>rnd (rnds W v k) (kTab.getD k 0) (W.getD k 0)
def sum8 (h v:W8):W8:=⟨addI h.a v.a,addI h.b v.b,addI h.c v.c,addI h.d v.d,addI h.e v.e,addI h.f v.f,addI h.g v.g,addI h.h v.h⟩
def addB (h:W8) (b:List Int):W8:=sum8 h (rnds (sch b 64) h 64)
def W8.list (v:W8):List Int:=[v.a,v.b,v.c,v.d,v.e,v.f,v.g,v.h]
theorem W8.list_len (v:W8):v.list.length=8:=rfl
def byteI (x:Int):Int:=IntKind.u8.wrap x
def outB (x:Int):List Int:=[byteI (x / 2 ^ 24),byteI (x / 2 ^ 16),byteI (x / 2 ^ 8),byteI (x / 2 ^ 0)]
def outL (v:W8):List Int:=v.list.flatMap outB
theorem outL_len (v:W8):(outL v).length=32:=rfl
def H0:W8:=⟨0x6a09e667,0xbb67ae85,0x3c6ef372,0xa54ff53a,0x510e527f,0x9b05688c,0x1f83d9ab,0x5be0cd19⟩
def blocks (l:List Int) (h:W8):Nat→W8
 | 0=>h
 | k+1=>addB (blocks l h k) ((l.drop (64*k)).take 64)
end
section
open Go.RowKit Go.Lib
structure Dk where
 off:Bool
 left:Nat
 dur:List UInt8
 vis:List UInt8
 pend:List (Nat × ByteArray)
def pendC (l:List (Nat × ByteArray)):List Value:=l.flatMap fun p=>[.int .i64 p.1,.string p.2]
theorem pendC_snoc (l:List (Nat × ByteArray)) (o:Nat) (s:ByteArray):pendC (l++[(o,s)])=pendC l++[.int .i64 o,.string s]:=by simp [pendC]
structure Dk.Ok (D:Dk):Prop where
 len:D.vis.length=D.dur.length
 pos:1≤D.dur.length
 max:D.dur.length≤4194304
 left:D.left≤9223372036854775807
 pend:∀ p,p∈D.pend→p.1+p.2.size≤D.dur.length
structure DkIn (tD tW tB:TypeId) (w:World) (b bd bv:Nat) (pv:Value) (D:Dk):Prop where
 ok:D.Ok
 str:w.heap[b]?=some (.cells #[.bool D.off,.int .i64 D.left,.slice (some ⟨bd,0,none⟩) D.dur.length D.dur.length,.slice (some ⟨bv,0,none⟩) D.dur.length D.dur.length,pv] tD (0,0))
 dur:BytesAt w bd tB D.dur
 vis:BytesAt w bv tB D.vis
 pend:w.ownsRow 0 tW 2 pv D.pend.length (pendC D.pend)
 ne1:b≠bd
 ne2:b≠bv
 ne3:bd≠bv
 nep:∀ g,pv.ownBlock=some g→g≠b∧g≠bd∧g≠bv
def DkAt (tD tW tB:TypeId) (w:World) (b:Nat) (fp:List Nat) (D:Dk):Prop :=
 ∃ bd bv pv,DkIn tD tW tB w b bd bv pv D∧fp=b :: bd :: bv :: pv.ownBlock.toList
theorem ownsRow_keep {w w':World} {base:Nat} {e:TypeId} {size:Nat} {v:Value} {n:Nat} {xs:List Value} (h:w.ownsRow base e size v n xs)
  (hk:∀ g,v.ownBlock=some g→w'.heap[g]?=w.heap[g]?):w'.ownsRow base e size v n xs:=by
 obtain ⟨h1,h2⟩:=h
 refine ⟨h1,?_⟩
 rcases h2 with h2 | ⟨g,cap,cur,hv,hb,hg,r⟩
 ·exact .inl h2
 ·exact .inr ⟨g,cap,cur,hv,hb,(hk g (by rw [hv];rfl)).trans hg,r⟩
theorem ownsRow_lt {w:World} {base:Nat} {e:TypeId} {size:Nat} {v:Value} {n:Nat} {xs:List Value} (h:w.ownsRow base e size v n xs) {g:Nat} (hg:v.ownBlock=some g):g < w.heap.size:=by
 rcases h.2 with ⟨rfl,_⟩ | ⟨g',cap,cur,rfl,_,hh,_⟩
 ·cases hg
 ·cases hg;exact blk_lt hh
theorem DkIn.fp_lt {tD tW tB:TypeId} {w:World} {b bd bv:Nat} {pv:Value} {D:Dk} (h:DkIn tD tW tB w b bd bv pv D):∀ k,k∈b :: bd :: bv :: pv.ownBlock.toList→k < w.heap.size:=by
 intro k hk
 simp only [List.mem_cons,Option.mem_toList] at hk
 rcases hk with rfl | rfl | rfl | hk
 ·exact blk_lt h.str
 ·exact blk_lt h.dur
 ·exact blk_lt h.vis
 ·exact ownsRow_lt h.pend hk
theorem DkIn.keep {tD tW tB:TypeId} {w w':World} {b bd bv:Nat} {pv:Value} {D:Dk} (h:DkIn tD tW tB w b bd bv pv D) (hk:∀ k,k∈b :: bd :: bv :: pv.ownBlock.toList→w'.heap[k]?=w.heap[k]?):DkIn tD tW tB w' b bd bv pv D :=
 { h with
  str:=(hk b (by simp)).trans h.str
  dur:=(hk bd (by simp)).trans h.dur
  vis:=(hk bv (by simp)).trans h.vis
  pend:=ownsRow_keep h.pend fun g hg=>hk g (by simp [hg]) }
theorem DkAt.lt {tD tW tB:TypeId} {w:World} {b:Nat} {fp:List Nat} {D:Dk} (h:DkAt tD tW tB w b fp D):∀ k,k∈fp→k < w.heap.size:=by
 obtain ⟨bd,bv,pv,h,rfl⟩:=h
 exact h.fp_lt
theorem DkAt.keep {tD tW tB:TypeId} {w w':World} {b:Nat} {fp S:List Nat} {D:Dk} (h:DkAt tD tW tB w b fp D) (hf:Fr S w w') (hd:∀ k,k∈fp→k∉S):DkAt tD tW tB w' b fp D:=by
 have hlt:=h.lt
 obtain ⟨bd,bv,pv,h,rfl⟩:=h
 exact ⟨bd,bv,pv,h.keep fun k hk=>hf.block k (hlt k hk) (hd k hk),rfl⟩
def insB (m:Nat) (off n:Int):Bool:=decide (0≤off∧0≤n∧off≤m∧n≤m - off)
def Dk.use (D:Dk):Dk:=if D.left=0 then D else { D with left:=D.left - 1,off:=D.left - 1 == 0 }
def Dk.put (D:Dk) (o:Nat) (s:ByteArray):Dk:={ D with vis:=paste D.vis o s.data.toList,pend:=D.pend++[(o,s)] }
def Dk.write (D:Dk) (o:Nat) (s:ByteArray):Dk:=(D.put o s).use
def Dk.sync (D:Dk):Dk:={ D with dur:=D.vis,pend:=[] }
def Dk.cut (D:Dk) (n:Nat):Dk:={ D with off:=n == 0,left:=n }
theorem Dk.Ok.put {D:Dk} (h:D.Ok) {o:Nat} {s:ByteArray} (hs:o+s.size≤D.dur.length):(D.put o s).Ok :=
 ⟨by simp only [Dk.put];rw [paste_length _ _ _ (by simpa [h.len] using hs)];exact h.len,h.pos,h.max,h.left,fun p hp=>by
  simp only [Dk.put,List.mem_append,List.mem_singleton] at hp
  rcases hp with hp | rfl
  ·exact h.pend p hp
  ·exact hs⟩
theorem Dk.Ok.use {D:Dk} (h:D.Ok):D.use.Ok:=by
 unfold Dk.use
 split
 ·exact h
 ·exact ⟨h.len,h.pos,h.max,by have:=h.left;simp;omega,h.pend⟩
theorem run_clear_blk {P:Program} (w:World) (t e ty:TypeId) (z:Value) (ht:P.underlying t=some (.slice e)) (hz:∀ w,(zeroValue e).run P w=.ok z w) (hone:∀ v,v∈z.cells.toList→v.oneCell'=true)
  (g n cap:Nat) (cur:Array Value) (e':TypeId) (hg:w.heap[g]?=some (.cells cur e' (0,0))) (hfit:n*z.cells.size≤cur.size) (hz0:0 < z.cells.size) :
  ∃ cs:Array Value,cs.size=cur.size∧(Builtin.clear_ #[t] ty #[.slice (some ⟨g,0,none⟩) n cap]).run P w=.ok (.tuple #[]) (w.setRow g cs):=by
 cases n with
 | zero=>exact ⟨cur,rfl,by rw [setRow_self w g cur e' (0,0) hg];simp [Builtin.clear_,run_underlying ht]⟩
 | succ m =>
  have hl:(Builtin.zeroCells z.cells (m+1)).toList.length=(m+1)*z.cells.size:=by simp [Builtin.zeroCells]
  have h1:∀ v,v∈(Builtin.zeroCells z.cells (m+1)).toList→v.oneCell'=true:=by
   intro v hv
   simp only [Builtin.zeroCells,Array.toList_map,List.mem_map] at hv
   obtain ⟨i,_,rfl⟩:=hv
   apply hone
   have hi:i % z.cells.size < z.cells.size:=Nat.mod_lt _ hz0
   rw [getElem!_pos z.cells _ hi]
   simp
  have hst:=run_storeCells_at (P:=P) g 0 e' _ 0 cur w hg (by rw [hl];simpa using hfit) h1
  have hrun:=show (Builtin.clear_ #[t] ty #[.slice (some ⟨g,0,none⟩) (m+1) cap]).run P w=.ok (.tuple #[]) _ by
   simp only [Builtin.clear_,run_underlying ht,hz,hst,Sem.run_bind,Result.andThen_ok,Sem.run_pure,List.getElem?_toArray,List.getElem?_cons_zero]
   exact rfl
  refine ⟨_,?_,hrun⟩
  simp only [Nat.zero_add,Nat.add_zero,List.take_zero,List.nil_append,List.size_toArray,List.length_append,List.length_drop,Array.length_toList,hl]
  omega
theorem wp_copy_bytes {P:Program} {w:World} {o:Oper} {a:Act} {K:Act→World→Prop} {Q:Exit→Act→World→Prop} (d s:Operand) (t t' e:TypeId)
  (ho:o.op=.call { callee:=.builtin .copy,args:=#[d,s],argTypes:=#[t,t'] }) (hu:P.underlying t=some (.slice e)) (hs:(P.info? e).map (·.size)=some 1)
  (gd gs n dCap sCap:Nat) (ld ls:List UInt8) (e':TypeId) (hd:a.eval d=.slice (some ⟨gd,0,none⟩) n dCap) (hx:a.eval s=.slice (some ⟨gs,0,none⟩) n sCap)
  (hbd:BytesAt w gd e' ld) (hbs:BytesAt w gs e' ls) (hld:ld.length=n) (hls:ls.length=n)
  (h:∀ w',Fr [gd] w w'→w'.heap.size=w.heap.size→BytesAt w' gd e' ls→K (a.put o.dst (.int .i64 n)) w'):o.wp P a w K Q:=by
 have hl:(byteCells ls).length=n:=by rw [byteCells_length,hls]
 have hl2:(byteCells ld).length=n:=by rw [byteCells_length,hld]
 have hrun:=run_copy_row (P:=P) w t t' o.type e gd 0 n dCap ⟨gs,0,none⟩ n sCap (byteCells ld).toArray e' (byteCells ls) hu hs hbd
  (by rw [hl];exact (Nat.min_self n).symm) (fun j v hj=>by
   have ha:(⟨gs,0,none⟩:Addr).add j=⟨gs,j,none⟩:=by
    unfold Addr.add;split
    ·rename_i h0;simp only [h0]
    ·simp only [Nat.zero_add]
   rw [ha,qd hbs]
   simpa using hj) (by simp only [List.size_toArray,hl2,hl];omega) (byteCells_one _)
 rw [hl] at hrun
 unfold Oper.wp execOp
 simp only [ho,resolve,invoke,builtin,Sem.run_bind,Sem.run_pure,Result.andThen_ok,List.map_toArray,List.map_cons,List.map_nil,hd,hx,hrun]
 refine h _ (Fr.setRow _ _ (by simp)) (by simp) ?_
 unfold BytesAt
 rw [setRow_heap _ _ _ _ _ _ hbd]
 have hdrop:List.drop (0+n) (byteCells ld)=[]:=List.drop_eq_nil_of_le (by omega)
 simp only [hdrop,List.take_zero,List.nil_append,List.append_nil]
theorem wp_clear_blk {P:Program} {w:World} {o:Oper} {a:Act} {K:Act→World→Prop} {Q:Exit→Act→World→Prop} (x:Operand) (t e:TypeId) (z:Value)
  (ho:o.op=.call { callee:=.builtin .clear,args:=#[x],argTypes:=#[t] }) (ht:P.underlying t=some (.slice e)) (hz:∀ w,(zeroValue e).run P w=.ok z w) (hone:∀ v,v∈z.cells.toList→v.oneCell'=true)
  (g n cap:Nat) (cur:Array Value) (e':TypeId) (hx:a.eval x=.slice (some ⟨g,0,none⟩) n cap) (hg:w.heap[g]?=some (.cells cur e' (0,0))) (hfit:n*z.cells.size≤cur.size) (hz0:0 < z.cells.size)
  (h:∀ cs:Array Value,cs.size=cur.size→K (a.put o.dst (.tuple #[])) (w.setRow g cs)):o.wp P a w K Q:=by
 obtain ⟨cs,hcs,hrun⟩:=run_clear_blk w t e o.type z ht hz hone g n cap cur e' hg hfit hz0
 unfold Oper.wp execOp
 simp only [ho,resolve,invoke,builtin,Sem.run_bind,Sem.run_pure,Result.andThen_ok,List.map_toArray,List.map_cons,List.map_nil,hx,hrun]
 exact h cs hcs
theorem wp_clear_nil {P:Program} {w:World} {o:Oper} {a:Act} {K:Act→World→Prop} {Q:Exit→Act→World→Prop} (x:Operand) (t e:TypeId)
  (ho:o.op=.call { callee:=.builtin .clear,args:=#[x],argTypes:=#[t] }) (ht:P.underlying t=some (.slice e)) (hx:a.eval x=.slice none 0 0) (h:K (a.put o.dst (.tuple #[])) w):o.wp P a w K Q:=by
 have hrun:(Builtin.clear_ #[t] o.type #[.slice none 0 0]).run P w=.ok (.tuple #[]) w:=by simp [Builtin.clear_,run_underlying ht]
 unfold Oper.wp execOp
 simp only [ho,resolve,invoke,builtin,Sem.run_bind,Sem.run_pure,Result.andThen_ok,List.map_toArray,List.map_cons,List.map_nil,hx,hrun]
 exact h
theorem wp_append_blk {P:Program} {w:World} {o:Oper} {a:Act} {K:Act→World→Prop} {Q:Exit→Act→World→Prop} (s x:Operand) (t e:TypeId) (z:Value) (size bytes:Nat)
  (ho:o.op=.call { callee:=.builtin .append,args:=#[s,x],argTypes:=#[t,t] }) (ht:P.underlying t=some (.slice e)) (hinfo:(P.info? e).map (fun i=>(i.zero,i.size,i.bytes))=some (some z,size,bytes)) (hzs:z.cells.size=size) (hsz:0 < size)
  (v:Value) (n:Nat) (xs:List Value) (hs:a.eval s=v) (hown:w.ownsRow 0 e size v n xs)
  (B m c:Nat) (cs:Array Value) (e':TypeId) (f:Nat × Nat) (hx:a.eval x=.slice (some ⟨B,0,none⟩) m c) (hB:w.heap[B]?=some (.cells cs e' f)) (hl:cs.size=m*size) (h1:∀ u,u∈cs.toList→u.oneCell'=true)
  (hm:0 < m) (h63:n+m≤9223372036854775807) (hbytes:(n+m)*bytes≤140737488355328)
  (h:∀ g cap w',w'.ownsRow 0 e size (.slice (some ⟨g,0,none⟩) (n+m) cap) (n+m) (xs++cs.toList)→Fr v.ownBlock.toList w w'→(v.ownBlock=some g∨g=w.heap.size)→K (a.put o.dst (.slice (some ⟨g,0,none⟩) (n+m) cap)) w'):o.wp P a w K Q:=by
 obtain ⟨i,hi,hz0,hz1,hz2⟩:=info_parts hinfo
 refine wp_append_lies w s x t ho 0 e i z size bytes ht hi hz0 hz1 hz2 hzs hsz v n xs hs hown ⟨B,0,none⟩ m c cs.toList hx (by simpa using hl) (World.news_of_block hB) h1 hm h63 hbytes (Nat.zero_le _) _ rfl ?_
 intro g cap w' h2 h3 h4 _
 exact h g cap w' h2 (Fr.grown h3 fun k hk=>by simp [hk]) h4
end
end Go.Proofs.YtledkokhghjfmaaGreatDoor
