/-
  Arrays of words in blocks, whole and by the cell; bytes in a slice.
-/
import Derived.Test.YtledkokhghjfmaaGreatDoorPS01
import Derived.Test.YtledkokhghjfmaaGreatDoorPS02
import Derived.Test.YtledkokhghjfmaaGreatDoorRows
import Derived.ProofKit
import Derived.Deep.WholeRow
namespace Go.Proofs.YtledkokhghjfmaaGreatDoor
section
open Go.RowKit Go.Lib
theorem stopD {p:Prop} (roundEnd:p) (_other:True):p:=roundEnd
abbrev u8C (l:List Int):List Value:=l.map (Value.int .u8)
abbrev ByAt (w:World) (v:Value) (l:List Int):Prop:=Sl w v l.length (u8C l)
def u32A (l:List Int):Array Value:=(l.map (Value.int .u32)).toArray
theorem u32A_size (l:List Int):(u32A l).size=l.length:=by simp [u32A]
theorem u32A_get (l:List Int) (i:Nat) (h:i < l.length):(u32A l)[i]?=some (.int .u32 (l.getD i 0)):=by simp [u32A,h]
theorem u32A_set (l:List Int) (i:Nat) (x:Int):(u32A l).setIfInBounds i (.int .u32 x)=u32A (l.set i x):=by simp [u32A,List.map_set]
theorem u32A_one (l:List Int):(u32A l).all (·.oneCell')=true:=by simp [u32A,Value.oneCell']
section
variable {t:TypeId} {n:Nat} {e:TypeId} {l:List Int}
theorem arr_load {ev:Operand→Value} {o:Oper} {W:World} {b:Nat} {C:Array Value} (x:Operand) (hu:Tryz.prog.underlying t=some (.array n e)) (hi:(Tryz.prog.info? t).map (·.size)=some C.size) (ho:o.op=.load t x) (hx:ev x=.pointer (some ⟨b,0,none⟩)) (h:W.heap[b]?=some (.cells C t (0,0))):(execOp ev o).run Tryz.prog W=.ok (.value (.agg C)) W:=by
 unfold execOp
 simp only [ho,hx,Instr.loadAt,Instr.sureAddr,Sem.run_bind,Sem.run_pure,Result.andThen_ok,run_loadVar_row W b t t C (0,0) _ h hu rfl hi]
theorem wp_arr_load {o:Oper} {a:Act} {W:World} {K:Act→World→Prop} {Q:Exit→Act→World→Prop} {b:Nat} {C:Array Value} (x:Operand) (hu:Tryz.prog.underlying t=some (.array n e)) (hi:(Tryz.prog.info? t).map (·.size)=some C.size) (ho:o.op=.load t x) (hx:a.eval x=.pointer (some ⟨b,0,none⟩)) (h:W.heap[b]?=some (.cells C t (0,0))) (hk:K (a.put o.dst (.agg C)) W):o.wp Tryz.prog a W K Q:=by
 unfold Oper.wp
 rw [arr_load x hu hi ho hx h]
 exact hk
theorem wp_arr_store {o:Oper} {a:Act} {W:World} {K:Act→World→Prop} {Q:Exit→Act→World→Prop} {b:Nat} {C C':Array Value} (x y:Operand) (hi:(Tryz.prog.info? t).map (·.size)=some C'.size) (ho:o.op=.store t x y) (hx:a.eval x=.pointer (some ⟨b,0,none⟩)) (hy:a.eval y=.agg C') (h:W.heap[b]?=some (.cells C t (0,0))) (hs:C.size=C'.size) (h1:C'.all (·.oneCell')=true)
  (hk:∀ W',Fr [b] W W'→W'.heap[b]?=some (.cells C' t (0,0))→K (a.put o.dst undef) W'):o.wp Tryz.prog a W K Q :=
 wp_store_row t x y ho b C' hx hy t C h hi hs h1 (hk (W.setRow b C') (Fr.setRow (g:=b) _ _ (by simp)) (by rw [setRow_heap _ _ _ _ _ _ h]))
end
end
section
open Go.RowKit Go.Lib
def bI (l:List UInt8):List Int:=l.map fun b=>(b.toNat:Int)
def toB (x:Int):UInt8:=UInt8.ofNat x.toNat
def zN (n:Nat):Nat:=(119 - n % 64) % 64
def len8 (m:Int):List Int:=[byteI (m / 2 ^ 56),byteI (m / 2 ^ 48),byteI (m / 2 ^ 40),byteI (m / 2 ^ 32),byteI (m / 2 ^ 24),byteI (m / 2 ^ 16),byteI (m / 2 ^ 8),byteI (m / 2 ^ 0)]
def pad1 (l:List Int):List Int:=(l++[128])++List.replicate (zN l.length) 0
def padL (l:List Int):List Int:=pad1 l++len8 (8*(l.length:Int))
def shaL (l:List Int):List Int:=outL (blocks (padL l) H0 ((padL l).length / 64))
def shaB (s:ByteArray):ByteArray:=⟨((shaL (bI s.data.toList)).map toB).toArray⟩
theorem shaL_len (l:List Int):(shaL l).length=32:=outL_len _
theorem shaB_size (s:ByteArray):(shaB s).size=32:=by
 simp only [shaB,ByteArray.size,List.size_toArray,List.length_map,shaL_len]
theorem byteI_b (x:Int):0≤byteI x∧byteI x < 256:=by rw [byteI,IntKind.wrap_u8];omega
theorem outL_b (v:W8):∀ x,x∈outL v→0≤x∧x < 256:=by
 intro x hx
 simp only [outL,List.mem_flatMap,outB,List.mem_cons,List.not_mem_nil,or_false] at hx
 obtain ⟨y,_,h⟩:=hx
 rcases h with rfl | rfl | rfl | rfl <;> exact byteI_b _
theorem toB_nat {x:Int} (h:0≤x∧x < 256):((toB x).toNat:Int)=x:=by
 simp only [toB,UInt8.toNat_ofNat']
 omega
theorem u8C_bytes {l:List Int} (h:∀ x,x∈l→0≤x∧x < 256):u8C l=byteCells (l.map toB):=by
 simp only [u8C,byteCells,List.map_map]
 refine List.map_congr_left fun x hx=>?_
 simp only [Function.comp,toB_nat (h x hx)]
theorem u8C_bI (l:List UInt8):u8C (bI l)=byteCells l:=by simp only [u8C,bI,byteCells,List.map_map];rfl
theorem bI_len (l:List UInt8):(bI l).length=l.length:=by simp [bI]
end
section
open Go.RowKit Go.Lib
def zig (n:Int):Nat:=if n < 0 then (-2*n - 1).toNat else (2*n).toNat
def unz (z:Nat):Int:=if z % 2=0 then ((z / 2:Nat):Int) else -((z / 2:Nat):Int) - 1
def encZ (z:Nat):List UInt8:=if z < 128 then [UInt8.ofNat z] else UInt8.ofNat (z % 128+128) :: encZ (z / 128)
termination_by z
decreasing_by omega
def getGo (s:List UInt8) (p:Nat):Nat→Nat→Nat→Option (Int × Nat)
 | 0,_,_=>none
 | f+1,i,z =>
  match s[p+i]? with
  | none=>none
  | some b =>
   if 128≤b.toNat then getGo s p f (i+1) (z+b.toNat % 128*2 ^ (7*i))
   else if (b.toNat=0∧0 < i)∨unz (z+b.toNat % 128*2 ^ (7*i)) < -4611686018427387903 then none
   else some (unz (z+b.toNat % 128*2 ^ (7*i)),p+i+1)
def getI (s:List UInt8) (p:Nat):Option (Int × Nat):=getGo s p 9 0 0
def getS (s:List UInt8) (p:Nat):Option (List UInt8 × Nat) :=
 match getI s p with
 | none=>none
 | some (n,q)=>if n < 0∨65536 < n∨(s.length:Int) - q < n then none else some ((s.drop q).take n.toNat,q+n.toNat)
def bts (s:ByteArray):List UInt8:=s.data.toList
def str (l:List UInt8):ByteArray:=⟨l.toArray⟩
theorem bts_str (l:List UInt8):bts (str l)=l:=rfl
theorem str_bts (s:ByteArray):str (bts s)=s:=rfl
theorem bts_len (s:ByteArray):(bts s).length=s.size:=rfl
theorem str_size (l:List UInt8):(str l).size=l.length:=rfl
def chainM (h r:ByteArray):ByteArray:=shaB (str (2 :: (bts h++bts r)))
theorem chainM_size (h r:ByteArray):(chainM h r).size=32:=shaB_size _
structure Tp where
 recs:List ByteArray
 head:ByteArray
 size:Nat
def putS (r:ByteArray):List UInt8:=encZ (2*r.size)++bts r
def recL (h r:ByteArray):List UInt8:=1 :: (putS r++bts (chainM h r))
def Tp.add (t:Tp) (r:ByteArray):Tp:=⟨t.recs++[r],chainM t.head r,t.size+(recL t.head r).length⟩
def Tp.adds (t:Tp) (l:List ByteArray):Tp:=l.foldl Tp.add t
def encAll (h:ByteArray):List ByteArray→List UInt8
 | []=>[]
 | r :: l=>recL h r++encAll (chainM h r) l
def head0:ByteArray:=str (List.replicate 32 0)
def tp0:Tp:=⟨[],head0,0⟩
def ldM (s:List UInt8):Nat→Tp→Option Tp
 | 0,_=>none
 | f+1,t =>
  match s[t.size]? with
  | none=>some t
  | some b =>
   if b=0 then some t
   else if b≠1 then none
   else match getS s (t.size+1) with
    | none=>none
    | some (r,q) =>
     if s.length < q+32 then none
     else if recL t.head (str r)=(s.drop t.size).take (q+32 - t.size) then ldM s f (t.add (str r)) else none
def openM (s:List UInt8):Option Tp:=ldM s (s.length+1) tp0
theorem encZ_one {z:Nat} (h:z < 128):encZ z=[UInt8.ofNat z]:=by rw [encZ,if_pos h]
theorem encZ_more {z:Nat} (h:¬ z < 128):encZ z=UInt8.ofNat (z % 128+128) :: encZ (z / 128):=by rw [encZ,if_neg h]
theorem encZ_len (z:Nat) (h:z < 2 ^ 21):(encZ z).length≤3∧1≤(encZ z).length:=by
 by_cases h1:z < 128
 ·rw [encZ_one h1];simp
 ·rw [encZ_more h1]
  by_cases h2:z / 128 < 128
  ·rw [encZ_one h2];simp
  ·rw [encZ_more h2,encZ_one (by omega)];simp
theorem getGo_at (s:List UInt8) (p:Nat) (f i z:Nat) {b:UInt8} (h:s[p+i]?=some b):getGo s p (f+1) i z =
  if 128≤b.toNat then getGo s p f (i+1) (z+b.toNat % 128*2 ^ (7*i))
   else if (b.toNat=0∧0 < i)∨unz (z+b.toNat % 128*2 ^ (7*i)) < -4611686018427387903 then none
   else some (unz (z+b.toNat % 128*2 ^ (7*i)),p+i+1):=by
 rw [getGo,h]
theorem unz_two (n:Nat):unz (2*n)=n:=by simp [unz]
theorem getI_enc (a c:List UInt8) (n:Nat) (hn:n≤65536):getI (a++encZ (2*n)++c) a.length=some ((n:Int),a.length+(encZ (2*n)).length):=by
 have small:∀ x:Nat,x < 256→(UInt8.ofNat x).toNat=x:=fun x hx=>by simp;omega
 have at0:∀ (x:UInt8) (l:List UInt8) (k:Nat) (m:List UInt8),m.length=k→(a++(m++x :: l)++c)[a.length+k]?=some x:=fun x l k m hk=>by
  rw [List.append_assoc,List.getElem?_append_right (by omega),Nat.add_sub_cancel_left,List.append_assoc,List.getElem?_append_right (by omega),hk,Nat.sub_self]
  rfl
 have fin:∀ (k:Nat) (q:Nat) (z:Nat),z=2*n→q=a.length+k→(some (unz z,q):Option (Int × Nat))=some ((n:Int),a.length+k):=fun k q z hz hq=>by rw [hz,unz_two,hq]
 have nn:∀ z:Nat,z=2*n→¬ unz z < -4611686018427387903:=fun z hz=>by rw [hz,unz_two];omega
 unfold getI
 by_cases h1:2*n < 128
 ·rw [encZ_one h1]
  have e0:=at0 (UInt8.ofNat (2*n)) [] 0 [] rfl
  rw [List.nil_append] at e0
  rw [getGo_at _ _ _ _ _ e0,small _ (by omega),if_neg (by omega),if_neg (by
   rintro (⟨_,h⟩ | h)
   ·omega
   ·exact nn _ (by simp;omega) h)]
  exact fin 1 _ _ (by simp;omega) rfl
 ·rw [encZ_more h1]
  have e0:(a++(UInt8.ofNat (2*n % 128+128) :: encZ (2*n / 128))++c)[a.length+0]?=some (UInt8.ofNat (2*n % 128+128)):=at0 _ _ 0 [] rfl
  rw [getGo_at _ _ _ _ _ e0,small _ (by omega),if_pos (by omega)]
  by_cases h2:2*n / 128 < 128
  ·rw [encZ_one h2] at *
   have e1:=at0 (UInt8.ofNat (2*n / 128)) [] 1 [UInt8.ofNat (2*n % 128+128)] rfl
   rw [List.singleton_append] at e1
   rw [getGo_at _ _ _ _ _ e1,small _ (by omega),if_neg (by omega),if_neg (by
    rintro (⟨h,_⟩ | h)
    ·omega
    ·exact nn _ (by simp;omega) h)]
   exact fin 2 _ _ (by simp;omega) rfl
  ·rw [encZ_more h2] at *
   have e1:(a++(UInt8.ofNat (2*n % 128+128) :: UInt8.ofNat (2*n / 128 % 128+128) :: encZ (2*n / 128 / 128))++c)[a.length+1]?=some (UInt8.ofNat (2*n / 128 % 128+128)):=at0 _ _ 1 [_] rfl
   rw [getGo_at _ _ _ _ _ e1,small _ (by omega),if_pos (by omega)]
   rw [encZ_one (by omega)] at *
   have e2:=at0 (UInt8.ofNat (2*n / 128 / 128)) [] 2 [UInt8.ofNat (2*n % 128+128),UInt8.ofNat (2*n / 128 % 128+128)] rfl
   rw [List.cons_append,List.singleton_append] at e2
   rw [getGo_at _ _ _ _ _ e2,small _ (by omega),if_neg (by omega),if_neg (by
    rintro (⟨h,_⟩ | h)
    ·omega
    ·exact nn _ (by simp;omega) h)]
   exact fin 3 _ _ (by simp;omega) rfl
theorem getS_put (a c:List UInt8) (r:ByteArray) (hr:r.size≤65536):getS (a++putS r++c) a.length=some (bts r,a.length+(putS r).length):=by
 have h:=getI_enc a (bts r++c) r.size hr
 rw [putS,show a++(encZ (2*r.size)++bts r)++c=a++encZ (2*r.size)++(bts r++c) by simp]
 unfold getS
 rw [h]
 dsimp only
 have hl:(a++encZ (2*r.size)++(bts r++c)).length=a.length+(encZ (2*r.size)).length+r.size+c.length:=by simp [bts_len];omega
 rw [if_neg (by rw [hl];omega),Int.toNat_natCast]
 have hd:((a++encZ (2*r.size)++(bts r++c)).drop (a.length+(encZ (2*r.size)).length)).take r.size=bts r:=by
  rw [List.drop_left' (by simp),List.take_left' (bts_len r)]
 rw [hd,List.length_append,bts_len,Nat.add_assoc]
theorem recL_len (h r:ByteArray):(recL h r).length=33+(putS r).length:=by simp [recL,bts_len,chainM_size];omega
theorem ldM_enc (z:Nat):∀ (l:List ByteArray) (a:List UInt8) (t:Tp) (f:Nat),(∀ r,r∈l→r.size≤65536)→t.size=a.length→l.length < f→ldM (a++encAll t.head l++List.replicate z 0) f t=some (t.adds l)
 | [],a,t,f,_,ht,hf=>by
  obtain ⟨g,rfl⟩:∃ g,f=g+1:=⟨f - 1,by simp at hf;omega⟩
  rw [ldM,encAll,List.append_nil,ht]
  cases z with
  | zero=>rw [List.replicate_zero,List.append_nil,List.getElem?_eq_none (Nat.le_refl _)];rfl
  | succ z=>rw [List.getElem?_append_right (Nat.le_refl _),Nat.sub_self];rfl
 | r :: l,a,t,f,hr,ht,hf=>by
  obtain ⟨g,rfl⟩:∃ g,f=g+1:=⟨f - 1,by simp at hf;omega⟩
  have e0:(a++encAll t.head (r :: l)++List.replicate z 0)[t.size]?=some 1:=by
   rw [encAll,recL,ht,List.append_assoc,List.getElem?_append_right (Nat.le_refl _),Nat.sub_self];rfl
  have es:a++encAll t.head (r :: l)++List.replicate z 0=(a++[1])++putS r++(bts (chainM t.head r)++(encAll (chainM t.head r) l++List.replicate z 0)):=by simp [encAll,recL]
  have e1:getS (a++encAll t.head (r :: l)++List.replicate z 0) (t.size+1)=some (bts r,a.length+1+(putS r).length):=by
   have h:=getS_put (a++[1]) (bts (chainM t.head r)++(encAll (chainM t.head r) l++List.replicate z 0)) r (hr r (by simp))
   rw [← es,List.length_append,List.length_singleton] at h
   rw [ht];exact h
  rw [ldM,e0]
  dsimp only
  rw [if_neg (by decide),if_neg (by decide),e1]
  dsimp only
  rw [str_bts,if_neg (by simp [encAll,recL,bts_len,chainM_size];omega)]
  rw [if_pos (by
   rw [ht,encAll,List.append_assoc,List.drop_left,List.append_assoc,List.take_left' (by rw [recL_len];omega)])]
  have ih:=ldM_enc z l (a++recL t.head r) (t.add r) g (fun x hx=>hr x (by simp [hx])) (by simp [Tp.add,ht]) (by simp at hf;omega)
  rw [show a++encAll t.head (r :: l)++List.replicate z 0=a++recL t.head r++encAll (t.add r).head l++List.replicate z 0 by simp [encAll,Tp.add]]
  rw [ih];rfl
theorem encAll_len (l:List ByteArray):∀ h,l.length≤(encAll h l).length:=by
 induction l with
 | nil=>intro h;exact Nat.le_refl _
 | cons r l ih=>intro h;rw [encAll,List.length_append,List.length_cons,recL_len];have:=ih (chainM h r);omega
theorem openM_enc (z:Nat) (l:List ByteArray) (h:∀ r,r∈l→r.size≤65536):openM (encAll head0 l++List.replicate z 0)=some (tp0.adds l) :=
 ldM_enc z l [] tp0 _ h rfl (by have:=encAll_len l head0;simp only [List.length_append,List.length_replicate];show l.length < (encAll head0 l).length+z+1;omega)
theorem adds_size (l:List ByteArray):∀ t:Tp,(t.adds l).size=t.size+(encAll t.head l).length:=by
 induction l with
 | nil=>intro t;rfl
 | cons r l ih=>intro t;show ((t.add r).adds l).size=_;rw [ih,encAll,List.length_append];simp only [Tp.add];omega
theorem adds_recs (l:List ByteArray):∀ t:Tp,(t.adds l).recs=t.recs++l:=by
 induction l with
 | nil=>intro t;simp [Tp.adds]
 | cons r l ih=>intro t;show ((t.add r).adds l).recs=_;rw [ih];simp [Tp.add]
def headOf (h:ByteArray) (l:List ByteArray):ByteArray:=l.foldl chainM h
theorem adds_head (l:List ByteArray):∀ t:Tp,(t.adds l).head=headOf t.head l:=by
 induction l with
 | nil=>intro t;rfl
 | cons r l ih=>intro t;show ((t.add r).adds l).head=_;rw [ih];rfl
theorem encAll_append (l m:List ByteArray):∀ h,encAll h (l++m)=encAll h l++encAll (headOf h l) m:=by
 induction l with
 | nil=>intro h;rfl
 | cons r l ih=>intro h;rw [List.cons_append,encAll,ih,encAll,List.append_assoc];rfl
theorem adds_append (l m:List ByteArray) (t:Tp):t.adds (l++m)=(t.adds l).adds m:=by simp [Tp.adds]
end
section
open Go.RowKit Go.Lib
def inB (n lo hi:Int):Bool:=decide (lo≤n) && decide (n≤hi)
theorem inB_iff {n lo hi:Int}:inB n lo hi=true↔lo≤n∧n≤hi:=by simp [inB]
theorem inB_no {n lo hi:Int}:inB n lo hi=false↔¬ (lo≤n∧n≤hi):=by rw [← inB_iff];simp
structure Nt where
 src:Int
 kind:Int
 num:Int
 lk:Int
 la:Int
 lh:Int
 cn:Int
 cf:Int
 ct:Int
 ch:Int
 ca:Int
 cb:Bool
 ek:Int
 ea:Int
 er:Int
deriving DecidableEq
def nt0:Nt:=⟨0,0,0,0,0,0,0,0,0,0,0,false,0,0,0⟩
instance:Inhabited Nt:=⟨nt0⟩
structure Bk where
 frm:Int
 to_:Int
 car:Int
structure Ev where
 kind:Int
 at_:Int
 why:Int
deriving DecidableEq
instance:Inhabited Bk:=⟨⟨0,0,0⟩⟩
instance:Inhabited Ev:=⟨⟨0,0,0⟩⟩
def bkC (x:Bk):List Value:=[.int .i64 x.frm,.int .i64 x.to_,.int .i64 x.car]
abbrev bkV (x:Bk):Value:=.agg #[.int .i64 x.frm,.int .i64 x.to_,.int .i64 x.car]
def evC (x:Ev):List Value:=[.int .i64 x.kind,.int .i64 x.at_,.int .i64 x.why]
abbrev evV (x:Ev):Value:=.agg #[.int .i64 x.kind,.int .i64 x.at_,.int .i64 x.why]
def lnB (k a h:Int):Bool:=inB k 1 7 && inB a 0 10000000 && (if k=1∨k=2 then inB h 0 63 else decide (h=-1))
def cmB (n f t h a:Int):Bool:=inB n 0 99999999 && inB f 0 7 && inB t 0 7 && decide (f≠t) && inB h 0 63 && inB a 0 10000000
def evB (a k t r:Int):Bool:=inB k 1 6 && inB t a 20000000 && (if k=2∨k=6 then inB r 1 9 else decide (r=0))
def line0 (f:Nt):Bool:=decide (f.lk=0∧f.la=0∧f.lh=0)
def claim0 (f:Nt):Bool:=decide (f.cn=0∧f.cf=0∧f.ct=0∧f.ch=0∧f.ca=0∧f.cb=false)
def event0 (f:Nt):Bool:=decide (f.ek=0∧f.ea=0∧f.er=0)
def fmN (f:Nt):Bool:=inB f.src 0 7 && inB f.num 0 99999999 &&
 (if f.kind=1 then claim0 f && event0 f && lnB f.lk f.la f.lh
  else if f.kind=2 then line0 f && event0 f && decide (f.cn=f.num) && cmB f.cn f.cf f.ct f.ch f.ca
  else if f.kind=3 then line0 f && decide (f.cn=f.num) && decide (f.ch=0) && !f.cb && cmB f.cn f.cf f.ct f.ch f.ca && evB f.ca f.ek f.ea f.er
  else false)
def numsN (f:Nt):List Int :=
 if f.kind=1 then [f.kind,f.num,f.lk,f.la,f.lh]
 else if f.kind=2 then [f.kind,f.num,f.cf,f.ct,f.ch,f.ca,if f.cb then 1 else 0]
 else [f.kind,f.num,f.cf,f.ct,f.ca,f.ek,f.ea,f.er]
def putZ (n:Int):List UInt8:=encZ (zig n)
def putA (l:List Int):List UInt8:=l.flatMap putZ
def txtN (f:Nt):List UInt8:=putA (numsN f)
def getN (s:List UInt8):Nat→Nat→Option (List Int × Nat)
 | 0,p=>some ([],p)
 | k+1,p=>match getI s p with
  | none=>none
  | some (n,q)=>match getN s k q with
   | none=>none
   | some (l,r)=>some (n :: l,r)
def mkN (src:Int) (h l:List Int):Option Nt:=match h with
 | [k,n]=>match l with
  | [a,b,c]=>if k=1 then some ⟨src,k,n,a,b,c,0,0,0,0,0,false,0,0,0⟩ else none
  | [a,b,c,d,e]=>if k=2∧(e=0∨e=1) then some ⟨src,k,n,0,0,0,n,a,b,c,d,decide (e=1),0,0,0⟩ else none
  | [a,b,c,d,e,g]=>if k≠1∧k≠2 then some ⟨src,k,n,0,0,0,n,a,b,0,c,false,d,e,g⟩ else none
  | _=>none
 | _=>none
def manyN (k:Int):Nat:=if k=1 then 3 else if k=2 then 5 else 6
def readN (src:Int) (s:List UInt8):Option Nt:=match getN s 2 0 with
 | none=>none
 | some (h,p)=>match getN s (manyN (h.getD 0 0)) p with
  | none=>none
  | some (l,q)=>match mkN src h l with
   | none=>none
   | some f=>if q=s.length∧fmN f=true then some f else none
theorem zig_bound {n:Int} (h:-4611686018427387903≤n∧n≤4611686018427387903):zig n≤9223372036854775806:=by unfold zig;split <;> omega
end
section
theorem unz_zig (n:Int):unz (zig n)=n:=by
 unfold zig
 split
 ·unfold unz;rw [if_neg (by omega)];omega
 ·unfold unz;rw [if_pos (by omega)];omega
theorem zig_unz (z:Nat):zig (unz z)=z:=by
 unfold unz
 split
 ·unfold zig;rw [if_neg (by omega)];omega
 ·unfold zig;rw [if_pos (by omega)];omega
theorem encZ_pos (z:Nat):0 < (encZ z).length:=by
 by_cases h:z < 128
 ·rw [encZ_one h];simp
 ·rw [encZ_more h];simp
theorem encZ_lenK:∀ (k z:Nat),z < 2 ^ (7*(k+1))→(encZ z).length≤k+1
 | 0,z,h=>by rw [encZ_one (by simpa using h)];simp
 | k+1,z,h=>by
  by_cases h1:z < 128
  ·rw [encZ_one h1];simp
  ·rw [encZ_more h1]
   have h2:z / 128 < 2 ^ (7*(k+1)):=by
    rw [Nat.div_lt_iff_lt_mul (by omega)]
    rw [show 7*(k+1+1)=7*(k+1)+7 by omega,Nat.pow_add] at h
    exact h
   have:=encZ_lenK k _ h2
   simp only [List.length_cons];omega
theorem pow_step (z r q t i:Nat) (ht:t=2 ^ (7*i)):z+r*t+q*2 ^ (7*(i+1))=z+(128*q+r)*t:=by
 rw [show 7*(i+1)=7*i+7 by omega,Nat.pow_add,← ht,Nat.add_mul,show q*(t*2 ^ 7)=128*q*t by rw [Nat.mul_comm t,← Nat.mul_assoc,Nat.mul_comm q]]
 omega
theorem drop_head {s:List UInt8} {k:Nat} {b:UInt8} {c:List UInt8} (h:s.drop k=b :: c):s[k]?=some b∧s.drop (k+1)=c:=by
 constructor
 ·have:=congrArg (·[0]?) h
  simpa [List.getElem?_drop] using this
 ·have:=congrArg (List.drop 1) h
  simpa [List.drop_drop] using this
theorem getG_at (s:List UInt8) (p f i z:Nat) {b:UInt8} (h:s[p+i]?=some b):getGo s p (f+1) i z =
  if 128≤b.toNat then getGo s p f (i+1) (z+b.toNat % 128*2 ^ (7*i))
  else if (b.toNat=0∧0 < i)∨unz (z+b.toNat % 128*2 ^ (7*i)) < -4611686018427387903 then none
  else some (unz (z+b.toNat % 128*2 ^ (7*i)),p+i+1):=by rw [getGo,h]
theorem getGo_enc (s:List UInt8) (p:Nat):∀ (f i z y:Nat) (c:List UInt8),s.drop (p+i)=encZ y++c→(encZ y).length≤f→(0 < i→0 < y)→-4611686018427387903≤unz (z+y*2 ^ (7*i))→getGo s p f i z=some (unz (z+y*2 ^ (7*i)),p+i+(encZ y).length)
 | 0,_,_,y,_,_,hf,_,_=>by have:=encZ_pos y;omega
 | f+1,i,z,y,c,h,hf,h0,hb=>by
  by_cases h1:y < 128
  ·rw [encZ_one h1] at h ⊢
   have hs:=(drop_head (show _=UInt8.ofNat y :: c from h)).1
   have ht:(UInt8.ofNat y).toNat=y:=by simp;omega
   rw [getG_at s p f i z hs,ht,if_neg (by omega),Nat.mod_eq_of_lt h1,if_neg (by rintro (⟨ha,hi⟩ | hc);have:=h0 hi;omega;omega)]
   rfl
  ·rw [encZ_more h1] at h hf ⊢
   obtain ⟨hs,hd⟩:=drop_head (show _=UInt8.ofNat (y % 128+128) :: (encZ (y / 128)++c) from h)
   have ht:(UInt8.ofNat (y % 128+128)).toNat=y % 128+128:=by simp;omega
   have hz:z+y % 128*2 ^ (7*i)+y / 128*2 ^ (7*(i+1))=z+y*2 ^ (7*i):=by
    rw [pow_step z (y % 128) (y / 128) _ i rfl,Nat.div_add_mod]
   have:=getGo_enc s p f (i+1) (z+y % 128*2 ^ (7*i)) (y / 128) c (by rw [← Nat.add_assoc];exact hd) (by simp only [List.length_cons] at hf;omega) (fun _=>by omega) (by rw [hz];exact hb)
   rw [getG_at s p f i z hs,ht,if_pos (by omega),show (y % 128+128) % 128=y % 128 by omega,this,hz]
   simp only [List.length_cons]
   congr 2
   omega
def okI (n:Int):Prop:=-4611686018427387903≤n∧n≤4611686018427387903
theorem getI_put {s:List UInt8} {p:Nat} {n:Int} {c:List UInt8} (h:s.drop p=putZ n++c) (hn:okI n):getI s p=some (n,p+(putZ n).length):=by
 have hz:=zig_bound hn
 have:=getGo_enc s p 9 0 0 (zig n) c (by rw [Nat.add_zero];exact h) (encZ_lenK 8 _ (by omega)) (by omega) (by simp only [Nat.mul_zero,Nat.pow_zero,Nat.mul_one,Nat.zero_add,unz_zig];exact hn.1)
 simpa [getI,putZ,unz_zig] using this
theorem getN_put:∀ (l:List Int) (s:List UInt8) (p:Nat) (c:List UInt8),s.drop p=putA l++c→(∀ n,n∈l→okI n)→getN s l.length p=some (l,p+(putA l).length)
 | [],s,p,c,_,_=>rfl
 | n :: l,s,p,c,h,hn=>by
  have e:putA (n :: l)=putZ n++putA l:=rfl
  rw [e,List.append_assoc] at h
  have h1:=getI_put h (hn n List.mem_cons_self)
  have h2:s.drop (p+(putZ n).length)=putA l++c:=by
   have:=congrArg (List.drop (putZ n).length) h
   simpa [List.drop_drop] using this
  have h3:=getN_put l s _ c h2 (fun x hx=>hn x (List.mem_cons_of_mem _ hx))
  rw [e]
  simp only [List.length_cons,getN,h1,h3,List.length_append,Nat.add_assoc]
theorem getGo_sound (s:List UInt8) (p:Nat):∀ (f i z:Nat) (n:Int) (q:Nat),getGo s p f i z=some (n,q)→∃ y,(0 < i→0 < y)∧n=unz (z+y*2 ^ (7*i))∧s.drop (p+i)=encZ y++s.drop q∧-4611686018427387903≤n∧q≤s.length
 | 0,_,_,_,_,h=>by simp [getGo] at h
 | f+1,i,z,n,q,h=>by
  cases hb:s[p+i]? with
  | none=>rw [getGo,hb] at h;cases h
  | some b =>
   have hlt:=(List.getElem?_eq_some_iff.1 hb).1
   have hcons:s.drop (p+i)=b :: s.drop (p+i+1):=by
    rw [List.drop_eq_getElem_cons hlt,(List.getElem?_eq_some_iff.1 hb).2]
   rw [getG_at s p f i z hb] at h
   by_cases h1:128≤b.toNat
   ·rw [if_pos h1] at h
    obtain ⟨y,hy0,hn,hd,hbd,hq⟩:=getGo_sound s p f (i+1) _ n q h
    have hy:=hy0 (by omega)
    have hlt8:=b.toNat_lt
    refine ⟨128*y+b.toNat % 128,fun _=>by omega,?_,?_,hbd,hq⟩
    ·rw [hn,pow_step _ _ _ _ i rfl]
    ·rw [encZ_more (by omega),show (128*y+b.toNat % 128) / 128=y by omega,show (128*y+b.toNat % 128) % 128+128=b.toNat by omega,UInt8.ofNat_toNat,hcons,List.cons_append,← hd]
     rfl
   ·rw [if_neg h1] at h
    split at h
    ·cases h
    ·rename_i hc
     simp only [Option.some.injEq,Prod.mk.injEq] at h
     obtain ⟨rfl,rfl⟩:=h
     have hm:b.toNat % 128=b.toNat:=Nat.mod_eq_of_lt (by omega)
     rw [hm] at hc ⊢
     refine ⟨b.toNat,fun hi=>?_,rfl,?_,by omega,by omega⟩
     ·rcases Nat.eq_zero_or_pos b.toNat with h0 | h0
      ·exact absurd (.inl ⟨h0,hi⟩) hc
      ·exact h0
     ·rw [encZ_one (by omega),UInt8.ofNat_toNat,hcons]
      rfl
theorem getI_sound {s:List UInt8} {p:Nat} {n:Int} {q:Nat} (h:getI s p=some (n,q)):s.drop p=putZ n++s.drop q∧q≤s.length:=by
 obtain ⟨y,_,hn,hd,_,hq⟩:=getGo_sound s p 9 0 0 n q h
 simp only [Nat.mul_zero,Nat.pow_zero,Nat.mul_one,Nat.zero_add,Nat.add_zero] at hn hd
 refine ⟨?_,hq⟩
 rw [hd,putZ,hn,zig_unz]
theorem getN_sound:∀ (k:Nat) {s:List UInt8} {p:Nat} {l:List Int} {q:Nat},p≤s.length→getN s k p=some (l,q)→l.length=k∧s.drop p=putA l++s.drop q∧q≤s.length
 | 0,s,p,l,q,hp,h=>by
  simp only [getN,Option.some.injEq,Prod.mk.injEq] at h
  obtain ⟨rfl,rfl⟩:=h
  exact ⟨rfl,rfl,hp⟩
 | k+1,s,p,l,q,hp,h=>by
  cases h1:getI s p with
  | none=>simp [getN,h1] at h
  | some r =>
   obtain ⟨n,p2⟩:=r
   obtain ⟨e1,hp2⟩:=getI_sound h1
   cases h2:getN s k p2 with
   | none=>simp [getN,h1,h2] at h
   | some r =>
    obtain ⟨m,p3⟩:=r
    obtain ⟨e2,e3,hp3⟩:=getN_sound k hp2 h2
    simp only [getN,h1,h2,Option.some.injEq,Prod.mk.injEq] at h
    obtain ⟨rfl,rfl⟩:=h
    exact ⟨by simp [e2],by rw [e1,e3];simp [putA],hp3⟩
end
section
theorem putA_app (a b:List Int):putA (a++b)=putA a++putA b:=by simp [putA]
theorem readN_of {src:Int} {s:List UInt8} {h l:List Int} {f:Nt} (hs:s=putA h++putA l) (hh:h.length=2) (hl:l.length=manyN (h.getD 0 0)) (ok:∀ n,n∈h++l→okI n) (hm:mkN src h l=some f) (hf:fmN f=true):readN src s=some f:=by
 have h1:=getN_put h s 0 (putA l) (by rw [List.drop_zero];exact hs) (fun n hn=>ok n (List.mem_append_left _ hn))
 have h2:=getN_put l s (0+(putA h).length) [] (by rw [hs,Nat.zero_add,List.drop_left,List.append_nil]) (fun n hn=>ok n (List.mem_append_right _ hn))
 rw [hh] at h1
 rw [hl] at h2
 unfold readN
 simp only [h1,h2,hm]
 rw [if_pos ⟨by rw [hs,List.length_append];omega,hf⟩]
theorem getN_len:∀ (k:Nat) {s:List UInt8} {p:Nat} {l:List Int} {q:Nat},getN s k p=some (l,q)→l.length=k
 | 0,s,p,l,q,h=>by
  simp only [getN,Option.some.injEq,Prod.mk.injEq] at h
  rw [← h.1];rfl
 | k+1,s,p,l,q,h=>by
  cases h1:getI s p with
  | none=>simp [getN,h1] at h
  | some r =>
   cases h2:getN s k r.2 with
   | none=>simp [getN,h1,h2] at h
   | some m =>
    simp only [getN,h1,h2,Option.some.injEq,Prod.mk.injEq] at h
    rw [← h.1]
    simp [getN_len k h2]
theorem mkN_nums {src:Int} {h l:List Int} {f:Nt} (hm:mkN src h l=some f):f.src=src∧numsN f=h++l∧h.getD 0 0=f.kind:=by
 unfold mkN at hm
 split at hm
 ·split at hm
  ·split at hm
   ·rename_i hk
    simp only [Option.some.injEq] at hm
    subst hm hk
    exact ⟨rfl,rfl,rfl⟩
   ·cases hm
  ·split at hm
   ·rename_i hk
    obtain ⟨hk,he⟩:=hk
    simp only [Option.some.injEq] at hm
    subst hm hk
    refine ⟨rfl,?_,rfl⟩
    rcases he with rfl | rfl <;> rfl
   ·cases hm
  ·split at hm
   ·rename_i hk
    simp only [Option.some.injEq] at hm
    subst hm
    refine ⟨rfl,?_,rfl⟩
    unfold numsN
    rw [if_neg hk.1,if_neg hk.2]
    rfl
   ·cases hm
  ·cases hm
 ·cases hm
theorem readN_sound {src:Int} {s:List UInt8} {f:Nt} (h:readN src s=some f):f.src=src∧fmN f=true∧s=txtN f:=by
 unfold readN at h
 cases h1:getN s 2 0 with
 | none=>simp [h1] at h
 | some r =>
  obtain ⟨hd,p⟩:=r
  cases h2:getN s (manyN (hd.getD 0 0)) p with
  | none=>simp only [h1,h2] at h;cases h
  | some r =>
   obtain ⟨l,q⟩:=r
   cases hm:mkN src hd l with
   | none=>simp only [h1,h2,hm] at h;cases h
   | some g =>
    simp only [h1,h2,hm] at h
    split at h
    ·rename_i hc
     simp only [Option.some.injEq] at h
     subst h
     obtain ⟨e1,e2,hp⟩:=getN_sound 2 (Nat.zero_le _) h1
     obtain ⟨e3,e4,_⟩:=getN_sound _ hp h2
     obtain ⟨a1,a2,_⟩:=mkN_nums hm
     refine ⟨a1,hc.2,?_⟩
     rw [List.drop_zero] at e2
     rw [hc.1,List.drop_length,List.append_nil] at e4
     rw [e2,e4,txtN,a2,putA_app]
    ·cases h
theorem fmN_kind {f:Nt} (h:fmN f=true):f.kind=1∨f.kind=2∨f.kind=3:=by
 unfold fmN at h
 by_cases h1:f.kind=1
 ·exact .inl h1
 ·by_cases h2:f.kind=2
  ·exact .inr (.inl h2)
  ·by_cases h3:f.kind=3
   ·exact .inr (.inr h3)
   ·rw [if_neg h1,if_neg h2,if_neg h3,Bool.and_false] at h;cases h
theorem fm_line {f:Nt} (h:fmN f=true) (k:f.kind=1):∃ s n a b c,f=⟨s,1,n,a,b,c,0,0,0,0,0,false,0,0,0⟩∧(0≤s∧s≤7)∧(0≤n∧n≤99999999)∧(1≤a∧a≤7)∧(0≤b∧b≤10000000)∧(-1≤c∧c≤63):=by
 obtain ⟨s,kd,n,a,b,c,d,e,g,i,j,m,o,p,q⟩:=f
 simp only at k
 subst k
 simp only [fmN,if_true,claim0,event0,lnB,Bool.and_eq_true,decide_eq_true_eq,inB_iff] at h
 obtain ⟨⟨h1,h2⟩,⟨⟨rfl,rfl,rfl,rfl,rfl,rfl⟩,rfl,rfl,rfl⟩,⟨h3,h4⟩,h5⟩:=h
 refine ⟨s,n,a,b,c,rfl,h1,h2,h3,h4,?_⟩
 split at h5
 ·rw [inB_iff] at h5;omega
 ·simp only [decide_eq_true_eq] at h5;omega
theorem fm_claim {f:Nt} (h:fmN f=true) (k:f.kind=2):∃ s n a b c d e,f=⟨s,2,n,0,0,0,n,a,b,c,d,e,0,0,0⟩∧(0≤s∧s≤7)∧(0≤n∧n≤99999999)∧(0≤a∧a≤7)∧(0≤b∧b≤7)∧a≠b∧(0≤c∧c≤63)∧(0≤d∧d≤10000000):=by
 obtain ⟨s,kd,n,a,b,c,d,e,g,i,j,m,o,p,q⟩:=f
 simp only at k
 subst k
 simp only [fmN,if_true,line0,event0,cmB,Bool.and_eq_true,decide_eq_true_eq,inB_iff,show ¬ ((2:Int)=1) by decide,if_false] at h
 obtain ⟨⟨h1,h2⟩,⟨⟨⟨⟨rfl,rfl,rfl⟩,rfl,rfl,rfl⟩,rfl⟩,⟨⟨⟨⟨⟨_,h4⟩,h5⟩,h6⟩,h7⟩,h8⟩⟩⟩:=h
 exact ⟨s,d,e,g,i,j,m,rfl,h1,h2,h4,h5,h6,h7,h8⟩
theorem fm_event {f:Nt} (h:fmN f=true) (k:f.kind=3):∃ s n a b d x t r,f=⟨s,3,n,0,0,0,n,a,b,0,d,false,x,t,r⟩∧(0≤s∧s≤7)∧(0≤n∧n≤99999999)∧(0≤a∧a≤7)∧(0≤b∧b≤7)∧a≠b∧(0≤d∧d≤10000000)∧(1≤x∧x≤6)∧(d≤t∧t≤20000000)∧(0≤r∧r≤9):=by
 obtain ⟨s,kd,n,a,b,c,d,e,g,i,j,m,o,p,q⟩:=f
 simp only at k
 subst k
 simp only [fmN,if_true,line0,evB,cmB,Bool.and_eq_true,decide_eq_true_eq,inB_iff,show ¬ ((3:Int)=1) by decide,show ¬ ((3:Int)=2) by decide,if_false,Bool.not_eq_true'] at h
 obtain ⟨⟨h1,h2⟩,⟨⟨⟨⟨⟨⟨rfl,rfl,rfl⟩,rfl⟩,rfl⟩,rfl⟩,⟨⟨⟨⟨⟨_,h4⟩,h5⟩,h6⟩,_⟩,h8⟩⟩,⟨h9,h10⟩,h11⟩⟩:=h
 refine ⟨s,d,e,g,j,o,p,q,rfl,h1,h2,h4,h5,h6,h8,h9,h10,?_⟩
 split at h11
 ·rw [inB_iff] at h11;omega
 ·simp only [decide_eq_true_eq] at h11;omega
theorem readN_txt {f:Nt} (h:fmN f=true):readN f.src (txtN f)=some f:=by
 rcases fmN_kind h with k | k | k
 ·obtain ⟨s,n,a,b,c,rfl,h1,h2,h3,h4,h5⟩:=fm_line h k
  refine readN_of (h:=[1,n]) (l:=[a,b,c]) (putA_app [1,n] [a,b,c]) rfl rfl (fun x hx=>?_) rfl h
  simp only [List.cons_append,List.nil_append,List.mem_cons,List.not_mem_nil,or_false] at hx
  unfold okI;omega
 ·obtain ⟨s,n,a,b,c,d,e,rfl,h1,h2,h3,h4,_,h5,h6⟩:=fm_claim h k
  refine readN_of (h:=[2,n]) (l:=[a,b,c,d,if e then 1 else 0]) (putA_app [2,n] _) rfl rfl (fun x hx=>?_) (by cases e <;> rfl) h
  have he:(if e=true then (1:Int) else 0)=1∨(if e=true then (1:Int) else 0)=0:=by cases e <;> simp
  simp only [List.cons_append,List.nil_append,List.mem_cons,List.not_mem_nil,or_false] at hx
  unfold okI;omega
 ·obtain ⟨s,n,a,b,d,x,t,r,rfl,h1,h2,h3,h4,_,h5,h6,h7,h8⟩:=fm_event h k
  refine readN_of (h:=[3,n]) (l:=[a,b,d,x,t,r]) (putA_app [3,n] _) rfl rfl (fun x hx=>?_) rfl h
  simp only [List.cons_append,List.nil_append,List.mem_cons,List.not_mem_nil,or_false] at hx
  unfold okI;omega
theorem fmN_src {f:Nt} (h:fmN f=true) {o:Int} (ho:0≤o∧o≤7):fmN { f with src:=o }=true∧txtN { f with src:=o }=txtN f:=by
 refine ⟨?_,rfl⟩
 unfold fmN at h ⊢
 have:=inB_iff.2 ho
 simp only [Bool.and_eq_true] at h ⊢
 exact ⟨⟨this,h.1.2⟩,h.2⟩
end
section
open Go.RowKit Go.Lib
theorem caIsWithin_c (n lo hi:Int) (w:World):Calls Tryz.prog 34 #[.int .i64 n,.int .i64 lo,.int .i64 hi] w fun e w'=>e=.returned (.bool (inB n lo hi))∧w=w':=by
 unfold inB
 by_cases h:lo≤n
 ·go_enter Tryz.func34,Tryz.ntmps34
  go_wp2
  go_ret
  exact ⟨by simp [h],rfl⟩
 ·go_enter Tryz.func34,Tryz.ntmps34
  go_wp2
  go_ret
  exact ⟨by simp [show ¬ lo≤n by omega],rfl⟩
theorem clIsIn_c (n lo hi:Int) (w:World):Calls Tryz.prog 113 #[.int .i64 n,.int .i64 lo,.int .i64 hi] w fun e w'=>e=.returned (.bool (inB n lo hi))∧w=w':=by
 unfold inB
 by_cases h:lo≤n
 ·go_enter Tryz.func113,Tryz.ntmps113
  go_wp2
  go_ret
  exact ⟨by simp [h],rfl⟩
 ·go_enter Tryz.func113,Tryz.ntmps113
  go_wp2
  go_ret
  exact ⟨by simp [show ¬ lo≤n by omega],rfl⟩
theorem lfIsIn_c (n lo hi:Int) (w:World):Calls Tryz.prog 115 #[.int .i64 n,.int .i64 lo,.int .i64 hi] w fun e w'=>e=.returned (.bool (inB n lo hi))∧w=w':=by
 unfold inB
 by_cases h:lo≤n
 ·go_enter Tryz.func115,Tryz.ntmps115
  go_wp2
  go_ret
  exact ⟨by simp [h],rfl⟩
 ·go_enter Tryz.func115,Tryz.ntmps115
  go_wp2
  go_ret
  exact ⟨by simp [show ¬ lo≤n by omega],rfl⟩
theorem lkIsIn_c (n lo hi:Int) (w:World):Calls Tryz.prog 80 #[.int .i64 n,.int .i64 lo,.int .i64 hi] w fun e w'=>e=.returned (.bool (inB n lo hi))∧w=w':=by
 unfold inB
 by_cases h:lo≤n
 ·go_enter Tryz.func80,Tryz.ntmps80
  go_wp2
  go_ret
  exact ⟨by simp [h],rfl⟩
 ·go_enter Tryz.func80,Tryz.ntmps80
  go_wp2
  go_ret
  exact ⟨by simp [show ¬ lo≤n by omega],rfl⟩
theorem chIsIn_c (n lo hi:Int) (w:World):Calls Tryz.prog 104 #[.int .i64 n,.int .i64 lo,.int .i64 hi] w fun e w'=>e=.returned (.bool (inB n lo hi))∧w=w':=by
 unfold inB
 by_cases h:lo≤n
 ·go_enter Tryz.func104,Tryz.ntmps104
  go_wp2
  go_ret
  exact ⟨by simp [h],rfl⟩
 ·go_enter Tryz.func104,Tryz.ntmps104
  go_wp2
  go_ret
  exact ⟨by simp [show ¬ lo≤n by omega],rfl⟩
theorem set3c {w:World} {b:Nat} {e:TypeId} {a0 a1 a2:Value} (h:w.heap[b]?=some (.cells #[a0,a1,a2] e (0,0))) (u0 u1 u2:Value) :
  (((w.setCell ⟨b,0,none⟩ u0).setCell ⟨b,1,none⟩ u1).setCell ⟨b,2,none⟩ u2).heap[b]?=some (.cells #[u0,u1,u2] e (0,0))∧Fr [b] w (((w.setCell ⟨b,0,none⟩ u0).setCell ⟨b,1,none⟩ u1).setCell ⟨b,2,none⟩ u2) :=
 ⟨qs (i:=2) _ (qs (i:=1) _ (qs (i:=0) _ h)),((Fr.setCell _ _ (by simp)).trans (Fr.setCell _ _ (by simp))).trans (Fr.setCell _ _ (by simp))⟩
theorem two_more (w:World) (x y:Obj):Fr [] w ((w.alloc x).alloc y)∧((w.alloc x).alloc y).heap[w.heap.size]?=some x∧((w.alloc x).alloc y).heap[w.heap.size+1]?=some y:=by
 have h:=qm (w.alloc x) y
 rw [World.size_alloc] at h
 exact ⟨(Fr.alloc _ _ _).trans (Fr.alloc _ _ _),heap_alloc_old y (qm w x),h⟩
end
section
open Go.RowKit Go.Lib
def idxN (p:Nat→Bool) (n:Nat):Int:=match (List.range n).find? p with | some k=>k | none=>-1
def anyN (p:Nat→Bool) (n:Nat):Bool:=(List.range n).any p
theorem idxN_some {p:Nat→Bool} {n k:Nat} (hk:k < n) (h1:p k=true) (h0:∀ j,j < k→p j=false):idxN p n=k:=by
 have:(List.range n).find? p=some k:=by
  rw [List.find?_range_eq_some]
  exact ⟨h1,by simpa using hk,fun j hj=>by simp [h0 j hj]⟩
 simp [idxN,this]
theorem idxN_none {p:Nat→Bool} {n:Nat} (h0:∀ j,j < n→p j=false):idxN p n=-1:=by
 have:(List.range n).find? p=none:=List.find?_eq_none.2 fun j hj=>by simp [h0 j (by simpa using hj)]
 simp [idxN,this]
theorem idxN_ge (p:Nat→Bool) (n:Nat):decide ((0:Int)≤idxN p n)=anyN p n:=by
 cases h:anyN p n with
 | true =>
  obtain ⟨k,hk,hp⟩:=List.any_eq_true.1 h
  unfold idxN
  cases hf:(List.range n).find? p with
  | none=>exact absurd hp (by simpa using List.find?_eq_none.1 hf k hk)
  | some j=>simp
 | false =>
  rw [idxN_none fun j hj=>by simpa using List.any_eq_false.1 h j (by simpa using hj)]
  rfl
theorem anyN_succ (p:Nat→Bool) (n:Nat):anyN p (n+1)=(p 0 || anyN (fun k=>p (k+1)) n):=by
 unfold anyN
 rw [List.range_succ_eq_map,List.any_cons,List.any_map]
 rfl
def Steps (f:Nat) (lb:Array Value) (n:Nat) (elem:Nat→Value) (p:Nat→Bool) (J:Nat→World→Prop):Prop :=
 ∀ k W,k < n→(∀ j,j < k→p j=false)→J k W→Calls Tryz.prog f (#[elem k]++lb) W fun e W'=>e=.returned (.bool (p k))∧J (k+1) W'
set_option maxRecDepth 100000 in
set_option maxHeartbeats 1000000 in
theorem ifBk_c (f:Nat) (lb:Array Value) (eg:∀ args w,(callFunc f args).run Tryz.prog w=.ok (.enter f args) w) (a:Option Addr) (cap:Nat) (zs:List Bk) (p:Nat→Bool) (J:Nat→World→Prop) (w:World)
  (hsl:∀ k W,J k W→Sl W (.slice a zs.length cap) zs.length (zs.flatMap bkC)) (hst:Steps f lb zs.length (fun k=>bkV (zs.getD k default)) p J) (h0:J 0 w) :
  Calls Tryz.prog 97 #[.slice a zs.length cap,.func (.func f) #[] lb] w fun e w'=>e=.returned (.int .i64 (idxN p zs.length))∧∃ k,J k w':=by
 have hlen:=(hsl 0 w h0).len
 have HSL:=qj hsl;have HST:=qj hst;have H0:=qj h0
 clear hsl hst h0
 go_enter Tryz.func97,Tryz.ntmps97
 go_wp2_with fail
 go_loopw [8] (fun i wr=>∃ k:Nat,k≤zs.length∧i=.int .i64 k∧Hid (J k wr)∧Hid (∀ j,j < k→p j=false)) (fun i _=>zs.length - (RowKit.intOf i).toNat)
 case atStart=>exact ⟨0,Nat.zero_le _,rfl,H0,qj fun j h=>by omega⟩
 case round =>
  obtain ⟨k,hk,rfl,HJ,HP⟩:=hrel
  by_cases hlt:k < zs.length
  ·obtain ⟨b,off,ha,hc⟩:=(HSL.out k wr HJ.out).at_ (by omega)
   subst ha
   have c0:=hc (k*3+0) _ ((flat_get (enc:=bkC) (k:=3) (fun _=>rfl) zs k hlt 0 (by omega)).trans rfl)
   have c1:=hc (k*3+1) _ ((flat_get (enc:=bkC) (k:=3) (fun _=>rfl) zs k hlt 1 (by omega)).trans rfl)
   have c2:=hc (k*3+2) _ ((flat_get (enc:=bkC) (k:=3) (fun _=>rfl) zs k hlt 2 (by omega)).trans rfl)
   have hs:=HST.out k wr hlt HP.out HJ.out
   simp only at hs
   rw [show zs.getD k default=zs[k] by simp [hlt]] at hs
   generalize zs[k]=x at *
   obtain ⟨x0,x1,x2⟩:=x
   simp only [Nat.add_zero] at hs c0 c1 c2
   simp only [← Nat.add_assoc] at c0 c1 c2
   clear hc
   cases hb:p k with
   | true =>
    rw [hb] at hs
    have HS:=qj hs;have Hb:=qj hb;clear hs hb
    go_wp2_with fail
    refine HS.out.mono ?_
    rintro e w1 ⟨rfl,j1⟩
    have J1:=qj j1;clear j1
    go_wp2_with fail
    go_ret
    exact ⟨by rw [idxN_some hlt Hb.out HP.out];rfl,k+1,J1.out⟩
   | false =>
    rw [hb] at hs
    have HS:=qj hs;have Hb:=qj hb;clear hs hb
    go_wp2_with fail
    refine HS.out.mono ?_
    rintro e w1 ⟨rfl,j1⟩
    have J1:=qj j1;clear j1
    go_wp2_with fail
    go_roundw
    case rel=>exact ⟨k+1,by omega,by go_num,J1,qj fun j h=>by
     rcases Nat.lt_or_ge j k with h1 | h1
     ·exact HP.out j h1
     ·obtain rfl:j=k:=by omega
      exact Hb.out⟩
    case measure=>simp [RowKit.intOf];omega
  ·obtain rfl:k=zs.length:=by omega
   go_wp2_with fail
   go_ret
   exact ⟨by rw [idxN_none HP.out];rfl,_,HJ.out⟩
theorem cfBk_c (f:Nat) (lb:Array Value) (eg:∀ args w,(callFunc f args).run Tryz.prog w=.ok (.enter f args) w) (a:Option Addr) (cap:Nat) (zs:List Bk) (p:Nat→Bool) (J:Nat→World→Prop) (w:World)
  (hsl:∀ k W,J k W→Sl W (.slice a zs.length cap) zs.length (zs.flatMap bkC)) (hst:Steps f lb zs.length (fun k=>bkV (zs.getD k default)) p J) (h0:J 0 w) :
  Calls Tryz.prog 65 #[.slice a zs.length cap,.func (.func f) #[] lb] w fun e w'=>e=.returned (.bool (anyN p zs.length))∧∃ k,J k w':=by
 have c:=qj (ifBk_c f lb eg a cap zs p J w hsl hst h0)
 clear hsl hst h0 eg
 rw [← idxN_ge]
 generalize idxN p zs.length=r at *
 go_enter Tryz.func65,Tryz.ntmps65
 go_wp2_with (go_at_call 97;refine c.out.mono ?_;rintro e w1 ⟨rfl,h1⟩;have H1:=qj h1;clear h1)
 go_ret
 exact ⟨rfl,H1.out⟩
set_option maxRecDepth 100000 in
set_option maxHeartbeats 1000000 in
theorem ifEv_c (f:Nat) (lb:Array Value) (eg:∀ args w,(callFunc f args).run Tryz.prog w=.ok (.enter f args) w) (a:Option Addr) (cap:Nat) (zs:List Ev) (p:Nat→Bool) (J:Nat→World→Prop) (w:World)
  (hsl:∀ k W,J k W→Sl W (.slice a zs.length cap) zs.length (zs.flatMap evC)) (hst:Steps f lb zs.length (fun k=>evV (zs.getD k default)) p J) (h0:J 0 w) :
  Calls Tryz.prog 160 #[.slice a zs.length cap,.func (.func f) #[] lb] w fun e w'=>e=.returned (.int .i64 (idxN p zs.length))∧∃ k,J k w':=by
 have hlen:=(hsl 0 w h0).len
 have HSL:=qj hsl;have HST:=qj hst;have H0:=qj h0
 clear hsl hst h0
 go_enter Tryz.func160,Tryz.ntmps160
 go_wp2_with fail
 go_loopw [8] (fun i wr=>∃ k:Nat,k≤zs.length∧i=.int .i64 k∧Hid (J k wr)∧Hid (∀ j,j < k→p j=false)) (fun i _=>zs.length - (RowKit.intOf i).toNat)
 case atStart=>exact ⟨0,Nat.zero_le _,rfl,H0,qj fun j h=>by omega⟩
 case round =>
  obtain ⟨k,hk,rfl,HJ,HP⟩:=hrel
  by_cases hlt:k < zs.length
  ·obtain ⟨b,off,ha,hc⟩:=(HSL.out k wr HJ.out).at_ (by omega)
   subst ha
   have c0:=hc (k*3+0) _ ((flat_get (enc:=evC) (k:=3) (fun _=>rfl) zs k hlt 0 (by omega)).trans rfl)
   have c1:=hc (k*3+1) _ ((flat_get (enc:=evC) (k:=3) (fun _=>rfl) zs k hlt 1 (by omega)).trans rfl)
   have c2:=hc (k*3+2) _ ((flat_get (enc:=evC) (k:=3) (fun _=>rfl) zs k hlt 2 (by omega)).trans rfl)
   have hs:=HST.out k wr hlt HP.out HJ.out
   simp only at hs
   rw [show zs.getD k default=zs[k] by simp [hlt]] at hs
   generalize zs[k]=x at *
   obtain ⟨x0,x1,x2⟩:=x
   simp only [Nat.add_zero] at hs c0 c1 c2
   simp only [← Nat.add_assoc] at c0 c1 c2
   clear hc
   cases hb:p k with
   | true =>
    rw [hb] at hs
    have HS:=qj hs;have Hb:=qj hb;clear hs hb
    go_wp2_with fail
    refine HS.out.mono ?_
    rintro e w1 ⟨rfl,j1⟩
    have J1:=qj j1;clear j1
    go_wp2_with fail
    go_ret
    exact ⟨by rw [idxN_some hlt Hb.out HP.out];rfl,k+1,J1.out⟩
   | false =>
    rw [hb] at hs
    have HS:=qj hs;have Hb:=qj hb;clear hs hb
    go_wp2_with fail
    refine HS.out.mono ?_
    rintro e w1 ⟨rfl,j1⟩
    have J1:=qj j1;clear j1
    go_wp2_with fail
    go_roundw
    case rel=>exact ⟨k+1,by omega,by go_num,J1,qj fun j h=>by
     rcases Nat.lt_or_ge j k with h1 | h1
     ·exact HP.out j h1
     ·obtain rfl:j=k:=by omega
      exact Hb.out⟩
    case measure=>simp [RowKit.intOf];omega
  ·obtain rfl:k=zs.length:=by omega
   go_wp2_with fail
   go_ret
   exact ⟨by rw [idxN_none HP.out];rfl,_,HJ.out⟩
theorem cfEv_c (f:Nat) (lb:Array Value) (eg:∀ args w,(callFunc f args).run Tryz.prog w=.ok (.enter f args) w) (a:Option Addr) (cap:Nat) (zs:List Ev) (p:Nat→Bool) (J:Nat→World→Prop) (w:World)
  (hsl:∀ k W,J k W→Sl W (.slice a zs.length cap) zs.length (zs.flatMap evC)) (hst:Steps f lb zs.length (fun k=>evV (zs.getD k default)) p J) (h0:J 0 w) :
  Calls Tryz.prog 114 #[.slice a zs.length cap,.func (.func f) #[] lb] w fun e w'=>e=.returned (.bool (anyN p zs.length))∧∃ k,J k w':=by
 have c:=qj (ifEv_c f lb eg a cap zs p J w hsl hst h0)
 clear hsl hst h0 eg
 rw [← idxN_ge]
 generalize idxN p zs.length=r at *
 go_enter Tryz.func114,Tryz.ntmps114
 go_wp2_with (go_at_call 160;refine c.out.mono ?_;rintro e w1 ⟨rfl,h1⟩;have H1:=qj h1;clear h1)
 go_ret
 exact ⟨rfl,H1.out⟩
set_option maxRecDepth 100000 in
set_option maxHeartbeats 1000000 in
theorem ifSt_c (f:Nat) (lb:Array Value) (eg:∀ args w,(callFunc f args).run Tryz.prog w=.ok (.enter f args) w) (a:Option Addr) (cap:Nat) (zs:List ByteArray) (p:Nat→Bool) (J:Nat→World→Prop) (w:World)
  (hsl:∀ k W,J k W→Sl W (.slice a zs.length cap) zs.length (zs.map Value.string)) (hst:Steps f lb zs.length (fun k=>Value.string (zs.getD k ByteArray.empty)) p J) (h0:J 0 w) :
  Calls Tryz.prog 106 #[.slice a zs.length cap,.func (.func f) #[] lb] w fun e w'=>e=.returned (.int .i64 (idxN p zs.length))∧∃ k,J k w':=by
 have hlen:=(hsl 0 w h0).len
 have HSL:=qj hsl;have HST:=qj hst;have H0:=qj h0
 clear hsl hst h0
 go_enter Tryz.func106,Tryz.ntmps106
 go_wp2_with fail
 go_loopw [8] (fun i wr=>∃ k:Nat,k≤zs.length∧i=.int .i64 k∧Hid (J k wr)∧Hid (∀ j,j < k→p j=false)) (fun i _=>zs.length - (RowKit.intOf i).toNat)
 case atStart=>exact ⟨0,Nat.zero_le _,rfl,H0,qj fun j h=>by omega⟩
 case round =>
  obtain ⟨k,hk,rfl,HJ,HP⟩:=hrel
  by_cases hlt:k < zs.length
  ·obtain ⟨b,off,ha,hc⟩:=(HSL.out k wr HJ.out).at_ (by omega)
   subst ha
   have c0:=hc k (.string zs[k]) (by simp [hlt])
   have hs:=HST.out k wr hlt HP.out HJ.out
   simp only at hs
   rw [show zs.getD k ByteArray.empty=zs[k] by simp [hlt]] at hs
   generalize zs[k]=x at *
   clear hc
   cases hb:p k with
   | true =>
    rw [hb] at hs
    have HS:=qj hs;have Hb:=qj hb;clear hs hb
    go_wp2_with fail
    refine HS.out.mono ?_
    rintro e w1 ⟨rfl,j1⟩
    have J1:=qj j1;clear j1
    go_wp2_with fail
    go_ret
    exact ⟨by rw [idxN_some hlt Hb.out HP.out];rfl,k+1,J1.out⟩
   | false =>
    rw [hb] at hs
    have HS:=qj hs;have Hb:=qj hb;clear hs hb
    go_wp2_with fail
    refine HS.out.mono ?_
    rintro e w1 ⟨rfl,j1⟩
    have J1:=qj j1;clear j1
    go_wp2_with fail
    go_roundw
    case rel=>exact ⟨k+1,by omega,by go_num,J1,qj fun j h=>by
     rcases Nat.lt_or_ge j k with h1 | h1
     ·exact HP.out j h1
     ·obtain rfl:j=k:=by omega
      exact Hb.out⟩
    case measure=>simp [RowKit.intOf];omega
  ·obtain rfl:k=zs.length:=by omega
   go_wp2_with fail
   go_ret
   exact ⟨by rw [idxN_none HP.out];rfl,_,HJ.out⟩
theorem cfSt_c (f:Nat) (lb:Array Value) (eg:∀ args w,(callFunc f args).run Tryz.prog w=.ok (.enter f args) w) (a:Option Addr) (cap:Nat) (zs:List ByteArray) (p:Nat→Bool) (J:Nat→World→Prop) (w:World)
  (hsl:∀ k W,J k W→Sl W (.slice a zs.length cap) zs.length (zs.map Value.string)) (hst:Steps f lb zs.length (fun k=>Value.string (zs.getD k ByteArray.empty)) p J) (h0:J 0 w) :
  Calls Tryz.prog 63 #[.slice a zs.length cap,.func (.func f) #[] lb] w fun e w'=>e=.returned (.bool (anyN p zs.length))∧∃ k,J k w':=by
 have c:=qj (ifSt_c f lb eg a cap zs p J w hsl hst h0)
 clear hsl hst h0 eg
 rw [← idxN_ge]
 generalize idxN p zs.length=r at *
 go_enter Tryz.func63,Tryz.ntmps63
 go_wp2_with (go_at_call 106;refine c.out.mono ?_;rintro e w1 ⟨rfl,h1⟩;have H1:=qj h1;clear h1)
 go_ret
 exact ⟨rfl,H1.out⟩
end
end Go.Proofs.YtledkokhghjfmaaGreatDoor
