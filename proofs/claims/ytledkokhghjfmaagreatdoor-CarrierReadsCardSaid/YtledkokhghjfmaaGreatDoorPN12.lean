/-
  The law's pick, the reference's pick and Made.
-/
import Derived.Test.YtledkokhghjfmaaGreatDoorPS23
import Derived.Test.YtledkokhghjfmaaGreatDoorPN07
import Derived.Test.YtledkokhghjfmaaGreatDoorPS03
namespace Go.Proofs.YtledkokhghjfmaaGreatDoor
section
open Go.RowKit Go.Shelf Go.Lib
def pkI (c n:Int):Int:=(if c < 0 then -(c+1) else c) % n
theorem pkI_bd (c:Int) {n:Int} (h:0 < n):0≤pkI c n∧pkI c n < n:=⟨Int.emod_nonneg _ (by omega),Int.emod_lt_of_pos _ h⟩
theorem w43Pick_c (c n:Int) (w:World) (hc:I64 c) (hn:0 < n∧n≤1000000):Calls Tryz.prog 7 #[.int .i64 c,.int .i64 n] w fun e w'=>e=.returned (.int .i64 (pkI c n))∧w'=w:=by
 obtain ⟨h1,h2⟩:=hc
 by_cases h:c < 0
 ·go_enter Tryz.func7,Tryz.ntmps7
  go_wp2_with fail
  go_ret
  refine ⟨?_,rfl⟩
  unfold pkI
  rw [if_pos h,← Int.tmod_eq_emod_of_nonneg (by omega),Int.neg_tmod]
  rfl
 ·go_enter Tryz.func7,Tryz.ntmps7
  go_wp2_with fail
  go_ret
  refine ⟨?_,rfl⟩
  unfold pkI
  rw [if_neg (by omega),← Int.tmod_eq_emod_of_nonneg (by omega)]
  rfl
theorem r43Pick_c (c n:Int) (w:World) (hc:I64 c) (hn:0 < n∧n≤1000000):Calls Tryz.prog 27 #[.int .i64 c,.int .i64 n] w fun e w'=>e=.returned (.int .i64 (pkI c n))∧w'=w:=by
 obtain ⟨h1,h2⟩:=hc
 by_cases h:c < 0
 ·go_enter Tryz.func27,Tryz.ntmps27
  go_wp2_with fail
  go_ret
  refine ⟨?_,rfl⟩
  unfold pkI
  rw [if_pos h,← Int.tmod_eq_emod_of_nonneg (by omega),Int.neg_tmod]
  rfl
 ·go_enter Tryz.func27,Tryz.ntmps27
  go_wp2_with fail
  go_ret
  refine ⟨?_,rfl⟩
  unfold pkI
  rw [if_neg (by omega),← Int.tmod_eq_emod_of_nonneg (by omega)]
  rfl
end
section
open Go.RowKit Go.Shelf Go.Lib
theorem txt_pos {f:Nt} (h:fmN f=true):0 < (str (txtN f)).size:=by
 rw [str_size]
 rcases Nat.eq_zero_or_pos (txtN f).length with e | e
 ·have:=readN_txt h
  rw [List.length_eq_zero_iff.1 e] at this
  cases this
 ·exact e
theorem txtV_of {f:Nt} (h:fmN f=true):txtV f=.tuple #[.string (str (txtN f)),.int .i64 0]:=by unfold txtV;rw [if_pos h]
theorem readV_txt {f:Nt} (h:fmN f=true):readV f.src (str (txtN f))=.tuple #[ntV f,.int .i64 0]:=by
 unfold readV;rw [bts_str,readN_txt h];rfl
theorem readV_law {f:Nt} (h:fmN f=true) {o:Int} (ho:0≤o∧o≤7) (z:ByteArray) :
  (∃ u,readV o z=.tuple #[ntV u,.int .i64 0]∧u.src=o∧txtV u=.tuple #[.string z,.int .i64 0])∨(readV o z=.tuple #[ntV nt0,.int .i64 430]∧z≠str (txtN f)):=by
 cases e:readN o (bts z) with
 | some u =>
  obtain ⟨h1,h2,h3⟩:=readN_sound e
  refine .inl ⟨u,by unfold readV;rw [e];rfl,h1,?_⟩
  rw [txtV_of h2,← h3,str_bts]
 | none =>
  refine .inr ⟨by unfold readV;rw [e];rfl,fun hz=>?_⟩
  obtain ⟨h1,h2⟩:=fmN_src h ho
  have h3:=readN_txt h1
  rw [h2] at h3
  rw [hz,bts_str] at e
  rw [e] at h3
  cases h3
end
section
open Go.RowKit Go.Shelf Go.Lib
theorem fm1 {s n a b c:Int} (hs:0≤s∧s≤7) (hn:0≤n∧n≤99999999) (h:lnB a b c=true):fmN ⟨s,1,n,a,b,c,0,0,0,0,0,false,0,0,0⟩=true:=by
 simp [fmN,inB,hs,hn,h,claim0,event0]
theorem I64_half {c n:Int} (h:I64 c) (hn:n=2∨n=6):I64 (c.tdiv n):=by
 obtain ⟨h1,h2⟩:=h
 rcases hn with rfl | rfl
 ·have h3:(c.tdiv 2).natAbs=c.natAbs / 2:=Int.natAbs_tdiv c 2
  exact ⟨by omega,by omega⟩
 ·have h3:(c.tdiv 6).natAbs=c.natAbs / 6:=Int.natAbs_tdiv c 6
  exact ⟨by omega,by omega⟩
theorem fm2 {s n f t h a:Int} {b:Bool} (hs:0≤s∧s≤7) (hn:0≤n∧n≤99999999) (hc:cmB n f t h a=true):fmN ⟨s,2,n,0,0,0,n,f,t,h,a,b,0,0,0⟩=true:=by
 simp [fmN,inB,hs,hn,hc,line0,event0]
theorem fm3 {s n f t a k e r:Int} (hs:0≤s∧s≤7) (hn:0≤n∧n≤99999999) (hc:cmB n f t 0 a=true) (he:evB a k e r=true):fmN ⟨s,3,n,0,0,0,n,f,t,0,a,false,k,e,r⟩=true:=by
 simp [fmN,inB,hs,hn,hc,he,line0]
structure MdE (w:World) (cs:List Value) (W:World) (A:Nat) (t:Nt):Prop where
 x:W.heap[w.heap.size]?=some (.cells cs.toArray 22 (0,0))
 r:NtAt W (w.heap.size+1) nt0
 a:NtAt W A t
 fr:Fr [] w W
 lt:w.heap.size+1 < A
theorem MdE.same {w W W':World} {cs:List Value} {A:Nat} {t:Nt} (h:MdE w cs W A t) (hf:Fr [] W W'):MdE w cs W' A t :=
 ⟨hf.keep h.x (by simp),hf.keep h.r (by simp),hf.keep h.a (by simp),h.fr.trans hf,h.lt⟩
theorem MdE.put {w W W':World} {cs:List Value} {A:Nat} {t t':Nt} (h:MdE w cs W A t) (hf:Fr [A] W W') (ha:NtAt W' A t'):MdE w cs W' A t' :=
 ⟨hf.keep h.x (by have:=h.lt;simp;omega),hf.keep h.r (by have:=h.lt;simp;omega),ha,h.fr.step hf (fun k hk=>.inr (by have:=h.lt;simp at hk;omega)),h.lt⟩
theorem NtAt.cell {W:World} {A:Nat} {t:Nt} (h:NtAt W A t) (i:Nat) (v:Value) {t':Nt} (ht:(ntC t).set i v=ntC t'):Fr [A] W (W.setCell ⟨A,i,none⟩ v)∧NtAt (W.setCell ⟨A,i,none⟩ v) A t':=by
 refine ⟨Fr.setCell _ _ (by simp),?_⟩
 have:=qs (i:=i) v h
 rw [qu,ht] at this
 exact this
theorem made_res {tmps:Array Value} {W:World} (R:Nat) (t:Nt) (h:NtAt W R t) (h4:tmps[4]?=some (.pointer (some ⟨R,0,none⟩))):(results Tryz.f6 tmps).run Tryz.prog W=.ok (ntV t) W:=by
 have x0:=h.cells 0 _ rfl
 have x1:=h.cells 1 _ rfl
 have x2:=h.cells 2 _ rfl
 have x3:=h.cells 3 _ rfl
 have x4:=h.cells 4 _ rfl
 have x5:=h.cells 5 _ rfl
 have x6:=h.cells 6 _ rfl
 have x7:=h.cells 7 _ rfl
 have x8:=h.cells 8 _ rfl
 have x9:=h.cells 9 _ rfl
 have x10:=h.cells 10 _ rfl
 have x11:=h.cells 11 _ rfl
 have x12:=h.cells 12 _ rfl
 have x13:=h.cells 13 _ rfl
 have x14:=h.cells 14 _ rfl
 simp [results,Tryz.results6,go_sem,h4,asAddr,x0,x1,x2,x3,x4,x5,x6,x7,x8,x9,x10,x11,x12,x13,x14]
end
end Go.Proofs.YtledkokhghjfmaaGreatDoor
