/-
  digest: Sum of a string.
-/
import Derived.Test.YtledkokhghjfmaaGreatDoorPS09
import Derived.Test.YtledkokhghjfmaaGreatDoorPS03
import Derived.Laws.DeepNot64
import Derived.Test.YtledkokhghjfmaaGreatDoorShelf
namespace Go.Proofs.YtledkokhghjfmaaGreatDoor
section
open Go.RowKit Go.Shelf Go.Lib
attribute [local go_sem] Oper.semAt_some
def chunkL (L:List Int) (k:Nat):List Int:=(L.drop (64*k)).take 64
theorem fold_take (L:List Int) (m:Nat):∀ k,k≤m→((List.finRange m).take k).foldl (fun h (x:Fin m)=>addB h (chunkL L x.1)) H0=blocks L H0 k
 | 0,_=>rfl
 | k+1,h=>by
  rw [finTake (by omega:k < m),List.foldl_append,fold_take L m k (by omega)]
  rfl
theorem fold_all (L:List Int) (m:Nat):(List.finRange m).foldl (fun h (x:Fin m)=>addB h (chunkL L x.1)) H0=blocks L H0 m:=by
 have:=fold_take L m m (Nat.le_refl _)
 rwa [List.take_of_length_le (by simp)] at this
structure SumAt (w:World) (B base g cap n:Nat) (l:List Int) (W:World):Prop where
 fr:Fr [] w W
 wd:W.heap[B]?=some (.cells (w8C H0) 296 (0,0))
 row:RowB W base g cap n l
 hs:base≤W.heap.size
 hb:w.heap.size≤base
 hB:B < base
theorem SumAt.same {w:World} {B base g cap n:Nat} {l:List Int} {W W':World} (h:SumAt w B base g cap n l W) (hf:Fr [] W W'):SumAt w B base g cap n l W' :=
 ⟨h.fr.trans hf,hf.keep h.wd (by simp),h.row.same hf (by simp),Nat.le_trans h.hs hf.size,h.hb,h.hB⟩
theorem SumAt.app {w:World} {B base g cap n g' cap' n':Nat} {l l':List Int} {W W':World} (h:SumAt w B base g cap n l W) (hr:RowB W' base g' cap' n' l') (hf:Fr [g] W W'):SumAt w B base g' cap' n' l' W':=by
 have hg:=h.row.ge
 have hB:=h.hB
 have hb:=h.hb
 exact ⟨h.fr.step hf (fun i hi=>.inr (by rw [List.mem_singleton] at hi;omega)),hf.keep h.wd (by simp;omega),hr,Nat.le_trans h.hs hf.size,h.hb,h.hB⟩
def lenV:Value→Nat
 | .slice _ n _=>n
 | _=>0
def SmI (W0:World) (B m:Nat) (L:List Int) (pre:List (Fin m)) (W:World):Prop :=
 W.heap[B]?=some (.cells (w8C (pre.foldl (fun h (x:Fin m)=>addB h (chunkL L x.1)) H0)) 296 (0,0))∧Fr [B] W0 W
theorem len8_take (m:Int) {j:Nat} (hj:j < 8):(len8 m).take (j+1)=(len8 m).take j++[m / 2 ^ (8*(7 - j)) % 256]:=by
 have h:j=0∨j=1∨j=2∨j=3∨j=4∨j=5∨j=6∨j=7:=by omega
 unfold len8 byteI
 simp only [IntKind.wrap_u8]
 rcases h with rfl | rfl | rfl | rfl | rfl | rfl | rfl | rfl <;> rfl
theorem smI_own (W0:World) (B m:Nat) (L:List Int) (hB:B < W0.heap.size):OwnFrom W0.heap.size (SmI W0 B m L):=by
 rintro s X Y row ⟨h1,h2⟩ hg hr
 exact ⟨(hg.block _ (blk_lt h1) (fun e=>by have:=(hr _ e.symm).1;omega)).trans h1,h2.step (Fr.grown (fp:=row.toList) hg (fun k hk=>by simp [hk])) (fun i hi=>.inr (hr i (by simpa using hi)).1)⟩
theorem RowB.chunk {w:World} {base g cap n k:Nat} {l:List Int} (h:RowB w base g cap n l) (hk:64*k+64≤n):ByAt w (.slice (some ⟨g,64*k,none⟩) 64 64) (chunkL l k)∧(chunkL l k).length=64:=by
 have hl:(chunkL l k).length=64:=by rw [chunkL,List.length_take,List.length_drop,h.len];omega
 refine ⟨?_,hl⟩
 unfold ByAt
 rw [hl]
 refine ⟨_,_,rfl,Nat.le_refl _,by omega,fun _=>⟨g,64*k,rfl,fun j u hu=>h.cell ?_⟩⟩
 have hj:j < 64:=by
  have:=(List.getElem?_eq_some_iff.1 hu).1
  rw [List.length_map,hl] at this;exact this
 rw [List.getElem?_map] at hu ⊢
 rwa [chunkL,List.getElem?_take_of_lt hj,List.getElem?_drop] at hu
set_option maxRecDepth 100000 in
set_option maxHeartbeats 4000000 in
theorem sum_c (s:ByteArray) (hs:s.size≤1000000000000) (w:World) (hR:RndAt w):Calls Tryz.prog 165 #[.string s] w fun e w'=>e=.returned (.string (shaB s))∧Fr [] w w':=by
 have HR:=qj hR
 have hgl:1 < w.heap.size:=by
  obtain ⟨t,fz,h⟩:=hR
  exact blk_lt h
 clear hR
 refine (callsIn_wide (n:=3)).1 (callsIn_of_wp_marks Tryz.func165 rfl trivial ?_ rfl)
 simp only [Tryz.ntmps165,List.size_toArray,List.length_cons,List.length_nil,Nat.reduceAdd,Nat.reduceSub,Array.replicate_succ,Array.replicate_zero,List.push_toArray,List.append_toArray,List.nil_append,List.cons_append]
 refine wpIn_wide.2 ?_
 go_upto_region 2 with fail
 change Code.wp _ _ _ _ (w.alloc (.cells (w8C H0) 296))
 have hA:=qm w (.cells (w8C H0) 296)
 have FA:=Fr.alloc [] w (.cells (w8C H0) 296)
 have hsz:(w.alloc (.cells (w8C H0) 296)).heap.size=w.heap.size+1:=by simp
 generalize w.alloc (.cells (w8C H0) 296)=W1 at *
 obtain ⟨B,hB⟩:∃ B,B=w.heap.size:=⟨_,rfl⟩
 rw [← hB] at hA ⊢
 have HS1:Shut (W1.heap.size=B+1∧B=w.heap.size):=⟨by omega,hB⟩
 have hBl:w.heap.size≤B:=by omega
 have hBu:B≤w.heap.size:=by omega
 have HA:=qj hA;have HF:=qj FA
 clear hA FA hsz hB
 go_wp2_with (first | ((with_reducible refine wpList_of_wp (o:=⟨some 9,_,_,_,_,_⟩) rfl (fun K hK=>?_));apply stopD;case _other=>exact trivial))
 (refine stopD ?_ ?_;rotate_left;exact trivial)
 refine wp_str_bytes (.tmp 8) rfl s rfl (by omega) (B+1) (Nat.le_of_eq HS1.out.1.symm) ?_
 intro g cap W2 r2 f2
 refine hK _ _ ?_
 clear hK K
 have S2:SumAt w B (B+1) g cap s.size (bI s.data.toList) W2:=⟨HF.out.trans f2,f2.keep HA.out (by simp),r2,Nat.le_trans (Nat.le_of_eq HS1.out.1.symm) f2.size,by omega,by omega⟩
 have HS2:=qj S2
 clear r2 f2 S2 HA HF
 go_wp2_with (first | ((with_reducible refine wpList_of_wp (o:=⟨some 11,_,_,_,_,_⟩) rfl (fun K hK=>?_));apply stopD;case _other=>exact trivial))
 (refine stopD ?_ ?_;rotate_left;exact trivial)
 have S3:=HS2.out.same (Fr.alloc [] W2 (.cells #[.int .u8 128] 5))
 refine wp_append_b (.tmp 9) (.tmp 10) rfl (B+1) g cap s.size _ 128 rfl S3.row S3.hs W2.heap.size 1 rfl (qd (qm W2 (.cells #[.int .u8 128] 5)) 0) (by omega) ?_
 intro g4 cap4 W4 r4 f4
 refine hK _ _ ?_
 clear hK K
 have HS4:=qj (S3.app r4 f4)
 clear S3 r4 f4 HS2
 go_wp2_with fail
 go_loopw [4] (fun v wr=>∃ k g cap,k≤zN s.size∧v=.slice (some ⟨g,0,none⟩) (s.size+1+k) cap∧Hid (SumAt w B (B+1) g cap (s.size+1+k) ((bI s.data.toList++[128])++List.replicate k 0) wr)) (fun v _=>s.size+100 - lenV v)
 case atStart=>exact ⟨0,g4,cap4,Nat.zero_le _,rfl,by rw [List.replicate_zero,List.append_nil];exact HS4⟩
 case round =>
  obtain ⟨k,g5,cap5,hk,rfl,H5⟩:=hrel
  have hz:zN s.size < 64:=Nat.mod_lt _ (by omega)
  by_cases hlt:k < zN s.size
  ·have hmod:(s.size+1+k) % 64≠56:=by unfold zN at hlt;omega
   go_wp2_with (first | ((with_reducible refine wpList_of_wp (o:=⟨some 18,_,_,_,_,_⟩) rfl (fun K hK=>?_));apply stopD;case _other=>exact trivial))
   (refine stopD ?_ ?_;rotate_left;exact trivial)
   have S6:=H5.out.same (Fr.alloc [] wr (.cells #[.int .u8 0] 5))
   refine wp_append_b (.tmp 16) (.tmp 17) rfl (B+1) g5 cap5 (s.size+1+k) _ 0 rfl S6.row S6.hs wr.heap.size 1 rfl (qd (qm wr (.cells #[.int .u8 0] 5)) 0) (by omega) ?_
   intro g6 cap6 W6 r6 f6
   refine hK _ _ ?_
   clear hK K
   have HS6:=qj (S6.app r6 f6)
   clear S6 r6 f6
   go_wp2_with fail
   go_roundw
   case rel=>exact ⟨k+1,g6,cap6,by omega,rfl,by rw [List.replicate_succ',← List.append_assoc];exact HS6⟩
   case measure=>simp [lenV];omega
  ·have hm1:(s.size+1+k) % 64≤56:=by unfold zN at *;omega
   have hm2:56≤(s.size+1+k) % 64:=by unfold zN at *;omega
   have e1:(bI s.data.toList++[128])++List.replicate k 0=pad1 (bI s.data.toList):=by
    rw [pad1,bI_len,show k=zN s.size by omega];rfl
   rw [e1] at H5
   have hbf:(((s.size:Int)+1+(k:Int)) % 64 != 56)=false:=by
    have:((s.size:Int)+1+(k:Int)) % 64=56:=by omega
    rw [this];rfl
   clear e1
   go_wp2_with fail
   clear hbf
   go_loopw [4,5] (fun v i wr=>∃ j g cap,j≤8∧v=.slice (some ⟨g,0,none⟩) (s.size+1+k+j) cap∧i=.int .i64 (7 - (j:Int))∧Hid (SumAt w B (B+1) g cap (s.size+1+k+j) (pad1 (bI s.data.toList)++(len8 (8*(s.size:Int))).take j) wr)) (fun _ i _=>(RowKit.intOf i+1).toNat)
   case atStart=>exact ⟨0,g5,cap5,Nat.zero_le _,rfl,rfl,by rw [List.take_zero,List.append_nil];exact H5⟩
   case round =>
    obtain ⟨j,g7,cap7,hj,rfl,rfl,H7⟩:=hrel
    by_cases hj8:j < 8
    ·have hm:min (8*(7 - (j:Int))).toNat 64=56 - 8*j:=by omega
     go_wp2_with (first | ((with_reducible refine wpList_of_wp (o:=⟨some 32,_,_,_,_,_⟩) rfl (fun K hK=>?_));apply stopD;case _other=>exact trivial))
     (refine stopD ?_ ?_;rotate_left;exact trivial)
     have S8:=H7.out.same (Fr.alloc [] wr (.cells #[.int .u8 (8*(s.size:Int) / 2 ^ (8*(7 - j)) % 256)] 5))
     refine wp_append_b (.tmp 23) (.tmp 31) rfl (B+1) g7 cap7 (s.size+1+k+j) _ (8*(s.size:Int) / 2 ^ (8*(7 - j)) % 256) rfl S8.row S8.hs wr.heap.size 1 rfl (qd (qm wr (.cells #[.int .u8 (8*(s.size:Int) / 2 ^ (8*(7 - j)) % 256)] 5)) 0) (by omega) ?_
     intro g8 cap8 W8 r8 f8
     refine hK _ _ ?_
     clear hK K hm
     rw [List.append_assoc,← len8_take _ hj8] at r8
     have HS8:=qj (S8.app r8 f8)
     clear S8 r8 f8
     go_wp2_with fail
     go_roundw
     case rel=>exact ⟨j+1,g8,cap8,by omega,rfl,congrArg (Value.int .i64) (by omega),HS8⟩
     case measure=>simp [RowKit.intOf];omega
    ·have e2:pad1 (bI s.data.toList)++(len8 (8*(s.size:Int))).take j=padL (bI s.data.toList):=by
      rw [List.take_of_length_le (by simp [len8];omega),padL,bI_len];rfl
     rw [e2] at H7
     have hpl:=H7.out.row.len
     obtain ⟨n',hn'⟩:∃ n',s.size+1+k+j=n':=⟨_,rfl⟩
     have h64:n'≤64*(n' / 64):=by omega
     have h65:64*(n' / 64)≤n':=by omega
     have hj9:¬ (0≤7 - (j:Int)):=by omega
     have hnb:n'≤140737488355328:=by omega
     obtain ⟨m,hm⟩:∃ m,n' / 64=m:=⟨_,rfl⟩
     rw [hn'] at H7 hpl ⊢
     rw [hm] at h64 h65
     have HM:Shut (shaB s=digB (blocks (padL (bI s.data.toList)) H0 m)):=⟨by unfold shaB shaL digB;rw [hpl,hm]⟩
     generalize padL (bI s.data.toList)=PL at *
     clear hn' hm e2 hpl hm1 hm2 H5 HS4
     go_wp2_with fail
     refine (chunk_c _ _ _ _).mono ?_
     rintro e W8 ⟨rfl,hW8⟩
     have FY:Fr [] wr W8:=by rw [hW8];exact (Fr.alloc _ _ _).trans (Fr.alloc _ _ _)
     have hx8:W8.heap[wr.heap.size]?=some (.cells #[.slice (some ⟨g7,0,none⟩) n' cap7] 39 (0,0)):=by rw [hW8];exact heap_alloc_old _ (qm _ _)
     have hn8:W8.heap[wr.heap.size+1]?=some (.cells #[.int .i64 64] 3 (0,0)):=by
      rw [hW8]
      have:=qm (wr.alloc (.cells #[.slice (some ⟨g7,0,none⟩) n' cap7] 39)) (.cells #[.int .i64 64] 3)
      simpa using this
     have hBq:B < wr.heap.size:=by have:=H7.out.hs;omega
     have H8:=qj (H7.out.same FY)
     have hB8:B < W8.heap.size:=Nat.lt_of_lt_of_le hBq FY.size
     have HX8:=qj hx8;have HN8:=qj hn8
     clear hW8 FY hx8 hn8 H7
     go_wp2_with fail
     refine (wpIn_wide (n:=3)).1 ?_
     apply wpIn_rangeFunc_ownG (F:=Fence.wide) (n:=3) rfl (by omega) (gf:=202) (lb:=#[.pointer (some ⟨wr.heap.size,0,none⟩),.pointer (some ⟨wr.heap.size+1,0,none⟩)]) rfl trivial (fun _ _=>rfl)
      (chunk_seq g7 cap7 m n' wr.heap.size (wr.heap.size+1) W8 B HX8.out HN8.out (by omega) (by omega) h64 h65 H8.out.row.le H8.out.row.max hnb) KpO.trans (fun W l o o' hl h _ _=>KpO.put W l o o' hl h) (Below.refl _ _) (fun _=>rfl)
      (SmI W8 B m PL) (fun _ _ _=>False) (smI_own W8 B m PL hB8) (fun _ _ _ _ _ h _ _=>h) ⟨H8.out.wd,Fr.refl _ _⟩
     case hassign =>
      intro l x W K hK
      gi_wp2
      exact hK
     case hbody =>
      rintro l pre x W ⟨h1,hF⟩ hlt
      have CA:=addW_c B _ _ _ W h1 (H8.out.row.same hF (by simp;have:=H8.out.row.ge;omega) |>.chunk (k:=x.1) (by have:=x.2;omega)).1 (H8.out.row.chunk (k:=x.1) (by have:=x.2;omega)).2 ((HR.out.same H8.out.fr (by simp)).same hF (by simp;omega)) (by omega)
      have HCA:=qj CA
      clear CA h1
      gi_wp2
      refine ⟨trivial,?_⟩
      refine CallsIn.inRound l (callsIn_wide.2 (HCA.out.mono ?_))
      rintro e W' ⟨rfl,f1,h2⟩
      have HN:Hid (KeepsFrom W8.heap.size W W'∧KpO W8.heap.size B W W'∧SmI W8 B m PL (pre++[x]) W'):=qj ⟨keepsFromO f1 hB8,KpO.of f1 hF.size,by rw [List.foldl_append];exact h2,hF.trans f1⟩
      clear f1 h2 hF HCA
      gi_wp2
      exact HN.out
     case hdone =>
      rintro D ys W hD hS ⟨h1,hF⟩ hK
      have hS':ys=List.finRange m:=hS
      subst hS'
      rw [fold_all] at h1
      generalize blocks PL H0 m=v at *
      have d0:W.cell? ⟨B,0,none⟩=some (.int .u32 v.a):=qd h1 0
      have d1:W.cell? ⟨B,1,none⟩=some (.int .u32 v.b):=qd h1 1
      have d2:W.cell? ⟨B,2,none⟩=some (.int .u32 v.c):=qd h1 2
      have d3:W.cell? ⟨B,3,none⟩=some (.int .u32 v.d):=qd h1 3
      have d4:W.cell? ⟨B,4,none⟩=some (.int .u32 v.e):=qd h1 4
      have d5:W.cell? ⟨B,5,none⟩=some (.int .u32 v.f):=qd h1 5
      have d6:W.cell? ⟨B,6,none⟩=some (.int .u32 v.g):=qd h1 6
      have d7:W.cell? ⟨B,7,none⟩=some (.int .u32 v.h):=qd h1 7
      have hwD:w.heap.size≤D:=Nat.le_trans H8.out.fr.size hD
      have HFW:=qj (H8.out.fr.step hF (fun i hi=>.inr (by rw [List.mem_singleton] at hi;omega)))
      have HKE:=qj hK
      clear h1 hF hK hS
      go_wp2_with fail
      refine (digest_c v W).mono ?_
      rintro e W9 ⟨rfl,f9⟩
      have hK9:=f9.keep HKE.out (by simp)
      have FQ:=(HFW.out.trans f9).step (Fr.grown (fp:=[D]) (grownBy_putObj' W9 D (.deferred none)) (fun k hk=>by cases hk;simp)) (fun i hi=>.inr (by rw [List.mem_singleton] at hi;omega))
      have HQ:=qj FQ;have HK9:=qj hK9
      clear d0 d1 d2 d3 d4 d5 d6 d7 f9 hK9 FQ
      go_wp2_with fail
      refine ⟨by simp,.inl ⟨_,_,rfl,run_takeDeferred HK9.out,?_⟩⟩
      exact ⟨_,results_tmp rfl _ _ _,by rw [HM.out];rfl,HQ.out⟩
     case hstop =>
      rintro D c pre W _ _ h _
      exact h.elim
end
section
open Go.RowKit Go.Shelf Go.Lib
def SeqW {α:Type} (F:Fence) (n:Nat) (P:Program) (g:Nat) (lb:Array Value) (encs:α→Array Value) (Kp:World→World→Prop) (S:List α→Prop) (N bx:Nat) (w:World):Prop :=
 ∀ (l:Nat) (J:List α→World→Prop) (W:World),Fr [] w W→(∀ s X Y,J s X→Fr [bx] X Y→J s Y) →
  (∀ pre x W1,J pre W1→pre.length < N→YieldAt F (n - 1) P l (encs x) W1 fun e W'=>e=.returned (.bool true)∧J (pre++[x]) W'∧Kp W1 W') →
  J [] W→CallsIn F n P g (#[.func (.yield l) #[] #[]]++lb) W fun e W'=>(∃ v,e=.returned v)∧∃ xs,S xs∧J xs W'
def postW {α:Type} (B:Nat) (Kp:World→World→Prop) (I:List α→World→Prop) (xs:List α) (W:World):Exit→Act→World→Prop
 | .normal,_,W'=>KeepsFrom B W W'∧Kp W W'∧I xs W'
 | _,_,_=>False
set_option maxHeartbeats 4000000 in
theorem range_wr {F:Fence} {n:Nat} {P:Program} {α:Type} {g:Operand} {ps:Array Tmp} {assign body:Code} {Q:Exit→Act→World→Prop} {a:Act} {w:World} (hro:F.round=none) (h1:1≤n)
  {gf:Nat} {lb:Array Value} (hg:a.eval g=.func (.func gf) #[] lb) (hFg:F.fn gf) (eg:∀ args w,(callFunc gf args).run P w=.ok (.enter gf args) w)
  {encs:α→Array Value} {Kp:World→World→Prop} {S:List α→Prop} {N bx:Nat} (hbx:bx < w.heap.size) (hseq:SeqW F (n - 1) P gf lb encs Kp S N bx w) (hKt:∀ {A B C:World},Kp A B→Kp B C→Kp A C)
  (hKb:∀ (W:World) (l:Nat) (o o':Obj),w.heap.size≤l→W.heap[l]?=some o→Kp W (W.putObj l o')) (hps:∀ x,(encs x).size=ps.size)
  (I:List α→World→Prop) (hI:∀ s X Y,I s X→Fr [bx] X Y→I s Y) (hO:OwnFrom w.heap.size I) (h0:I [] w) (a₁:α→Act)
  (hassign:∀ (l:Nat) (x:α) (W:World) (K:Act→World→Prop),K (a₁ x) W→assign.wpIn (F.inRound l) (n - 1 - 1) P (Exit.then K (fun _ _ _=>False)) { tmps:=(ps.zip (encs x)).foldl (fun t (p,v)=>t.setIfInBounds p v) a.tmps,defers:=[] } W)
  (hbody:∀ (l:Nat) (pre:List α) (x:α) (W:World),I pre W→pre.length < N→body.wpIn (F.inRound l) (n - 1 - 1) P (postW w.heap.size Kp I (pre++[x]) W) (a₁ x) W)
  (hdone:∀ (D:Nat) (xs:List α) (W:World),w.heap.size≤D→S xs→I xs W→W.heap[D]?=some (.deferred (some []))→Q .normal { a with defers:={ target:=.collected D,args:=#[] } :: a.defers } W) :
  (Code.rangeFunc g ps assign body).wpIn F n P Q a w:=by
 refine wpIn_rangeFunc fun fn hfn=>?_
 rw [hro]
 obtain ⟨R,hR⟩:∃ R:LoopState→Loop,∀ st,R st={ state:=st,pending:=none,fn:=fn,tmps:=a.tmps,params:=ps,assign:=assign,body:=body,defers:=w.heap.size }:=⟨fun st=>{ state:=st,pending:=none,fn:=fn,tmps:=a.tmps,params:=ps,assign:=assign,body:=body,defers:=w.heap.size },fun _=>rfl⟩
 obtain ⟨W1,hW1⟩:∃ W1,W1=(w.alloc (.deferred (some []))).alloc (.loop (R .ready)):=⟨_,rfl⟩
 have he:(Instr.enterLoop fn a.tmps ps assign body none).run P w=.ok (w.heap.size+1,[{ target:=.collected w.heap.size,args:=#[] }]) W1:=by
  rw [hW1,hR];exact run_enterLoop_outer _ _ _ _ _
 have key:CallsIn F (n - 1) P gf (#[.func (.yield (w.heap.size+1)) #[] #[]]++lb) W1 (rangePost F n P (w.heap.size+1) Q { a with defers:=[{ target:=.collected w.heap.size,args:=#[] }]++a.defers }):=by
  have fr:Fr [] w W1:=by rw [hW1];exact (Fr.alloc _ _ _).trans (Fr.alloc _ _ _)
  have bD:W1.heap[w.heap.size]?=some (.deferred (some [])):=by rw [hW1];exact heap_alloc_old _ (qm w _)
  have bL:W1.heap[w.heap.size+1]?=some (.loop (R .ready)):=by
   have:=qm (w.alloc (.deferred (some []))) (.loop (R .ready))
   rw [World.size_alloc] at this
   rw [hW1];exact this
  have i1:I [] W1:=by rw [hW1];exact hO.alloc _ (hO.alloc _ h0)
  refine (hseq (w.heap.size+1) (fun xs W=>I xs W∧W.heap[w.heap.size+1]?=some (.loop (R .ready))∧W.heap[w.heap.size]?=some (.deferred (some []))) W1 fr ?_ ?_ ⟨i1,bL,bD⟩).mono ?_
  ·rintro s X Y ⟨hi,hl,hd⟩ hf
   exact ⟨hI s X Y hi hf,hf.keep hl (by simp;omega),hf.keep hd (by simp;omega)⟩
  ·rintro pre x W ⟨hi,hl,hd⟩ hN
   refine ⟨fn,(ps.zip (encs x)).foldl (fun t (p,v)=>t.setIfInBounds p v) a.tmps,assign,body,?_,roundIn_of_wpIn hfn (hassign _ x W _ ⟨W.putObj (w.heap.size+1) (.loop (R .busy)),?_,?_⟩)⟩
   ·have:=run_yield (P:=P) (args:=encs x) hl (by rw [hR];exact hps x)
    rw [hR] at this
    exact this
   ·have:=run_beginRound (P:=P) hl (by rw [hR])
    rw [hR] at this
    rw [hR]
    exact this
   ·have hlt:=blk_lt hl
    have hl2:(W.putObj (w.heap.size+1) (.loop (R .busy))).heap[w.heap.size+1]?=some (.loop (R .busy)):=World.putObj_heap_same hlt
    have hd2:(W.putObj (w.heap.size+1) (.loop (R .busy))).heap[w.heap.size]?=some (.deferred (some [])):=(World.putObj_heap_other (by omega)).trans hd
    have k1:Kp W (W.putObj (w.heap.size+1) (.loop (R .busy))):=hKb _ _ _ _ (by omega) hl
    have i2:=hO.putObj (.loop (R .busy)) hi (by omega) hl rfl
    refine wpIn_mono (hbody _ pre x _ i2 hN) fun e a3 W3 hp=>?_
    cases e with
    | normal =>
     obtain ⟨kf,kp,i3⟩:=hp
     have l3:=kf.same _ _ (by omega) hl2 rfl
     have d3:=kf.same _ _ (Nat.le_refl _) hd2 rfl
     refine ⟨_,_,run_endRound (P:=P) none l3,rfl,⟨hO.putObj _ i3 (by omega) l3 rfl,?_,(World.putObj_heap_other (by omega)).trans d3⟩,hKt (hKt k1 kp) (hKb _ _ _ _ (by omega) l3)⟩
     refine (World.putObj_heap_same (blk_lt l3)).trans ?_
     rw [hR,hR]
     rfl
    | ret=>exact hp.elim
    | exit id=>exact hp.elim
    | goto t=>exact hp.elim
    | panic ch=>exact hp.elim
    | outgrown=>exact hp.elim
  ·rintro e W2 ⟨⟨v,rfl⟩,xs,hS,hi,hl,hd⟩
   have:=run_endLoop (P:=P) hl (by rw [hR];simp)
   rw [show (R .ready).pending=none by rw [hR]] at this
   exact ⟨none,_,this,hdone _ xs _ (Nat.le_refl _) hS (hO.putObj _ hi (by omega) hl rfl) ((World.putObj_heap_other (by omega)).trans hd)⟩
 refine ⟨w.heap.size+1,[{ target:=.collected w.heap.size,args:=#[] }],W1,{ target:=.fn (.func gf) lb,args:=#[.func (.yield (w.heap.size+1)) #[] #[]] },W1,gf,#[.func (.yield (w.heap.size+1)) #[] #[]]++lb,W1,?_,?_,?_,?_,fun _=>h1,?_⟩
 ·exact he
 ·simp only [resolve,hg]
  simp [go_sem]
 ·intro f' hf'
  simp [Target.leads] at hf'
  subst hf'
  exact hFg
 ·simp [invoke,go_sem,eg]
 ·exact key
end
section
open Go.RowKit Go.Shelf Go.Lib
attribute [local go_sem] Oper.semAt_some
def grpL (z:Nat):List (Int × Bool):=if z < 128 then [((z:Int),true)] else ((z:Int) % 128,false) :: grpL (z / 128)
termination_by z
decreasing_by omega
theorem grpL_one {z:Nat} (h:z < 128):grpL z=[((z:Int),true)]:=by rw [grpL,if_pos h]
theorem grpL_more {z:Nat} (h:¬ z < 128):grpL z=((z:Int) % 128,false) :: grpL (z / 128):=by rw [grpL,if_neg h]
abbrev grpE (x:Int × Bool):Array Value:=#[.int .u8 x.1,.bool x.2]
theorem and127 (c:Nat) (hc:c < 18446744073709551616):bits .and .u64 (c:Int) 127=(c:Int) % 128:=by
 have h:=bits_and_u64_nat c 127 hc (by omega)
 rw [show ((127:Nat):Int)=127 from rfl] at h
 rw [h,show (127:Nat)=2 ^ 7 - 1 from rfl,Nat.and_two_pow_sub_one_eq_mod]
 rfl
def zOf (b:Nat) (w:World):Nat:=match w.cell? ⟨b,0,none⟩ with
 | some (.int _ z)=>z.toNat
 | _=>0
theorem zOf_at {b:Nat} {w:World} {k:IntKind} {z:Nat} (h:w.cell? ⟨b,0,none⟩=some (.int k z)):zOf b w=z:=by simp [zOf,h]
set_option maxRecDepth 100000 in
set_option maxHeartbeats 4000000 in
theorem groups_seq (N bx bq z:Nat) (w:World) (hz:z < 18446744073709551616) (hb:w.heap[bx]?=some (.cells #[.int .u64 z] 210 (0,0))) (hbq:bx≠bq) :
  SeqW Fence.wide N Tryz.prog 161 #[.pointer (some ⟨bx,0,none⟩)] grpE (KpO w.heap.size bq) (fun xs=>xs=grpL z) (grpL z).length bx w:=by
 intro l J W hW hJ hY h0
 have hltb:=blk_lt hb
 have HB:=qj (hW.keep hb (by simp))
 have HY:=qj hY;have HJ:=qj hJ;have HJ0:=qj h0
 clear hb hY hJ h0 hW
 refine callsIn_of_wp Tryz.func161 rfl trivial ?_ rfl
 simp only [Tryz.ntmps161,List.size_toArray,List.length_cons,List.length_nil,Nat.reduceAdd,Nat.reduceSub,Array.replicate_succ,Array.replicate_zero,List.push_toArray,List.append_toArray,List.nil_append,List.cons_append]
 gi_wp2
 gi_loopw [] (fun wr=>∃ (pre:List (Int × Bool)) (c:Nat),c≤z∧Hid (wr.heap[bx]?=some (.cells #[.int .u64 c] 210 (0,0)))∧Hid (J pre wr)∧Hid (grpL z=pre++grpL c)) (fun wr=>zOf bx wr)
 case atStart=>exact ⟨[],z,Nat.le_refl _,HB,HJ0,qj rfl⟩
 case round =>
  obtain ⟨pre,c,hc,H1,HP,HG⟩:=hrel
  have x0:=qd H1.out 0
  have y0:=ql H1.out 0
  by_cases hlt:c < 128
  ·have HL:Hid (grpL z=pre++[((c:Int),true)]):=qj (by rw [HG.out,grpL_one hlt])
   obtain ⟨fn,tmps,assign,body,hy,hR⟩:=HY.out pre ((c:Int),true) wr HP.out (by rw [HL.out,List.length_append];simp)
   dsimp only [grpE] at hy
   have HRR:=qj hR
   have hb1:=and127 c (by omega)
   have hb2:(c:Int) % 128=c:=by omega
   have hb3:(c:Int) % 256=c:=by omega
   have hd:decide ((c:Int) < 128)=true:=by simp;omega
   clear hR
   gi_wp2
   refine ⟨fun hh=>(by cases hh),?_⟩
   refine HRR.out.mono ?_
   rintro e W3 ⟨rfl,hJ3,hk3⟩
   have HJ3:=qj hJ3
   clear hy hb1 hb2 hb3 hd hk3 hJ3
   gi_wp2
   refine bodyPost_ret (results_none rfl _ _ _) rfl ?_
   exact ⟨⟨_,rfl⟩,_,HL.out.symm,HJ3.out⟩
  ·have HL:Hid (grpL z=pre++((c:Int) % 128,false) :: grpL (c / 128)):=qj (by rw [HG.out,grpL_more hlt])
   obtain ⟨fn,tmps,assign,body,hy,hR⟩:=HY.out pre ((c:Int) % 128,false) wr HP.out (by rw [HL.out,List.length_append];simp)
   dsimp only [grpE] at hy
   have HRR:=qj hR
   have hb1:=and127 c (by omega)
   have hb3:(c:Int) % 128 % 256=(c:Int) % 128:=by omega
   have hd:decide ((c:Int) < 128)=false:=by simp;omega
   clear hR
   gi_wp2
   refine ⟨fun hh=>(by cases hh),?_⟩
   refine HRR.out.mono ?_
   rintro e W3 ⟨rfl,hJ3,hk3⟩
   have h3:=(hk3.block bx hltb hbq).trans H1.out
   have HS:=qj (qs (i:=0) (.int .u64 ((c / 128:Nat):Int)) h3)
   have HJ4:=qj (HJ.out _ _ _ hJ3 (Fr.setCell (fp:=[bx]) W3 (p:=⟨bx,0,none⟩) (.int .u64 ((c / 128:Nat):Int)) (by simp)))
   have x3:=qd h3 0
   have y3:=ql h3 0
   have hz0:=qj (zOf_at x0)
   clear hy hb1 hb3 hd hk3 hJ3 h3 x0 y0
   gi_wp2
   go_roundw
   case rel=>exact ⟨_,c / 128,by omega,HS,HJ4,qj (by rw [HL.out,List.append_assoc];rfl)⟩
   case measure =>
    rw [hz0.out]
    have:=zOf_at (qd HS.out 0)
    show zOf bx (W3.setCell ⟨bx,0,none⟩ (.int .u64 ((c / 128:Nat):Int))) < c
    rw [this]
    omega
end
section
open Go.RowKit Go.Shelf Go.Lib
attribute [local go_sem] Oper.semAt_some
def encV (x:Int × Bool):Value:=.int .u8 (if x.2 then x.1 else bits .or .u8 x.1 128)
theorem or128:∀ a:Fin 128,bits .or .u8 ((a.val:Nat):Int) 128=((a.val:Nat):Int)+128:=by decide
theorem encV_grp (z:Nat):(grpL z).map encV=byteCells (encZ z):=by
 induction z using Nat.strongRecOn with
 | _ z ih =>
  by_cases h:z < 128
  ·rw [grpL_one h,encZ_one h]
   simp only [List.map_cons,List.map_nil,encV,if_true,byteCells,UInt8.toNat_ofNat']
   rw [Nat.mod_eq_of_lt (by omega)]
  ·rw [grpL_more h,encZ_more h]
   have hb:=or128 ⟨z % 128,Nat.mod_lt _ (by omega)⟩
   simp only at hb
   simp only [List.map_cons,encV,Bool.false_eq_true,if_false,ih (z / 128) (by omega),byteCells,UInt8.toNat_ofNat']
   rw [show (z:Int) % 128=((z % 128:Nat):Int) by omega,hb,Nat.mod_eq_of_lt (by omega:z % 128+128 < 256)]
   congr 2
theorem wp_sl_str {o:Oper} {a:Act} {w:World} {K:Act→World→Prop} {Q:Exit→Act→World→Prop} (x:Operand) (ho:o.op=.convert 39 9 x) (ad:Option Addr) (n cap:Nat) (l:List UInt8) (hx:a.eval x=.slice ad n cap) (hs:Sl w (.slice ad n cap) n (byteCells l)) (hn:0 < n) (hl:l.length=n)
  (h:K (a.put o.dst (.string ⟨l.toArray⟩)) w):o.wp Tryz.prog a w K Q:=by
 obtain ⟨b,off,rfl,hc⟩:=hs.at_ hn
 have hrun:=run_convert_bytes_back (P:=Tryz.prog) w 39 9 5 ⟨b,off,none⟩ cap l Tryz.underlying39 Tryz.underlying5 Tryz.underlying9 (fun j hj=>by
  have ha:(⟨b,off,none⟩:Addr).add j=⟨b,off+j,none⟩:=by
   unfold Addr.add;split
   ·rename_i h0;subst h0;rfl
   ·rfl
  rw [ha]
  exact hc j _ (by simp [byteCells,hj]))
 rw [hl] at hrun
 unfold Oper.wp execOp
 simp only [ho,Sem.run_bind,Sem.run_pure,Result.andThen_ok,hx,hrun]
 exact h
theorem app_box {W0 W w1:World} {Bo bx n m:Nat} {v v':Value} {tmp:Obj} {xs ys:List Value} (hB:Bo < W0.heap.size) (h1:W.heap[Bo]?=some (.cells #[v] 39 (0,0))) (h2:W.ownsRow W0.heap.size 5 1 v n xs) (h3:Fr [Bo,bx] W0 W) (ho:w1.ownsRow W0.heap.size 5 1 v' m ys)
  (hg:(W.alloc tmp).grownBy w1 v.ownBlock):w1.heap[Bo]?=some (.cells #[v] 39 (0,0))∧KeepsFrom W0.heap.size W (w1.setCell ⟨Bo,0,none⟩ v')∧KpO W0.heap.size Bo W (w1.setCell ⟨Bo,0,none⟩ v') ∧
  (w1.setCell ⟨Bo,0,none⟩ v').heap[Bo]?=some (.cells #[v'] 39 (0,0))∧(w1.setCell ⟨Bo,0,none⟩ v').ownsRow W0.heap.size 5 1 v' m ys∧Fr [Bo,bx] W0 (w1.setCell ⟨Bo,0,none⟩ v'):=by
 have lo:∀ {u:World} {s:Value} {k:Nat} {zs:List Value},u.ownsRow W0.heap.size 5 1 s k zs→∀ g,s.ownBlock=some g→W0.heap.size≤g∧∃ c,u.heap[g]?=some (.cells c 5 (0,0)):=by
  intro u s k zs hr g hs
  rcases hr.2 with ⟨rfl,_⟩ | ⟨g',cap,cur,rfl,hb,hgb,_⟩
  ·cases hs
  ·cases hs;exact ⟨hb,_,hgb⟩
 have fA:Fr v.ownBlock.toList (W.alloc tmp) w1:=Fr.grown hg fun k hk=>by simp [hk]
 have inL:∀ i,i∈v.ownBlock.toList→W0.heap.size≤i∧∃ c,W.heap[i]?=some (.cells c 5 (0,0)):=fun i hi=>lo h2 i (by simpa using hi)
 have hBo:Bo∉v.ownBlock.toList:=fun hm=>by have:=(inL _ hm).1;omega
 have h4:=fA.keep (heap_alloc_old tmp h1) hBo
 have f4:Fr [Bo,bx] W0 w1:=(h3.trans (Fr.alloc _ _ tmp)).step fA (fun i hi=>.inr (inL i hi).1)
 refine ⟨h4,⟨?_,?_⟩,⟨?_,?_,?_,?_,?_⟩,qs (i:=0) v' h4,?_,f4.trans (Fr.setCell _ _ (by simp))⟩
 ·have:=fA.size
  simp only [World.size_alloc] at this
  show W.heap.size≤(w1.heap.modify _ _).size
  rw [Array.size_modify];omega
 ·intro k o hk hw hc
  have hkB:k≠Bo:=by omega
  refine (Below.heap_setCell _ _ _ _ hkB).trans (fA.keep (heap_alloc_old tmp hw) fun hm=>?_)
  obtain ⟨_,c,h5⟩:=inL k hm
  rw [h5] at hw
  cases hw
  cases hc
 ·exact fA.os
 ·exact fA.tape
 ·exact fA.output
 ·have:=fA.size
  simp only [World.size_alloc] at this
  show W.heap.size≤(w1.heap.modify _ _).size
  rw [Array.size_modify];omega
 ·intro k hk hne
  have hs:=h3.size
  refine (Below.heap_setCell _ _ _ _ hne).trans ((fA.block k (by simp;omega) fun hm=>?_).trans (Below.heap_alloc _ _ _ (by omega)))
  have:=(inL k hm).1
  omega
 ·refine ho.kept (grownBy_setCell' w1 Bo v') (.inr fun e=>?_)
  have:=(lo ho Bo e).1
  omega
def PiI (W0:World) (Bo bx:Nat) (pre:List (Int × Bool)) (W:World):Prop :=
 ∃ v,W.heap[Bo]?=some (.cells #[v] 39 (0,0))∧W.ownsRow W0.heap.size 5 1 v pre.length (pre.map encV)∧Fr [Bo,bx] W0 W
theorem ownRow_at {u:World} {base:Nat} {e:TypeId} {s:Value} {k:Nat} {zs:List Value} (hr:u.ownsRow base e 1 s k zs) (g:Nat) (hs:s.ownBlock=some g):base≤g∧∃ c,u.heap[g]?=some (.cells c e (0,0)):=by
 rcases hr.2 with ⟨rfl,_⟩ | ⟨g',cap,cur,rfl,hb,hgb,_⟩
 ·cases hs
 ·cases hs;exact ⟨hb,_,hgb⟩
theorem piI_fr {W0:World} {Bo bx:Nat} (hx:bx < W0.heap.size) (hne:Bo≠bx) (s:List (Int × Bool)) (X Y:World) (h:PiI W0 Bo bx s X) (hf:Fr [bx] X Y):PiI W0 Bo bx s Y:=by
 obtain ⟨v,h1,h2,h3⟩:=h
 refine ⟨v,hf.keep h1 (by simpa using hne),h2.kept (row:=some bx) ⟨hf.os,hf.tape,hf.output,hf.size,fun k hk hn=>hf.block k hk (by simp;exact fun e=>hn (by rw [e]))⟩ (.inr fun e=>?_),h3.trans (hf.mono (by simp))⟩
 have:=(ownRow_at h2 bx e).1
 omega
theorem piI_own {W0:World} {Bo bx:Nat} (hB:Bo < W0.heap.size):OwnFrom W0.heap.size (PiI W0 Bo bx):=by
 rintro s X Y row ⟨v,h1,h2,h3⟩ hg hr
 refine ⟨v,(hg.block _ (blk_lt h1) (fun e=>by have:=(hr _ e.symm).1;omega)).trans h1,h2.kept hg ?_,h3.step (Fr.grown (fp:=row.toList) hg (fun k hk=>by simp [hk])) (fun i hi=>.inr (hr i (by simpa using hi)).1)⟩
 cases hv:v.ownBlock with
 | none=>exact .inl rfl
 | some g =>
  refine .inr fun e=>?_
  obtain ⟨_,o,ho,hc⟩:=hr g e.symm
  obtain ⟨_,c,hcc⟩:=ownRow_at h2 g hv
  rw [hcc] at ho
  cases ho
  cases hc
theorem row_zero {u:World} {base:Nat} {e:TypeId} {sz k:Nat} {s:Value} {zs:List Value} (h:u.ownsRow base e sz s k zs):u.ownsRow 0 e sz s k zs:=⟨h.1,h.2.imp id fun ⟨g,cap,cur,a,_,c⟩=>⟨g,cap,cur,a,Nat.zero_le _,c⟩⟩
theorem grpL_len:∀ (k z:Nat),z < 128 ^ (k+1)→(grpL z).length≤k+1∧0 < (grpL z).length
 | 0,z,h=>by rw [grpL_one (by simpa using h)];simp
 | k+1,z,h=>by
  by_cases h1:z < 128
  ·rw [grpL_one h1];simp
  ·rw [grpL_more h1]
   have:=grpL_len k (z / 128) (by rw [Nat.pow_succ] at h;omega)
   simp only [List.length_cons]
   omega
theorem zig_bits (n:Nat) (hn:n≤4611686018427387903):bits .xor .u64 ((n:Int)*2) ((n:Int) / 9223372036854775808)=((2*n:Nat):Int):=by
 have h:=u64_xor_nat (2*n) 0 (by omega) (by omega)
 rw [show (n:Int)*2=((2*n:Nat):Int) by omega,show (n:Int) / 9223372036854775808=((0:Nat):Int) by omega,h,Nat.xor_zero]
set_option maxRecDepth 100000 in
set_option maxHeartbeats 4000000 in
theorem groups_c (z:Int) (w:World):Calls Tryz.prog 116 #[.int .u64 z] w fun e w'=>e=.returned (.func (.func 161) #[] #[.pointer (some ⟨w.heap.size,0,none⟩)])∧w'=w.alloc (.cells #[.int .u64 z] 210):=by
 go_enter Tryz.func116,Tryz.ntmps116
 go_wp2_with fail
 go_ret
 exact ⟨rfl,rfl⟩
set_option maxRecDepth 100000 in
set_option maxHeartbeats 4000000 in
theorem putInt_c (n:Nat) (hn:n≤4611686018427387903) (w:World):Calls Tryz.prog 69 #[.int .i64 n] w fun e w'=>e=.returned (.tuple #[.string (str (encZ (2*n))),.int .i64 0])∧Fr [] w w':=by
 refine (callsIn_wide (n:=3)).1 (callsIn_of_wp_marks Tryz.func69 rfl trivial ?_ rfl)
 simp only [Tryz.ntmps69,List.size_toArray,List.length_cons,List.length_nil,Nat.reduceAdd,Nat.reduceSub,Array.replicate_succ,Array.replicate_zero,List.push_toArray,List.append_toArray,List.nil_append,List.cons_append]
 refine wpIn_wide.2 ?_
 go_wp2_with fail
 rw [zig_bits n hn]
 refine (groups_c _ _).mono ?_
 rintro e W0 ⟨rfl,hW0⟩
 have hB0:W0.heap[w.heap.size]?=some (.cells #[.slice none 0 0] 39 (0,0)):=by rw [hW0];exact heap_alloc_old _ (qm _ _)
 have hX0:W0.heap[w.heap.size+1]?=some (.cells #[.int .u64 ((2*n:Nat):Int)] 210 (0,0)):=by
  rw [hW0]
  have:=qm (w.alloc (.cells #[.slice none 0 0] 39)) (.cells #[.int .u64 ((2*n:Nat):Int)] 210)
  simpa using this
 have F0:Fr [] w W0:=by rw [hW0];exact (Fr.alloc _ _ _).trans (Fr.alloc _ _ _)
 have hz0:W0.heap.size=w.heap.size+2:=by rw [hW0];simp
 have HB0:=qj hB0;have HX0:=qj hX0;have HF0:=qj F0;have HZ0:=qj hz0
 have hgl:=(grpL_len 9 (2*n) (by omega)).1
 have hgp:=(grpL_len 9 (2*n) (by omega)).2
 clear hB0 hX0 F0 hz0 hW0
 go_wp2_with fail
 refine (wpIn_wide (n:=3)).1 ?_
 apply range_wr (F:=Fence.wide) (n:=3) rfl (by omega) (gf:=161) (lb:=#[.pointer (some ⟨w.heap.size+1,0,none⟩)]) rfl trivial (fun _ _=>rfl) (by rw [HZ0.out];omega)
  (groups_seq 2 (w.heap.size+1) w.heap.size (2*n) W0 (by omega) HX0.out (by omega)) KpO.trans (fun W l o o' hl h=>KpO.put W l o o' hl h) (fun _=>rfl)
  (PiI W0 w.heap.size (w.heap.size+1)) (piI_fr (by rw [HZ0.out];omega) (by omega)) (piI_own (by rw [HZ0.out];omega)) ⟨_,HB0.out,World.ownsRow_nil _ _ _ _,Fr.refl _ _⟩
 case hassign =>
  intro l x W K hK
  gi_wp2
  exact hK
 case hbody =>
  rintro l pre ⟨g,last⟩ W ⟨v,h1,h2,h3⟩ hlt
  have c0:=qd h1 0
  have hsz:=h3.size
  have hBo:w.heap.size < W0.heap.size:=by rw [HZ0.out];omega
  obtain ⟨i0,hi,hz0,hz1,hz2⟩:=info_parts infoBy
  have H1:=qj h1;have H2:=qj h2;have H3:=qj h3;have HI:=qj hi;have HI0:=qj hz0;have HI1:=qj hz1;have HI2:=qj hz2
  clear h1 h2 h3 hi hz0 hz1 hz2
  cases last
  ·gi_wp2_with (gi_at_builtin;refine wpListIn_append_own _ rfl _ _ 39 rfl W0.heap.size 5 i0 (.int .u8 0) 1 1 Tryz.underlying39 HI.out HI0.out HI1.out HI2.out rfl (by decide) _ _ _ rfl (H2.out.alloc _) ⟨W.heap.size,0,none⟩ 1 1 [.int .u8 (bits .or .u8 g 128)] rfl rfl (cell_one_new _ _ _) (by simp [Value.oneCell']) (by simp only [maxLen];omega) (by omega) (by simp;omega) ?_;intro v' w1 hown hgrow _;obtain ⟨g',cap',rfl⟩:=ownsRow_succ hown;obtain ⟨k1,k2,k3,k4,k5,k6⟩:=app_box hBo H1.out H2.out H3.out hown hgrow;have hc1:=qd k1 0;have hf1:=ql k1 0;have K2:=qj k2;have K3:=qj k3;have K4:=qj k4;have K5:=qj k5;have K6:=qj k6;clear k1 k2 k3 k4 k5 k6 hown hgrow)
   exact ⟨K2.out,K3.out,_,K4.out,by simpa [encV] using K5.out,K6.out⟩
  ·gi_wp2_with (gi_at_builtin;refine wpListIn_append_own _ rfl _ _ 39 rfl W0.heap.size 5 i0 (.int .u8 0) 1 1 Tryz.underlying39 HI.out HI0.out HI1.out HI2.out rfl (by decide) _ _ _ rfl (H2.out.alloc _) ⟨W.heap.size,0,none⟩ 1 1 [.int .u8 g] rfl rfl (cell_one_new _ _ _) (by simp [Value.oneCell']) (by simp only [maxLen];omega) (by omega) (by simp;omega) ?_;intro v' w1 hown hgrow _;obtain ⟨g',cap',rfl⟩:=ownsRow_succ hown;obtain ⟨k1,k2,k3,k4,k5,k6⟩:=app_box hBo H1.out H2.out H3.out hown hgrow;have hc1:=qd k1 0;have hf1:=ql k1 0;have K2:=qj k2;have K3:=qj k3;have K4:=qj k4;have K5:=qj k5;have K6:=qj k6;clear k1 k2 k3 k4 k5 k6 hown hgrow)
   exact ⟨K2.out,K3.out,_,K4.out,by simpa [encV] using K5.out,K6.out⟩
 case hdone =>
  rintro D xs W hD hS ⟨v,h1,h2,h3⟩ hK
  have hS':xs=grpL (2*n):=hS
  subst hS'
  rw [encV_grp] at h2
  obtain ⟨k,hk⟩:∃ k,(grpL (2*n)).length=k+1:=⟨(grpL (2*n)).length - 1,by omega⟩
  rw [hk] at h2
  obtain ⟨g,cap,rfl⟩:=ownsRow_succ h2
  have c0:=qd h1 0
  have HSL:=qj (sl_of_row (row_zero h2))
  have hel:(encZ (2*n)).length=k+1:=by
   have:=congrArg List.length (encV_grp (2*n))
   simp only [List.length_map,byteCells] at this
   omega
  have HEL:=qj hel
  have hwD:w.heap.size≤D:=by rw [HZ0.out] at hD;omega
  have FQ:=(HF0.out.step h3 (fun i hi=>by simp at hi;exact .inr (by omega))).step (Fr.grown (fp:=[D]) (grownBy_putObj' W D (.deferred none)) (fun k hk=>by cases hk;simp)) (fun i hi=>.inr (by rw [List.mem_singleton] at hi;omega))
  have HQ:=qj FQ;have HKE:=qj hK
  clear h1 h2 h3 hK hS hk hel FQ hD
  go_wp2_with (first | ((with_reducible refine wpList_of_wp (o:=⟨some 32,_,_,_,_,_⟩) rfl (fun K hK=>?_));apply stopD;case _other=>exact trivial))
  (refine stopD ?_ ?_;rotate_left;exact trivial)
  refine wp_sl_str (.tmp 31) rfl _ (k+1) cap _ rfl HSL.out (by omega) HEL.out ?_
  refine hK _ _ ?_
  clear hK K
  go_wp2_with fail
  refine ⟨by simp,.inl ⟨_,_,rfl,run_takeDeferred HKE.out,?_⟩⟩
  exact ⟨_,results_tmp2 rfl _ _ _,rfl,HQ.out⟩
end
section
open Go.RowKit Go.Lib
theorem str_app (l:List UInt8) (r:ByteArray):str l++r=str (l++bts r):=by
 apply ByteArray.ext
 simp [str,bts]
set_option maxRecDepth 100000 in
theorem putStr_c (r:ByteArray) (hr:r.size≤65536) (w:World):Calls Tryz.prog 45 #[.string r] w fun e w'=>e=.returned (.tuple #[.string (str (putS r)),.int .i64 0])∧Fr [] w w':=by
 go_enter Tryz.func45,Tryz.ntmps45
 go_wp2_with fail
 refine (putInt_c r.size (by omega) _).mono ?_
 rintro e w1 ⟨rfl,f1⟩
 have F1:=qj f1
 have hz:(str (encZ (2*r.size))).size≤3:=(encZ_len (2*r.size) (by omega)).1
 clear f1
 go_wp2_with fail
 go_ret2
 exact ⟨by rw [str_app];rfl,F1.out⟩
def intV:Option (Int × Nat)→Value
 | none=>.tuple #[.int .i64 0,.int .i64 0,.int .i64 10]
 | some (n,q)=>.tuple #[.int .i64 n,.int .i64 q,.int .i64 0]
theorem pow7_le {k:Nat} (hk:k < 9):2 ^ (7*k)≤72057594037927936:=Nat.pow_le_pow_right (by omega) (by omega:7*k≤56)
theorem and127b (b:Nat) (hb:b < 256):bits .and .u8 (b:Int) 127=((b % 128:Nat):Int):=by
 have h:=u8_and_nat b 127 hb (by omega)
 rw [show ((127:Nat):Int)=127 from rfl] at h
 rw [h,show (127:Nat)=2 ^ 7 - 1 from rfl,Nat.and_two_pow_sub_one_eq_mod]
theorem group_bits (b k:Nat) (hb:b < 256) (hk:k < 9):IntKind.u64.wrap (IntKind.u64.wrap (bits .and .u8 (b:Int) 127)*2 ^ (7*k))=((b % 128*2 ^ (7*k):Nat):Int):=by
 have hp:=pow7_le hk
 have h1:b % 128 < 128:=Nat.mod_lt _ (by omega)
 have h2:b % 128*2 ^ (7*k)≤127*72057594037927936:=Nat.mul_le_mul (by omega) hp
 have e:(2:Int) ^ (7*k)=((2 ^ (7*k):Nat):Int):=by rw [Int.natCast_pow];rfl
 rw [and127b b hb,IntKind.wrap_u64,IntKind.wrap_u64,e]
 generalize 2 ^ (7*k)=q at *
 have m1:((b % 128:Nat):Int) % 18446744073709551616=((b % 128:Nat):Int):=Int.emod_eq_of_lt (by omega) (by omega)
 rw [m1,← Int.natCast_mul]
 exact Int.emod_eq_of_lt (by omega) (by omega)
theorem or_bits (c b k:Nat) (hc:c < 2 ^ (7*k)) (hk:k < 9):bits .or .u64 (c:Int) ((b % 128*2 ^ (7*k):Nat):Int)=((c+b % 128*2 ^ (7*k):Nat):Int):=by
 have hp:=pow7_le hk
 have h1:b % 128 < 128:=Nat.mod_lt _ (by omega)
 have h2:b % 128*2 ^ (7*k)≤127*72057594037927936:=Nat.mul_le_mul (by omega) hp
 have h:=bits_or_u64_nat c (b % 128*2 ^ (7*k)) (by omega) (by omega)
 rw [h]
 congr 1
 rw [Nat.mul_comm,Nat.or_comm,← Nat.two_pow_add_eq_or_of_lt hc]
 omega
theorem sum_lt (c b k:Nat) (hc:c < 2 ^ (7*k)) (hk:k < 9):c+b % 128*2 ^ (7*k) < 2 ^ (7*(k+1))∧c+b % 128*2 ^ (7*k) < 9223372036854775808:=by
 have hp:=pow7_le hk
 have h1:b % 128≤127:=by have:=Nat.mod_lt b (show 0 < 128 by omega);omega
 have h2:b % 128*2 ^ (7*k)≤127*2 ^ (7*k):=Nat.mul_le_mul_right _ h1
 have h3:2 ^ (7*(k+1))=128*2 ^ (7*k):=by rw [show 7*(k+1)=7*k+7 by omega,Nat.pow_add];omega
 omega
theorem w64_in (x:Int) (h:-9223372036854775808≤x∧x≤9223372036854775807):wrap64 x=x:=by
 unfold wrap64
 omega
theorem xor_swap64 (a b:Int):bits .xor .i64 a b=bits .xor .i64 b a:=by
 show IntKind.i64.wrap ((BitVec.ofInt 64 a ^^^ BitVec.ofInt 64 b).toNat:Int)=IntKind.i64.wrap ((BitVec.ofInt 64 b ^^^ BitVec.ofInt 64 a).toNat:Int)
 rw [BitVec.xor_comm]
theorem xor_zero64 (a:Nat) (ha:a < 9223372036854775808):bits .xor .i64 (a:Int) 0=(a:Int):=by
 show IntKind.i64.wrap ((BitVec.ofInt 64 (a:Int) ^^^ BitVec.ofInt 64 0).toNat:Int)=_
 have h1:BitVec.ofInt 64 0=0#64:=by decide
 rw [h1,BitVec.xor_zero,ofInt_u64 a (by omega)]
 exact IntWalk.i64_in _ (by omega)
theorem unz_bits (z:Nat) (hz:z < 9223372036854775808):bits .xor .i64 (wrap64 ((z:Int) / 2)) (wrap64 (-wrap64 (bits .and .u64 (z:Int) 1)))=unz z:=by
 have h1:bits .and .u64 (z:Int) 1=((z % 2:Nat):Int):=by
  have h:=bits_and_u64_nat z 1 (by omega) (by omega)
  rw [show ((1:Nat):Int)=1 from rfl] at h
  rw [h,show (1:Nat)=2 ^ 1 - 1 from rfl,Nat.and_two_pow_sub_one_eq_mod]
 have w1:wrap64 ((z:Int) / 2)=((z / 2:Nat):Int):=by
  rw [show (z:Int) / 2=((z / 2:Nat):Int) by omega]
  exact w64_in _ (by omega)
 rw [h1,w1]
 rcases Nat.mod_two_eq_zero_or_one z with h | h
 ·rw [h]
  have e1:wrap64 ((0:Nat):Int)=0:=w64_in _ (by omega)
  have e2:wrap64 (-0)=0:=w64_in _ (by omega)
  rw [e1,e2,unz,if_pos h,xor_zero64 (z / 2) (by omega)]
 ·rw [h]
  have e1:wrap64 ((1:Nat):Int)=1:=w64_in _ (by omega)
  have e2:wrap64 (-1)=-1:=w64_in _ (by omega)
  rw [e1,e2,unz,if_neg (by omega),xor_swap64,i64_not (z / 2) (by omega)]
  omega
set_option maxRecDepth 100000 in
set_option maxHeartbeats 4000000 in
theorem int_c (s:ByteArray) (p:Nat) (hp:p≤s.size) (hs:s.size≤4611686018427387903) (w:World):Calls Tryz.prog 70 #[.string s,.int .i64 p] w fun e w'=>w=w'∧e=.returned (intV (getI (bts s) p)):=by
 have hd0:decide ((p:Int) < 0)=false:=by simp
 have hd1:decide (s.size < p)=false:=by simpa using hp
 have hd2:decide ((s.size:Int) < (p:Int))=false:=by simp;omega
 go_enter Tryz.func70,Tryz.ntmps70
 go_wp2_with fail
 clear hd0 hd1 hd2
 go_loopw [7,19] (fun z i wr=>∃ k c:Nat,k≤9∧z=.int .u64 c∧i=.int .i64 k∧w=wr∧Shut (c < 2 ^ (7*k))∧Shut (getI (bts s) p=getGo (bts s) p (9 - k) k c)) (fun _ i _=>9 - (RowKit.intOf i).toNat)
 case atStart=>exact ⟨0,0,by omega,rfl,rfl,rfl,⟨by omega⟩,⟨rfl⟩⟩
 case round =>
  obtain ⟨k,c,hk,rfl,rfl,rfl,HC,HG⟩:=hrel
  by_cases hlt:k < 9
  ·by_cases hin:p+k < s.size
   ·have hat:(bts s)[p+k]?=some s[p+k]:=by
     rw [List.getElem?_eq_getElem (by exact hin)];rfl
    have hG2:getI (bts s) p=if 128≤s[p+k].toNat then getGo (bts s) p (8 - k) (k+1) (c+s[p+k].toNat % 128*2 ^ (7*k)) else if (s[p+k].toNat=0∧0 < k)∨unz (c+s[p+k].toNat % 128*2 ^ (7*k)) < -4611686018427387903 then none else some (unz (c+s[p+k].toNat % 128*2 ^ (7*k)),p+k+1):=by
     rw [HG.out,show 9 - k=(8 - k)+1 by omega,getGo_at _ _ _ _ _ hat]
    have hb:s[p+k].toNat < 256:=UInt8.toNat_lt _
    have HG2:Shut _:=⟨hG2⟩
    have hA:=group_bits s[p+k].toNat k hb hlt
    have hB:=or_bits c s[p+k].toNat k HC.out hlt
    have HS:Shut _:=⟨sum_lt c s[p+k].toNat k HC.out hlt⟩
    clear hat hG2 HG
    have HX:Shut _:=⟨unz_bits _ HS.out.2⟩
    generalize hz:c+s[p+k].toNat % 128*2 ^ (7*k)=z at *
    generalize s[p+k].toNat % 128*2 ^ (7*k)=y at *
    have hD:=HX.out
    generalize hn:unz z=n at *
    clear hz hn HX
    by_cases hge:128≤s[p+k].toNat
    ·have HR:Shut (getI (bts s) p=getGo (bts s) p (8 - k) (k+1) z):=⟨by rw [HG2.out,if_pos hge]⟩
     clear hD
     go_wp2_with fail
     go_roundw
     case rel=>exact ⟨k+1,z,by omega,rfl,by go_num,trivial,⟨HS.out.1⟩,⟨by rw [HR.out,show 9 - (k+1)=8 - k by omega]⟩⟩
     case measure=>simp [RowKit.intOf];omega
    ·by_cases hbad:(s[p+k].toNat=0∧0 < k)∨n < -4611686018427387903
     ·have HR:Shut (getI (bts s) p=none):=⟨by rw [HG2.out,if_neg hge,if_pos hbad]⟩
      go_wp2_with fail
      all_goals
       go_ret3
       exact ⟨rfl,by rw [HR.out];rfl⟩
     ·have HR:Shut (getI (bts s) p=some (n,p+k+1)):=⟨by rw [HG2.out,if_neg hge,if_neg hbad]⟩
      go_wp2_with fail
      all_goals
       go_ret3
       exact ⟨rfl,by rw [HR.out];simp [intV] <;> omega⟩
   ·have HR:Shut (getI (bts s) p=none):=⟨by
     rw [HG.out,show 9 - k=(8 - k)+1 by omega,getGo,List.getElem?_eq_none (by rw [bts_len];omega)]⟩
    clear HG
    go_wp2_with fail
    go_ret3
    exact ⟨rfl,by rw [HR.out];rfl⟩
  ·have HR:Shut (getI (bts s) p=none):=⟨by rw [HG.out,show 9 - k=0 by omega,getGo]⟩
   clear HG
   go_wp2_with fail
   go_ret3
   exact ⟨rfl,by rw [HR.out];rfl⟩
end
section
open Go.RowKit Go.Lib
def strV:Option (List UInt8 × Nat)→Value
 | none=>.tuple #[.string ⟨#[]⟩,.int .i64 0,.int .i64 10]
 | some (r,q)=>.tuple #[.string (str r),.int .i64 q,.int .i64 0]
theorem getGo_bound (s:List UInt8) (p:Nat):∀ (f i z:Nat) (n:Int) (q:Nat),getGo s p f i z=some (n,q)→q≤s.length∧p≤q
 | 0,_,_,_,_,h=>by simp [getGo] at h
 | f+1,i,z,n,q,h=>by
  cases hb:s[p+i]? with
  | none=>rw [getGo,hb] at h;cases h
  | some b =>
   have hl:=(List.getElem?_eq_some_iff.1 hb).1
   rw [getGo_at _ _ _ _ _ hb] at h
   split at h
   ·exact getGo_bound s p f (i+1) _ n q h
   ·split at h
    ·cases h
    ·simp only [Option.some.injEq,Prod.mk.injEq] at h
     omega
theorem getI_bound {s:List UInt8} {p:Nat} {n:Int} {q:Nat} (h:getI s p=some (n,q)):q≤s.length∧p≤q:=getGo_bound s p 9 0 0 n q h
theorem extract_str (s:ByteArray) (a b:Nat):s.extract a b=str (((bts s).drop a).take (b - a)):=by
 apply ByteArray.ext
 apply Array.ext'
 simp [str,bts,List.extract_eq_take_drop]
set_option maxRecDepth 100000 in
set_option maxHeartbeats 4000000 in
theorem string_c (s:ByteArray) (p:Nat) (hp:p≤s.size) (hs:s.size≤4611686018427387903) (w:World):Calls Tryz.prog 92 #[.string s,.int .i64 p] w fun e w'=>w=w'∧e=.returned (strV (getS (bts s) p)):=by
 have CI:=qj (int_c s p hp hs w)
 cases hg:getI (bts s) p with
 | none =>
  rw [hg] at CI
  unfold intV at CI
  have HR:Shut (getS (bts s) p=none):=⟨by rw [getS,hg]⟩
  clear hg
  go_enter Tryz.func92,Tryz.ntmps92
  go_wp2_with fail
  refine CI.out.mono ?_
  rintro e w1 ⟨rfl,rfl⟩
  clear CI
  go_wp2_with fail
  go_ret3
  exact ⟨rfl,by rw [HR.out];rfl⟩
 | some x =>
  obtain ⟨n,q⟩:=x
  have hb:=getI_bound hg
  rw [bts_len] at hb
  obtain ⟨hq1,hq2⟩:=hb
  rw [hg] at CI
  unfold intV at CI
  have HG:Shut (getS (bts s) p=if n < 0∨65536 < n∨((bts s).length:Int) - q < n then none else some (((bts s).drop q).take n.toNat,q+n.toNat)):=⟨by rw [getS,hg]⟩
  rw [bts_len] at HG
  clear hg
  by_cases hbad:n < 0∨65536 < n∨(s.size:Int) - q < n
  ·have HR:Shut (getS (bts s) p=none):=⟨by rw [HG.out,if_pos hbad]⟩
   clear HG
   go_enter Tryz.func92,Tryz.ntmps92
   go_wp2_with fail
   refine CI.out.mono ?_
   rintro e w1 ⟨rfl,rfl⟩
   clear CI
   go_wp2_with fail
   all_goals
    go_ret3
    exact ⟨rfl,by rw [HR.out];rfl⟩
  ·have HR:Shut (getS (bts s) p=some (((bts s).drop q).take n.toNat,q+n.toNat)):=⟨by rw [HG.out,if_neg hbad]⟩
   obtain ⟨m,rfl⟩:=Int.eq_ofNat_of_zero_le (show 0≤n by omega)
   clear HG
   go_enter Tryz.func92,Tryz.ntmps92
   go_wp2_with fail
   refine CI.out.mono ?_
   rintro e w1 ⟨rfl,rfl⟩
   clear CI
   go_wp2_with fail
   go_ret3
   refine ⟨rfl,?_⟩
   rw [HR.out,extract_str,Nat.add_sub_cancel_left]
   simp [strV]
end
section
open Go.RowKit Go.Lib
theorem lays166:Go.Proofs.Lays.n166 Tryz.prog Tryz.lays156_ren:={
 mixed:=Tryz.lays156.mixed
 f166:=Tryz.lays156.f166
 f240:=Tryz.lays156.f240
 f276:=Tryz.lays156.f276
 t0:=Tryz.lays156.t0
 a0:=Tryz.lays156.a0
 z0:=Tryz.lays156.z0
 v0:=Tryz.lays156.v0
 t3:=Tryz.lays156.t3
 a3:=Tryz.lays156.a3
 z3:=Tryz.lays156.z3
 v3:=Tryz.lays156.v3
 t4:=Tryz.lays156.t4
 a4:=Tryz.lays156.a4
 z4:=Tryz.lays156.z4
 v4:=Tryz.lays156.v4
 t9:=Tryz.lays156.t9
 a9:=Tryz.lays156.a9
 z9:=Tryz.lays156.z9
 v9:=Tryz.lays156.v9
 t20:=Tryz.lays156.t20
 a20:=Tryz.lays156.a20
 z20:=Tryz.lays156.z20
 v20:=Tryz.lays156.v20
 t37:=Tryz.lays156.t37
 a37:=Tryz.lays156.a37
 z37:=Tryz.lays156.z37
 v37:=Tryz.lays156.v37
 t70:=Tryz.lays156.t70
 a70:=Tryz.lays156.a70
 z70:=Tryz.lays156.z70
 v70:=Tryz.lays156.v70
 t72:=Tryz.lays156.t72
 a72:=Tryz.lays156.a72
 z72:=Tryz.lays156.z72
 v72:=Tryz.lays156.v72
 t75:=Tryz.lays156.t75
 a75:=Tryz.lays156.a75
 z75:=Tryz.lays156.z75
 v75:=Tryz.lays156.v75
 t164:=Tryz.lays156.t164
 a164:=Tryz.lays156.a164
 z164:=Tryz.lays156.z164
 v164:=Tryz.lays156.v164 }
end
end Go.Proofs.YtledkokhghjfmaaGreatDoor
