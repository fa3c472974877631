/-
  strings.Builder with a narrow frame: only the builder's own blocks change.
-/
import Derived.Test.YtledkokhghjfmaaGreatDoorPS12
import Derived.Test.YtledkokhghjfmaaGreatDoorPS10
namespace Go.Proofs.YtledkokhghjfmaaGreatDoor
section
open Go.RowKit Go.Lib
structure BldAt (w:World) (b:Nat) (p v:Value) (l:List UInt8):Prop where
 blk:w.heap[b]?=some (.cells #[p,v] 215 (0,0))
 row:w.ownsRow 0 5 1 v l.length (byteCells l)
 ne:v.ownBlock≠some b
def bldB (b:Nat) (v:Value):List Nat:=b :: v.ownBlock.toList
theorem append_str (v:Value) (l:List UInt8) (s:ByteArray) (ty:TypeId) (w:World) (hown:w.ownsRow 0 5 1 v l.length (byteCells l)) (h:l.length+s.size≤140737488355328) :
  ∃ ga cap w',(Builtin.append_ #[39,9] ty #[v,.string s]).run Tryz.prog w=.ok (.slice ga (l.length+s.size) cap) w'∧w'.ownsRow 0 5 1 (.slice ga (l.length+s.size) cap) (l++bts s).length (byteCells (l++bts s))∧Fr v.ownBlock.toList w w' ∧
   ((Value.slice ga (l.length+s.size) cap).ownBlock=v.ownBlock∨(Value.slice ga (l.length+s.size) cap).ownBlock=some w.heap.size):=by
 obtain ⟨i,hi,hz,hsize,hby⟩:=info_parts infoBy
 have ht:=Tryz.underlying39
 have hu:=Tryz.underlying9
 have e1:(l++bts s).length=l.length+s.size:=by simp [bts_len]
 have e2:byteCells (l++bts s)=byteCells l++strCells s:=by simp [byteCells,strCells,bts]
 rw [e1,e2]
 have hsmall:l.length+s.size≤maxLen:=by simp only [maxLen];omega
 have hxl:(byteCells l).length=l.length:=by simp [byteCells]
 have grown:∀ old,old < l.length+s.size→∀ (row:List Nat),
   (w.drew.alloc (.cells ((byteCells l).toArray++(strCells s).toArray++Builtin.zeroCells (Value.int .u8 0).cells (grownCap w (l.length+s.size) old 5 - (l.length+s.size))) 5)).ownsRow 0 5 1
    (.slice (some ⟨w.heap.size,0,none⟩) (l.length+s.size) (grownCap w (l.length+s.size) old 5)) (l.length+s.size) (byteCells l++strCells s) ∧
   Fr row w (w.drew.alloc (.cells ((byteCells l).toArray++(strCells s).toArray++Builtin.zeroCells (Value.int .u8 0).cells (grownCap w (l.length+s.size) old 5 - (l.length+s.size))) 5)):=by
  intro old ho row
  have hge:=grownCap_ge w (l.length+s.size) old 5
  have hcm:grownCap w (l.length+s.size) old 5≤maxLen:=grownCap_le_maxLen w (l.length+s.size) old 5 hsmall
  refine ⟨⟨by rw [List.length_append,hxl,strCells_length,Nat.mul_one],.inr ⟨w.heap.size,_,_,rfl,Nat.zero_le _,qm w.drew _,hge,hcm,?_,?_⟩⟩,(Fr.drew _ _).trans (Fr.alloc _ _ _)⟩
  ·have hz1:(Value.int IntKind.u8 0).cells.size=1:=rfl
   simp only [Array.size_append,List.size_toArray,size_zeroCells,hz1,hxl,strCells_length]
   omega
  ·simp only [Array.toList_append,Nat.mul_one]
   exact List.take_left' (by rw [List.length_append,hxl,strCells_length])
 rcases hown.2 with ⟨rfl,h0⟩ | ⟨g,cap,cur,rfl,hbg,hg,hnc,hcm,hcs,htake⟩
 ·obtain rfl:l=[]:=List.eq_nil_of_length_eq_zero h0
  by_cases hm:s.size=0
  ·have hn:strCells s=[]:=List.eq_nil_of_length_eq_zero (by rw [strCells_length];exact hm)
   refine ⟨none,0,w,?_,by rw [hm,hn];exact World.ownsRow_nil w 0 5 1,Fr.refl _ _,.inl rfl⟩
   have hf:=run_firstCells_string (P:=Tryz.prog) w 1 s
   rw [hm] at hf
   simp [Builtin.append_,run_underlying ht,run_underlying hu,sizeOf,typeInfo,hi,hsize,Builtin.lenOf,hm,hf]
  ·have hr:=run_append_nil_string (P:=Tryz.prog) w 39 9 ty 5 i (.int .u8 0) ht hu hi hz s (by omega) (by simp at h;omega) (by rw [hby];simp at h;omega)
   have hgr:=grown 0 (by simp;omega) (Value.ownBlock (.slice none 0 0)).toList
   have e3:(s.data.map fun b=>Value.int .u8 b.toNat)=(strCells s).toArray:=by
    apply Array.ext'
    simp [strCells]
   rw [e3] at hr
   simp only [List.length_nil,Nat.zero_add,byteCells,List.map_nil,List.nil_append,Array.empty_append] at hgr ⊢
   exact ⟨_,_,_,hr,hgr.1,hgr.2,.inr rfl⟩
 ·by_cases hroom:l.length+s.size≤cap
  ·have hcs':cur.size=cap:=by simpa using hcs
   have hr:=run_append_room_string (P:=Tryz.prog) w 39 9 ty 5 i ht hu hi hsize g l.length cap cur hg s hroom (by omega)
   refine ⟨_,_,_,hr,⟨by rw [List.length_append,hxl,strCells_length,Nat.mul_one],.inr ⟨g,cap,_,rfl,hbg,setRow_heap w g cur _ 5 _ hg,hroom,hcm,?_,?_⟩⟩,Fr.setRow _ _ (by simp [Value.ownBlock]),.inl rfl⟩
   ·simp only [List.size_toArray,List.length_append,List.length_take,List.length_drop,Array.length_toList,strCells_length]
    omega
   ·have ht':cur.toList.take l.length=byteCells l:=by simpa using htake
    rw [ht',Nat.mul_one]
    exact List.take_left' (by rw [List.length_append,hxl,strCells_length])
  ·have holds:∀ j u,(byteCells l)[j]?=some u→w.cell? ((⟨g,0,none⟩:Addr).add j)=some u:=hown.cells (g:=g) rfl
   have hr:=run_append_grow_string (P:=Tryz.prog) w 39 9 ty 5 i (.int .u8 0) ht hu hi hz ⟨g,0,none⟩ l.length cap (byteCells l) (by rw [hsize];simp [byteCells]) holds s (by omega) (by omega) (by rw [hby];exact growslice_fits (by omega) (by omega))
   have hgr:=grown cap (by omega) (Value.ownBlock (.slice (some ⟨g,0,none⟩) l.length cap)).toList
   exact ⟨_,_,_,hr,hgr.1,hgr.2,.inr rfl⟩
theorem wp_append_str {o:Oper} {a:Act} {w:World} {K:Act→World→Prop} {Q:Exit→Act→World→Prop} (s x:Operand) (ho:o.op=.call { callee:=.builtin .append,args:=#[s,x],argTypes:=#[39,9] })
  (v:Value) (l:List UInt8) (sb:ByteArray) (hs:a.eval s=v) (hx:a.eval x=.string sb) (hown:w.ownsRow 0 5 1 v l.length (byteCells l)) (hlen:l.length+sb.size≤140737488355328)
  (h:∀ ga cap w',w'.ownsRow 0 5 1 (.slice ga (l.length+sb.size) cap) (l++bts sb).length (byteCells (l++bts sb))→Fr v.ownBlock.toList w w'→((Value.slice ga (l.length+sb.size) cap).ownBlock=v.ownBlock∨(Value.slice ga (l.length+sb.size) cap).ownBlock=some w.heap.size)→K (a.put o.dst (.slice ga (l.length+sb.size) cap)) w'):o.wp Tryz.prog a w K Q:=by
 obtain ⟨ga,cap,w',hr,h2,h3,h4⟩:=append_str v l sb o.type w hown hlen
 unfold Oper.wp execOp
 simp only [ho,resolve,invoke,builtin,Sem.run_bind,Sem.run_pure,Result.andThen_ok,List.map_toArray,List.map_cons,List.map_nil,hs,hx,hr]
 exact h ga cap w' h2 h3 h4
end
section
open Go.RowKit Go.Lib
theorem BldAt.fr {w w':World} {b:Nat} {p v:Value} {l:List UInt8} {S:List Nat} (h:BldAt w b p v l) (hf:Fr S w w') (hS:∀ k,k∈bldB b v→k∉S):BldAt w' b p v l :=
 ⟨hf.keep h.blk (hS b (by simp [bldB])),row_fr h.row hf (fun g hg=>hS g (by simp [bldB,hg])),h.ne⟩
theorem copy_c (b:Nat) (p v:Value) (l:List UInt8) (w:World) (h:BldAt w b p v l) (hp:p=.pointer none∨p=.pointer (some ⟨b,0,none⟩)) :
  Calls Tryz.prog 162 #[.pointer (some ⟨b,0,none⟩)] w fun e w'=>e=.returned (.tuple #[])∧BldAt w' b (.pointer (some ⟨b,0,none⟩)) v l∧Fr [b] w w':=by
 have c0:=qd h.blk 0
 rcases hp with rfl | rfl
 ·refine (Go.Proofs.Any.Builder_copyCheck_fresh (ρ:=Tryz.lays156_ren) { lays166 with } Tryz.Builder_Extra_156.toX72 b w c0 (by simp [World.shape?,h.blk];rfl) (ql h.blk 0)).mono ?_
  rintro e w' ⟨rfl,rfl⟩
  have f:Fr [b] w (w.setCell ⟨b,0,none⟩ (.pointer (some ⟨b,0,none⟩))):=Fr.setCell _ _ (by simp)
  refine ⟨rfl,⟨?_,row_fr h.row f (fun g hg=>by simp;rintro rfl;exact h.ne hg),h.ne⟩,f⟩
  have:=qs (i:=0) (.pointer (some ⟨b,0,none⟩)) h.blk
  simpa using this
 ·refine (Go.Proofs.Any.Builder_copyCheck_used (ρ:=Tryz.lays156_ren) { lays166 with } Tryz.Builder_Extra_156.toX72 b w c0).mono ?_
  rintro e w' ⟨rfl,rfl⟩
  exact ⟨rfl,h,Fr.refl _ _⟩
set_option maxRecDepth 100000 in
set_option maxHeartbeats 1000000 in
theorem bwrite_c (b:Nat) (p v:Value) (l:List UInt8) (s:ByteArray) (w:World) (h:BldAt w b p v l) (hp:p=.pointer none∨p=.pointer (some ⟨b,0,none⟩)) (hlen:l.length+s.size≤140737488355328) :
  Calls Tryz.prog 120 #[.pointer (some ⟨b,0,none⟩),.string s] w fun e w'=>e=.returned (.tuple #[.int .i64 s.size,.nilIface])∧∃ v',BldAt w' b (.pointer (some ⟨b,0,none⟩)) v' (l++bts s)∧Upd (bldB b v) (bldB b v') w w':=by
 have hbl:=blk_lt h.blk
 have CC:=qj (copy_c b p v l w h hp)
 clear h hp
 go_enter Tryz.func120,Tryz.ntmps120
 go_wp2_with fail
 refine CC.out.mono ?_
 rintro e w1 ⟨rfl,h1,f1⟩
 have c1:=qd h1.blk 1
 have HB:=qj h1;have HF:=qj f1
 clear h1 f1 CC
 obtain ⟨a0,n0,k0,rfl⟩:∃ a0 n0 k0,v=.slice a0 n0 k0:=by
  rcases HB.out.row.2 with ⟨rfl,_⟩ | ⟨g,cap,cur,rfl,_⟩
  ·exact ⟨_,_,_,rfl⟩
  ·exact ⟨_,_,_,rfl⟩
 go_wp2_with (first | ((with_reducible refine wpList_of_wp (o:=⟨some 14,_,_,_,_,_⟩) rfl (fun K hK=>?_));apply stopD;case _other=>exact trivial))
 (refine stopD ?_ ?_;rotate_left;exact trivial)
 refine wp_append_str (.tmp 12) (.tmp 13) rfl (.slice a0 n0 k0) l s rfl rfl HB.out.row hlen ?_
 intro ga cap w2 r2 f2 o2
 refine hK _ _ ?_
 clear hK K
 have b2:=f2.keep HB.out.blk (fun hm=>HB.out.ne (by simpa using hm))
 have y2:=ql b2 1
 have d2:=qd b2 1
 have HB2:=qj b2;have HR2:=qj r2;have HF2:=qj f2;have HO:=qj o2
 clear b2 r2 f2 o2 c1
 go_wp2_with fail
 go_ret2
 have F3:Fr [b] w2 (w2.setCell ⟨b,1,none⟩ (.slice ga (l.length+s.size) cap)):=Fr.setCell _ _ (by simp)
 have hne:(Value.slice ga (l.length+s.size) cap).ownBlock≠some b:=fun e=>by
  rcases HO.out with h | h
  ·exact HB.out.ne (h ▸ e)
  ·rw [e] at h
   have:=HF.out.size
   simp at h
   omega
 refine ⟨rfl,.slice ga (l.length+s.size) cap,⟨?_,row_fr HR2.out F3 (fun g hg=>by simp;rintro rfl;exact hne hg),hne⟩,?_,?_⟩
 ·have:=qs (i:=1) (.slice ga (l.length+s.size) cap) HB2.out
  simpa using this
 ·exact ((HF.out.mono (by simp [bldB])).trans (HF2.out.mono (fun k hk=>by simp [bldB];right;simpa using hk))).trans (F3.mono (by simp [bldB]))
 ·intro k hk
  simp only [bldB,List.mem_cons,Option.mem_toList] at hk ⊢
  rcases hk with hk | hk
  ·exact .inl (.inl hk)
  ·rcases HO.out with h | h
   ·exact .inl (.inr (h ▸ hk))
   ·rw [h] at hk
    have:=HF.out.size
    simp at hk
    right;omega
theorem Fr.freeze {fp:List Nat} {w:World} {p:Addr} (h:p.block∈fp) (n:Nat):Fr fp w (w.freeze p n):=by
 unfold World.freeze
 split
 ·exact Fr.refl _ _
 ·refine ⟨rfl,rfl,rfl,by simp,fun k hk hn=>?_⟩
  simp only [Array.getElem?_modify]
  rw [if_neg (by rintro rfl;exact hn h)]
set_option maxRecDepth 100000 in
set_option maxHeartbeats 2000000 in
theorem bstring_nil (b:Nat) (p:Value) (w:World) (h:BldAt w b p (.slice none 0 0) []):Calls Tryz.prog 122 #[.pointer (some ⟨b,0,none⟩)] w fun e w'=>e=.returned (.string ⟨#[]⟩)∧Fr [] w w':=by
 have hUS:∀ (W:World) (q:Option Addr),(Builtin.unsafeString_ #[262,3] 9 #[.pointer q,.int .i64 0]).run Tryz.prog W=.ok (.string .empty) W:=fun W q=>Lib.run_unsafeString_none W _ _ _ q
 have hSD:∀ W:World,(Builtin.unsafeSliceData_ #[39] 262 #[.slice none 0 0]).run Tryz.prog W=.ok (.pointer none) W:=fun _=>rfl
 have HB:=qj h.blk
 clear h
 go_enter Tryz.func122,Tryz.ntmps122
 go_wp2_with fail
 refine reg_tree (Fr [] w) 11 (.take 0 (.take 1 (.take 2 (.take 3 (.take 4 (.take 5 (.take 6 (.take 7 (.take 8 (.take 9 (.one 10 (.one 11 .nil)))))))))))) (by kernel_rfl) (by kernel_rfl) (by kernel_rfl) rfl ?_
 have F0:Fr [] w w.drew:=Fr.drew _ _
 generalize w.drew=WC at F0 ⊢
 iterate 10 (refine tree_take (v:=?_) rfl rfl rfl F0 (fun w hS=>?_) ?_;rotate_left;(focus (have c1:=qd (hS.keep HB.out (by simp)) 1;clear hS;go_simp;rfl));simp only [qu,qv,qx])
 refine tree_one rfl rfl (fun K hK=>?_)
 go_simp
 try go_upon
 try go_simp
 refine hK _ _ F0 ?_
 clear hK K
 try simp only [Act.put,qu,qv,qx]
 refine tree_last rfl rfl (fun K hK=>?_)
 go_simp
 try go_upon
 try go_simp
 refine hK _ _ ?_
 clear hK K
 refine noPanicN ?_
 go_wp2_with fail
 go_ret
 exact ⟨rfl,F0⟩
set_option maxRecDepth 100000 in
set_option maxHeartbeats 2000000 in
theorem bstring_c (b:Nat) (p v:Value) (l:List UInt8) (w:World) (h:BldAt w b p v l) (h0:l≠[]):Calls Tryz.prog 122 #[.pointer (some ⟨b,0,none⟩)] w fun e w'=>e=.returned (.string (str l))∧Fr v.ownBlock.toList w w':=by
 have hl0:l.length≠0:=by simpa using h0
 obtain ⟨g,cap,cur,rfl,hbg,hg,hnc,hcm,hcs,htake⟩:∃ g cap cur,v=.slice (some ⟨g,0,none⟩) l.length cap∧0≤g∧w.heap[g]?=some (.cells cur 5 (0,0))∧l.length≤cap∧cap≤maxLen∧cur.size=cap*1∧cur.toList.take (l.length*1)=byteCells l:=by
  rcases h.row.2 with ⟨_,hz⟩ | ⟨g,cap,cur,hv,r⟩
  ·exact absurd hz hl0
  ·exact ⟨g,cap,cur,hv,r⟩
 have hSD:∀ W:World,(Builtin.unsafeSliceData_ #[39] 262 #[.slice (some ⟨g,0,none⟩) l.length cap]).run Tryz.prog W=.ok (.pointer (some ⟨g,0,none⟩)) W:=fun W=>Lib.run_unsafeSliceData_row _ _ _ _ _ _ (by omega)
 have hUS:∀ W:World,Fr [] w W→(Builtin.unsafeString_ #[262,3] 9 #[.pointer (some ⟨g,0,none⟩),.int .i64 l.length]).run Tryz.prog W=.ok (.string ⟨l.toArray⟩) (W.freeze ⟨g,0,none⟩ l.length):=fun W hf=>by
  have hg':=hf.keep hg (by simp)
  refine Lib.run_unsafeString_row W 262 3 9 5 Tryz.underlying262 Tryz.Builder_Extra_169.cellsByte g cur.size (by simp [World.shape?,hg']) l h0 (by omega) (by unfold maxLen at hcm;omega) ?_
  intro j x hx
  exact (row_fr h.row hf (by simp)).cells (g:=g) rfl j (.int .u8 x.toNat) (by simp [Lib.byteCells,hx])
 have HB:=qj h.blk;have HU:=qj hUS
 have hgb:b≠g:=fun e=>h.ne (by simp [Value.ownBlock,e])
 clear h hUS hg htake hcs
 go_enter Tryz.func122,Tryz.ntmps122
 go_wp2_with fail
 refine reg_tree (Fr [g] w) 11 (.take 0 (.take 1 (.take 2 (.take 3 (.take 4 (.take 5 (.take 6 (.take 7 (.take 8 (.take 9 (.one 10 (.one 11 .nil)))))))))))) (by kernel_rfl) (by kernel_rfl) (by kernel_rfl) rfl ?_
 have F0:Fr [] w w.drew:=Fr.drew _ _
 generalize w.drew=WC at F0 ⊢
 have S0:Fr [g] w WC:=F0.mono (by simp)
 iterate 10 (refine tree_take (v:=?_) rfl rfl rfl S0 (fun w hS=>?_) ?_;rotate_left;(focus (have c1:=qd (hS.keep HB.out (by simpa using hgb)) 1;clear hS;go_simp;rfl));simp only [qu,qv,qx])
 have hUC:=HU.out WC F0
 have F1:Fr [g] w (WC.freeze ⟨g,0,none⟩ l.length):=S0.trans (Fr.freeze (by simp) _)
 refine tree_one rfl rfl (fun K hK=>?_)
 go_simp
 try go_upon
 try go_simp
 refine hK _ _ F1 ?_
 clear hK K
 try simp only [Act.put,qu,qv,qx]
 refine tree_last rfl rfl (fun K hK=>?_)
 go_simp
 try go_upon
 try go_simp
 refine hK _ _ ?_
 clear hK K
 refine noPanicN ?_
 go_wp2_with fail
 go_ret
 exact ⟨rfl,by simpa [Value.ownBlock] using F1⟩
end
section
open Go.RowKit Go.Lib
def longB (s:ByteArray):Bool:=decide (65536 < s.size)
theorem isLong_c (s:ByteArray) (w:World):Calls Tryz.prog 119 #[.string s] w fun e w'=>e=.returned (.bool (longB s))∧w=w':=by
 unfold longB
 by_cases h:65536 < s.size
 ·go_enter Tryz.func119,Tryz.ntmps119
  go_wp2
  go_ret
  exact ⟨by simp [h];try omega,rfl⟩
 ·go_enter Tryz.func119,Tryz.ntmps119
  go_wp2
  go_ret
  exact ⟨by simp [h];try omega,rfl⟩
set_option maxRecDepth 100000 in
set_option maxHeartbeats 1000000 in
theorem indexLong_c (a:Option Addr) (cap:Nat) (l:List ByteArray) (w:World) (hs:Sl w (.slice a l.length cap) l.length (l.map Value.string)) :
  Calls Tryz.prog 106 #[.slice a l.length cap,.func (.func 119) #[] #[]] w fun e w'=>∃ i:Int,e=.returned (.int .i64 i)∧decide (0≤i)=l.any longB∧w=w':=by
 have hlen:=hs.len
 have HS:=qj hs
 clear hs
 go_enter Tryz.func106,Tryz.ntmps106
 go_wp2_with fail
 go_loopw [8] (fun i wr=>∃ (k:Nat),i=.int .i64 k∧k≤l.length∧wr=w∧Hid (l.any longB=(l.drop k).any longB)) (fun i _=>l.length - (RowKit.intOf i).toNat)
 case atStart=>exact ⟨0,rfl,Nat.zero_le _,rfl,qj rfl⟩
 case round =>
  obtain ⟨k,rfl,hk,rfl,HA⟩:=hrel
  by_cases hlt:k < l.length
  ·obtain ⟨b,off,rfl,hc⟩:=HS.out.at_ (by omega)
   have ck:wr.cell? ⟨b,off+k,none⟩=some (.string l[k]):=hc k _ (by simp [hlt])
   have HD:Hid ((l.drop k).any longB=(longB l[k] || (l.drop (k+1)).any longB)):=qj (by rw [List.drop_eq_getElem_cons hlt,List.any_cons])
   clear hc
   generalize l[k]=s at *
   have HC:=qj (isLong_c s wr)
   cases hl:longB s with
   | true =>
    rw [hl] at HC
    have HL:=qj hl
    clear hl
    go_wp2_with fail
    refine HC.out.mono ?_
    rintro e w2 ⟨rfl,rfl⟩
    go_wp2_with fail
    go_ret
    exact ⟨k,rfl,by rw [HA.out,HD.out,HL.out];simp,rfl⟩
   | false =>
    rw [hl] at HC
    have HL:=qj hl
    clear hl
    go_wp2_with fail
    refine HC.out.mono ?_
    rintro e w2 ⟨rfl,rfl⟩
    go_wp2_with fail
    go_roundw
    case rel=>exact ⟨k+1,by go_num,hlt,trivial,qj (by rw [HA.out,HD.out,HL.out];rfl)⟩
    case measure=>simp [RowKit.intOf];omega
  ·have he:k=l.length:=by omega
   subst he
   go_wp2_with fail
   go_ret
   exact ⟨-1,rfl,by rw [HA.out];simp,rfl⟩
set_option maxRecDepth 100000 in
theorem containsLong_c (a:Option Addr) (cap:Nat) (l:List ByteArray) (w:World) (hs:Sl w (.slice a l.length cap) l.length (l.map Value.string)) :
  Calls Tryz.prog 63 #[.slice a l.length cap,.func (.func 119) #[] #[]] w fun e w'=>e=.returned (.bool (l.any longB))∧w=w':=by
 have HC:=qj (indexLong_c a cap l w hs)
 clear hs
 go_enter Tryz.func63,Tryz.ntmps63
 go_wp2_with fail
 refine HC.out.mono ?_
 rintro e w2 ⟨i,rfl,hi,rfl⟩
 have HI:=qj hi
 clear hi HC
 go_wp2_with fail
 go_ret
 exact ⟨by rw [HI.out];rfl,rfl⟩
theorem row_zero0 {w:World} {base:Nat} {e:TypeId} {size:Nat} {v:Value} {n:Nat} {xs:List Value} (h:w.ownsRow base e size v n xs):w.ownsRow 0 e size v n xs:=by
 refine ⟨h.1,h.2.imp id ?_⟩
 rintro ⟨g,cap,cur,rfl,h1,h2⟩
 exact ⟨g,cap,cur,rfl,Nat.zero_le _,h2⟩
theorem row_base {w:World} {base:Nat} {e:TypeId} {size:Nat} {v:Value} {n:Nat} {xs:List Value} (h:w.ownsRow base e size v n xs) {g:Nat} (hg:v.ownBlock=some g):base≤g:=by
 rcases h.2 with ⟨rfl,_⟩ | ⟨g',cap,cur,rfl,h1,_⟩
 ·cases hg
 ·simp [Value.ownBlock] at hg;omega
theorem clone_c (vr:Value) (rs:List ByteArray) (w:World) (h:w.ownsRow 0 9 1 vr rs.length (rs.map Value.string)) (hl:rs.length≤1000000000) :
  Calls Tryz.prog 49 #[vr] w fun e w'=>∃ v',e=.returned v'∧w'.ownsRow 0 9 1 v' rs.length (rs.map Value.string)∧(∀ g,v'.ownBlock=some g→w.heap.size≤g)∧Fr [] w w':=by
 rcases h.2 with ⟨rfl,h0⟩ | ⟨g,cap,cur,rfl,hbg,hg,hnc,hcm,hcs,htake⟩
 ·refine (Tryz.slices_Clone_string_nil 0 0 w).mono ?_
  rintro e w' ⟨rfl,rfl⟩
  exact ⟨_,rfl,h,(by intro g hg;cases hg),Fr.refl _ _⟩
 ·refine (Tryz.slices_Clone_string g 0 rs.length cap rs w (Nat.le_refl _) (by omega) (fun j hj=>?_)).mono ?_
  ·have:=h.cells (g:=g) rfl j (.string (rs.getD j ByteArray.empty)) (by simp [hj])
   rw [add_at] at this
   rw [Nat.zero_add]
   exact this
  ·rintro e w' ⟨v',rfl,h1,h2,h3⟩
   rw [List.take_length] at h1
   exact ⟨v',rfl,row_zero0 h1,fun g hg=>row_base h1 hg,Fr.of_below _ h3⟩
end
section
open Go.RowKit Go.Lib
structure JnAt (w:World) (jb db:Nat) (fp:List Nat) (vr:Value) (t:Tp) (br:Bool) (D:Dk):Prop where
 tape:TapeAt w jb [.pointer (some ⟨db,0,none⟩),.bool br] 177 vr t
 disk:DkA w db fp D
 apart:∀ k,k∈tpB jb vr→k∉fp
theorem JnAt.same {w w':World} {jb db:Nat} {fp:List Nat} {vr:Value} {t:Tp} {br:Bool} {D:Dk} (h:JnAt w jb db fp vr t br D) (hf:Fr [] w w'):JnAt w' jb db fp vr t br D :=
 ⟨h.tape.same hf,h.disk.keep hf (by simp),h.apart⟩
set_option maxRecDepth 100000 in
set_option maxHeartbeats 1000000 in
theorem room_c {jb db:Nat} {fp:List Nat} {vr:Value} {t:Tp} {br:Bool} {D:Dk} {w:World} (h:JnAt w jb db fp vr t br D) (ht:t.size≤4194304) :
  Calls Tryz.prog 123 #[.pointer (some ⟨jb,0,none⟩)] w fun e w'=>e=.returned (.int .i64 ((D.dur.length:Int) - t.size))∧Fr [] w w':=by
 have hm:D.dur.length≤4194304:=by obtain ⟨_,_,_,hd,_⟩:=h.disk;exact hd.ok.max
 have CS:=qj fun W (hf:Fr [] w W)=>size_dk db fp D W (h.disk.keep hf (by simp))
 have HB:=qj h.tape.blk
 clear h
 obtain ⟨rs,hd,sz⟩:=t
 simp only at HB ht ⊢
 generalize D.dur.length=m at *
 go_enter Tryz.func123,Tryz.ntmps123
 go_wp2_with fail
 refine reg_tree (Fr [] w) 11 (.take 0 (.take 1 (.take 2 (.take 3 (.take 5 (.take 6 (.take 7 (.take 8 (.take 9 (.one 4 (.take 10 (.one 11 .nil)))))))))))) (by kernel_rfl) (by kernel_rfl) (by kernel_rfl) rfl ?_
 have F0:Fr [] w w.drew:=Fr.drew _ _
 generalize w.drew=WC at F0 ⊢
 iterate 9 (refine tree_take (v:=?_) rfl rfl rfl F0 (fun w hS=>?_) ?_;rotate_left;(focus (have X:=hS.keep HB.out (by simp);have c2:World.cell? _ ⟨jb,2,none⟩=some (.int .i64 sz):=qd X 2;have c3:World.cell? _ ⟨jb,3,none⟩=some (.pointer (some ⟨db,0,none⟩)):=qd X 3;clear hS X;go_simp;rfl));simp only [qu,qv,qx])
 refine tree_one rfl rfl (fun K hK=>?_)
 go_simp
 refine (CS.out _ F0).mono ?_
 rintro e w2 ⟨rfl,rfl⟩
 refine hK _ _ F0 ?_
 clear hK K
 try simp only [Act.put,qu,qv,qx]
 (refine tree_take (v:=?_) rfl rfl rfl F0 (fun w hS=>?_) ?_;rotate_left;(focus (clear hS;go_simp;rw [IntWalk.i64_in ((m:Int) - (sz:Int)) (by omega)]));simp only [qu,qv,qx])
 refine tree_last rfl rfl (fun K hK=>?_)
 go_simp
 try go_upon
 try go_simp
 refine hK _ _ ?_
 clear hK K
 refine noPanicN ?_
 go_wp2_with fail
 go_ret
 exact ⟨rfl,F0⟩
set_option maxRecDepth 100000 in
theorem records_c {jb db:Nat} {fp:List Nat} {vr:Value} {t:Tp} {br:Bool} {D:Dk} {w:World} (h:JnAt w jb db fp vr t br D) (ht:t.recs.length≤1000000000) :
  Calls Tryz.prog 91 #[.pointer (some ⟨jb,0,none⟩)] w fun e w'=>∃ v',e=.returned v'∧w'.ownsRow 0 9 1 v' t.recs.length (t.recs.map Value.string)∧(∀ g,v'.ownBlock=some g→w.heap.size≤g)∧Fr [] w w':=by
 have CC:=qj (clone_c vr t.recs w h.tape.row ht)
 have c0:w.cell? ⟨jb,0,none⟩=some vr:=qd h.tape.blk 0
 clear h
 go_enter Tryz.func91,Tryz.ntmps91
 go_wp2_with fail
 refine CC.out.mono ?_
 rintro e w2 ⟨v',rfl,h1,h2,h3⟩
 have H1:=qj h1;have H2:=qj h2;have H3:=qj h3
 clear h1 h2 h3 CC
 go_wp2_with fail
 go_ret
 exact ⟨v',rfl,H1.out,H2.out,H3.out⟩
theorem ldM_size (s:List UInt8):∀ (f:Nat) (t t':Tp),ldM s f t=some t'→t.size≤s.length→t'.size≤s.length:=by
 intro f
 induction f with
 | zero=>intro t t' h;simp [ldM] at h
 | succ f ih =>
  intro t t' h hs
  rw [ldM] at h
  split at h
  ·cases h;exact hs
  ·split at h
   ·cases h;exact hs
   ·split at h
    ·cases h
    ·split at h
     ·cases h
     ·rename_i r q hg
      split at h
      ·cases h
      ·split at h
       ·rename_i hm
        refine ih _ _ h ?_
        have:=congrArg List.length hm
        simp only [List.length_take,List.length_drop] at this
        simp only [Tp.add]
        omega
       ·cases h
theorem openM_size {s:List UInt8} {t:Tp} (h:openM s=some t):t.size≤s.length:=ldM_size s _ _ _ h (Nat.zero_le _)
theorem dropWhile_all {p:UInt8→Bool}:∀ m:List UInt8,(∀ x,x∈m.dropWhile p→p x=true)→∀ x,x∈m→p x=true
 | [],_,x,hx=>by cases hx
 | y :: ys,h,x,hx=>by
  cases hy:p y with
  | true =>
   rw [List.dropWhile_cons_of_pos hy] at h
   rcases List.mem_cons.1 hx with rfl | hx
   ·exact hy
   ·exact dropWhile_all ys h x hx
  | false =>
   rw [List.dropWhile_cons_of_neg (by simp [hy])] at h
   exact h x hx
theorem dropWhile_nil {p:UInt8→Bool}:∀ m:List UInt8,(∀ x,x∈m→p x=true)→m.dropWhile p=[]
 | [],_=>rfl
 | y :: ys,h=>by rw [List.dropWhile_cons_of_pos (h y (by simp))];exact dropWhile_nil ys fun x hx=>h x (by simp [hx])
theorem trim_iff (l:List UInt8):trimB l 0=[]↔l.all (·== 0)=true:=by
 unfold trimB trimLeftB trimRightB
 rw [List.all_eq_true]
 constructor
 ·intro h x hx
  have h2:=dropWhile_all (p:=(·== 0)) (List.dropWhile (·== 0) l.reverse).reverse (by rw [h];simp)
  exact dropWhile_all l.reverse (fun y hy=>h2 y (by simpa using hy)) x (by simpa using hx)
 ·intro h
  rw [dropWhile_nil l.reverse (fun x hx=>h x (by simpa using hx))]
  rfl
end
section
open Go.RowKit Go.Lib
inductive Dop where
 | write (at_:Int) (s:ByteArray)
 | sync
def Dk.doE (D:Dk):Dop→Int
 | .write a s=>D.writeE a s
 | .sync=>D.syncE
def Dk.doD (D:Dk):Dop→Dk
 | .write a s=>D.writeD a s
 | .sync=>D.syncD
def Dk.runs (D:Dk):List Dop→Int × Dk
 | []=>(0,D)
 | o :: l=>if D.doE o=0 then (D.doD o).runs l else (D.doE o,D.doD o)
theorem doD_pend (D:Dk) (o:Dop):(D.doD o).pend.length≤D.pend.length+1:=by
 cases o with
 | write a s =>
  simp only [Dk.doD,Dk.writeD]
  split
  ·omega
  ·split
   ·simp only [Dk.write,Dk.use]
    split <;> simp [Dk.put]
   ·omega
 | sync =>
  simp only [Dk.doD,Dk.syncD]
  split
  ·omega
  ·simp [Dk.sync]
def syncV (db:Nat):Fv:=⟨90,#[.pointer (some ⟨db,0,none⟩)],#[]⟩
def OkF (w:World) (jb db:Nat) (fp:List Nat):Dop × Fv→Prop
 | (.sync,f)=>f=syncV db
 | (.write a s,f)=>∃ k,f=wrV k∧WrAt w k jb a s∧(k∉fp∧k+1∉fp∧k+2∉fp)∧-9223372036854775808≤a∧a≤9223372036854775807∧s.size≤9223372036854775807
theorem ent_sync:Ent 90:=fun args w=>enters_of Tryz.func90 (by kernel_rfl) rfl args w
theorem ent_wr:Ent 140:=fun args w=>enters_of Tryz.func140 (by kernel_rfl) rfl args w
theorem runF_ops {jb db:Nat} {vr:Value} {hd:ByteArray} {n:Nat} {br:Value} {fp0:List Nat} {w:World} (hJ:w.heap[jb]?=some (.cells (tpC vr hd n [.pointer (some ⟨db,0,none⟩),br]) 177 (0,0))) (hj:jb∉fp0) :
  ∀ (l:List (Dop × Fv)) (D:Dk) (fp:List Nat) (W:World),(∀ x,x∈l→OkF w jb db fp0 x)→DkA W db fp D→Upd fp0 fp w W→D.pend.length+l.length≤4294967296 →
   RunF fp0 w (l.map (·.2)) W fun n W'=>n=(D.runs (l.map (·.1))).1∧∃ fp',DkA W' db fp' (D.runs (l.map (·.1))).2∧Upd fp0 fp' w W'
 | [],D,fp,W,_,hD,hU,_=>⟨rfl,fp,hD,hU⟩
 | (o,f) :: l,D,fp,W,hl,hD,hU,hp=>by
  have next:∀ (e:Ending) (W2:World),DkStep db fp (.int .i64 (D.doE o)) (D.doD o) W e W2→∃ n:Int,e=.returned (.int .i64 n)∧Fr fp0 w W2∧if n=0 then RunF fp0 w (l.map (·.2)) W2 (fun n W'=>n=(D.runs (o :: l.map (·.1))).1∧∃ fp',DkA W' db fp' (D.runs (o :: l.map (·.1))).2∧Upd fp0 fp' w W')
    else n=(D.runs (o :: l.map (·.1))).1∧∃ fp',DkA W2 db fp' (D.runs (o :: l.map (·.1))).2∧Upd fp0 fp' w W2:=by
   rintro e W2 ⟨rfl,fp',h1,h2⟩
   have hU2:=hU.trans h2
   refine ⟨_,rfl,hU2.fr,?_⟩
   by_cases h0:D.doE o=0
   ·rw [if_pos h0]
    have:=runF_ops hJ hj l (D.doD o) fp' W2 (fun x hx=>hl x (by simp [hx])) h1 hU2 (by have:=doD_pend D o;simp at hp;omega)
    simp only [Dk.runs,if_pos h0]
    exact this
   ·rw [if_neg h0]
    simp only [Dk.runs,if_neg h0]
    exact ⟨trivial,fp',h1,hU2⟩
  have hk:=hl (o,f) (by simp)
  have hout:∀ k,k < w.heap.size→k∉fp0→k∉fp:=fun k h1 h2 h3=>by
   rcases hU.sub k h3 with h | h
   ·exact h2 h
   ·omega
  cases o with
  | sync =>
   obtain rfl:f=syncV db:=hk
   exact ⟨ent_sync,(sync_dk db fp D W hD).mono next⟩
  | write a s =>
   obtain ⟨k,rfl,hW,hn,h1,h2,h3⟩:=hk
   have l1:=blk_lt hW.j
   have l2:=blk_lt hW.a
   have l3:=blk_lt hW.s
   exact ⟨ent_wr,(writing1_c k jb db fp D a s vr hd n br W (hW.fr hU.fr hn) (hU.fr.keep hJ hj) hD (hout _ (blk_lt hJ) hj) ⟨hout _ l1 hn.1,hout _ l2 hn.2.1,hout _ l3 hn.2.2⟩ h1 h2 h3 (by simp at hp;omega)).mono next⟩
theorem sl_vals {w:World} {b:Nat} {ty:TypeId} {l:List Value} {n:Nat} (h:w.heap[b]?=some (.cells l.toArray ty (0,0))) (_hl:l.length=n) (hn:n≤9223372036854775807):Sl w (.slice (some ⟨b,0,none⟩) n n) n l :=
 ⟨_,_,rfl,Nat.le_refl _,hn,fun _=>⟨_,0,rfl,fun j u hu=>by
  rw [Nat.zero_add,qd h]
  simpa using hu⟩⟩
end
section
open Go.RowKit Go.Lib
def zeros (n:Nat):ByteArray:=str (List.replicate n 0)
def Dk.opens (D:Dk):Int × Option Tp × Dk :=
 if D.off then (91,none,D) else match openM D.vis with
 | none=>(102,none,D)
 | some t=>if (D.vis.drop t.size).all (·== 0) then (0,some t,D) else
  ((D.runs [.write t.size (zeros (D.vis.length - t.size)),.sync]).1,(if (D.runs [.write t.size (zeros (D.vis.length - t.size)),.sync]).1=0 then some t else none),(D.runs [.write t.size (zeros (D.vis.length - t.size)),.sync]).2)
def OpenJ (db:Nat) (fp:List Nat) (w:World) (o:Int × Option Tp × Dk) (e:Ending) (w':World):Prop:=∃ fp',DkA w' db fp' o.2.2∧Upd fp fp' w w'∧match o.2.1 with
 | none=>e=.returned (.tuple #[.pointer none,.int .i64 o.1])
 | some t=>∃ jb vr,e=.returned (.tuple #[.pointer (some ⟨jb,0,none⟩),.int .i64 o.1])∧TapeAt w' jb [.pointer (some ⟨db,0,none⟩),.bool false] 177 vr t∧∀ k,k∈tpB jb vr→w.heap.size≤k∧k∉fp'
theorem tape_lt {w:World} {b:Nat} {X:List Value} {ty:TypeId} {vr:Value} {t:Tp} (h:TapeAt w b X ty vr t):∀ k,k∈tpB b vr→k < w.heap.size:=fun k hk=>by
 simp only [tpB,List.mem_cons,Option.mem_toList] at hk
 rcases hk with rfl | hk
 ·exact blk_lt h.blk
 ·exact ownsRow_lt h.row hk
set_option maxRecDepth 100000 in
set_option maxHeartbeats 1000000 in
theorem openJ_c (a:Addr) (db:Nat) (fp:List Nat) (D:Dk) (w:World) (h:DkA w db fp D) (hR:RndAt w) (hA:DmgAt w a) (hp:D.pend.length≤4000000000):Calls Tryz.prog 47 #[.pointer (some ⟨db,0,none⟩)] w (OpenJ db fp w D.opens):=by
 have hok:D.Ok:=by obtain ⟨_,_,_,hd,_⟩:=h;exact hd.ok
 have hm:=hok.max
 have CS:=qj (size_dk db fp D w h)
 have CR:=read_dk db fp D 0 D.dur.length w h (by omega) (by omega) (by omega) (by omega)
 have hlt:=DkAt.lt h
 have HD:=qj h
 clear h
 cases hoff:D.off with
 | true =>
  rw [show D.readE 0 D.dur.length=91 by simp [Dk.readE,hoff],show D.readS 0 D.dur.length=[] by simp [Dk.readS,hoff]] at CR
  have HO:Shut (D.opens=(91,none,D)):=⟨by simp [Dk.opens,hoff]⟩
  have HR:=qj CR
  clear CR hoff hok
  go_enter Tryz.func47,Tryz.ntmps47
  go_wp2_with fail
  refine CS.out.mono ?_
  rintro e w1 ⟨rfl,rfl⟩
  go_wp2_with fail
  refine HR.out.mono ?_
  rintro e w1 ⟨rfl,rfl⟩
  go_wp2_with fail
  go_ret2
  rw [HO.out]
  exact ⟨fp,HD.out,Upd.refl _ _,rfl⟩
 | false =>
  have hin:insB D.dur.length 0 D.dur.length=true:=by simp [insB]
  rw [show D.readE 0 D.dur.length=0 by simp [Dk.readE,hoff,hin],show D.readS 0 D.dur.length=D.vis by simp only [Dk.readS,hoff,hin,if_true,Bool.false_eq_true,if_false];simp [← hok.len]] at CR
  have hvl:=hok.len
  have HR:=qj CR
  have CO:=qj (open_c a (some ⟨db,0,none⟩) (str D.vis) w (by rw [str_size];omega) hR hA)
  rw [bts_str] at CO
  have HO:Shut (D.opens=match openM D.vis with
   | none=>(102,none,D)
   | some t=>if (D.vis.drop t.size).all (·== 0) then (0,some t,D) else
    ((D.runs [.write t.size (zeros (D.vis.length - t.size)),.sync]).1,(if (D.runs [.write t.size (zeros (D.vis.length - t.size)),.sync]).1=0 then some t else none),(D.runs [.write t.size (zeros (D.vis.length - t.size)),.sync]).2)):=⟨by simp [Dk.opens,hoff]⟩
  clear CR hoff hin hok
  have hoz:∀ t,openM D.vis=some t→t.size≤D.vis.length:=fun t ht=>openM_size ht
  generalize openM D.vis=O at *
  cases O with
  | none =>
   clear hoz
   go_enter Tryz.func47,Tryz.ntmps47
   go_wp2_with fail
   refine CS.out.mono ?_
   rintro e w1 ⟨rfl,rfl⟩
   go_wp2_with fail
   refine HR.out.mono ?_
   rintro e w1 ⟨rfl,rfl⟩
   go_wp2_with fail
   refine CO.out.mono ?_
   rintro e w1 ⟨f1,rfl⟩
   have HF:=qj f1
   clear f1 CO HR CS
   go_wp2_with fail
   go_ret2
   rw [HO.out]
   exact ⟨fp,HD.out.keep HF.out (by simp),⟨HF.out.mono (by simp),fun _ h=>.inl h⟩,rfl⟩
  | some t =>
   have hts:=hoz t rfl
   clear hoz
   simp only at HO
   obtain ⟨rs,hd,sz⟩:=t
   simp only at HO hts
   go_enter Tryz.func47,Tryz.ntmps47
   go_wp2_with fail
   refine CS.out.mono ?_
   rintro e w1 ⟨rfl,rfl⟩
   go_wp2_with fail
   refine HR.out.mono ?_
   rintro e w1 ⟨rfl,rfl⟩
   go_wp2_with fail
   refine CO.out.mono ?_
   rintro e w1 ⟨f1,jb,vr,rfl,h1,h2⟩
   have HF:=qj f1;have HT:=qj h1;have HN:=qj h2
   have c2:w1.cell? ⟨jb,2,none⟩=some (.int .i64 sz):=qd h1.blk 2
   clear f1 h1 h2 CO HR CS
   go_wp2_with fail
   have hex:(ByteArray.extract ⟨D.vis.toArray⟩ sz D.dur.length)=str (D.vis.drop sz):=by
    have:=extract_str (str D.vis) sz D.dur.length
    rw [bts_str,List.take_of_length_le (by simp;omega)] at this
    exact this
   refine (Tryz.strings_Trim_one _ 0 (by decide) _ (by rw [hex,str_size];simp;omega)).mono ?_
   rw [hex]
   rintro e w2 ⟨rfl,hw2⟩
   have F2:Fr [] w1 w2:=by
    rcases hw2 with rfl | rfl
    ·exact Fr.refl _ _
    ·exact Fr.drew _ _
   have hti:=trim_iff (D.vis.drop sz)
   rw [show (str (D.vis.drop sz)).data.toList=D.vis.drop sz from rfl]
   clear hw2 hex c2
   have HF2:=qj F2
   clear F2
   generalize trimB (D.vis.drop sz) 0=T at *
   cases T with
   | nil =>
    have HO2:Shut (D.opens=(0,some ⟨rs,hd,sz⟩,D)):=⟨by rw [HO.out,if_pos (hti.1 rfl)]⟩
    clear hti
    go_wp2_with fail
    go_ret2
    rw [HO2.out]
    have hT2:=HT.out.same HF2.out
    have F:=HF.out.trans HF2.out
    exact ⟨fp,HD.out.keep F (by simp),⟨F.mono (by simp),fun _ h=>.inl h⟩,jb,vr,rfl,hT2,fun k hk=>⟨HN.out k hk,fun hm=>by have:=hlt k hm;have:=HN.out k hk;omega⟩⟩
   | cons y T =>
    have hpos:sz < D.dur.length:=by
     rcases Nat.lt_or_ge sz D.dur.length with h | h
     ·exact h
     ·have:=hti.2 (by rw [List.drop_eq_nil_of_le (by omega)];rfl)
      cases this
    have HO2:Shut (D.opens=((D.runs [.write sz (zeros (D.vis.length - sz)),.sync]).1,(if (D.runs [.write sz (zeros (D.vis.length - sz)),.sync]).1=0 then some ⟨rs,hd,sz⟩ else none),(D.runs [.write sz (zeros (D.vis.length - sz)),.sync]).2)):=⟨by rw [HO.out,if_neg (fun h=>by have:=hti.2 h;cases this)]⟩
    clear hti
    obtain ⟨m,hmm⟩:∃ m,m=D.dur.length - sz:=⟨_,rfl⟩
    rw [hvl,← hmm] at HO2
    have hmk:∀ W:World,(Instr.makeSlice 39 (.int .i64 (m:Int)) (.int .i64 (m:Int))).run Tryz.prog W=.ok (.slice (some ⟨W.heap.size,0,none⟩) m m) (W.alloc (.cells (madeCells #[Value.int .u8 0] m) 5)):=fun W=>run_make_row' (P:=Tryz.prog) 39 5 (.int .u8 0) 1 Tryz.underlying39 infoBy rfl .i64 .i64 m (by omega) (by omega) W
    have hzl:(List.replicate m (0:UInt8)).length=m:=List.length_replicate
    have hzz:Shut (zeros m=⟨(List.replicate m (0:UInt8)).toArray⟩):=⟨rfl⟩
    rw [made_bytes] at hmk
    generalize List.replicate m (0:UInt8)=zs at *
    have HTL:=tape_lt HT.out
    have hmf:∀ (fn:Fn) (first cap:Array Value) (w:World),(Instr.makeFunc fn first cap).run Tryz.prog w=.ok (.func fn first cap) w:=fun _ _ _ _=>rfl
    have HZL:=qj hzl
    have HMM:Shut (m=D.dur.length - sz):=⟨hmm⟩
    have hmp:0 < m:=by omega
    have hm2:m≤4194304:=by omega
    clear hzl hmm
    go_wp2_with fail
    have F0:Fr [] w1 w2.drew:=HF2.out.trans (Fr.drew _ _)
    refine reg_tree (Fr fp w1) 21 (.take 0 (.take 1 (.take 2 (.take 3 (.take 4 (.take 5 (.take 6 (.take 7 (.take 8 (.take 9 (.take 10 (.take 11 (.take 12 (.take 13 (.take 17 (.take 18 (.one 14 (.one 15 (.one 16 (.one 19 (.one 20 (.one 21 .nil)))))))))))))))))))))) (by kernel_rfl) (by kernel_rfl) (by kernel_rfl) rfl ?_
    generalize w2.drew=WC at F0 ⊢
    have S0:Fr fp w1 WC:=F0.mono (by simp)
    have hjb:jb∉fp:=fun hm=>by have:=hlt _ hm;have:=HN.out jb (by simp [tpB]);omega
    iterate 13 (refine tree_take (v:=?_) rfl rfl rfl S0 (fun w hS=>?_) ?_;rotate_left;(focus (have X:=hS.keep HT.out.blk hjb;have c2:World.cell? _ ⟨jb,2,none⟩=some (.int .i64 sz):=qd X 2;clear hS X;go_simp;rfl));simp only [qu,qv,qx])
    (refine tree_take (v:=?_) rfl rfl rfl S0 (fun w hS=>?_) ?_;rotate_left;(focus (clear hS;go_simp;rw [IntWalk.i64_in ((D.dur.length:Int) - (sz:Int)) (by omega),show (D.dur.length:Int) - (sz:Int)=(m:Int) by have:=HMM.out;omega]));simp only [qu,qv,qx])
    iterate 2 (refine tree_take (v:=?_) rfl rfl rfl S0 (fun w hS=>?_) ?_;rotate_left;(focus (clear hS;go_simp;rfl));simp only [qu,qv,qx])
    refine tree_one rfl rfl (fun K hK=>?_)
    go_simp
    try go_upon
    try go_simp
    have s3:Fr fp w1 (WC.alloc (.cells (byteCells zs).toArray 5)):=S0.trans (Fr.alloc _ _ _)
    have f3:Fr [] w1 (WC.alloc (.cells (byteCells zs).toArray 5)):=F0.trans (Fr.alloc _ _ _)
    refine hK _ _ s3 ?_
    have sl:=sl_bytes (qm WC (.cells (byteCells zs).toArray 5)) HZL.out (by omega)
    clear hK K
    try simp only [Act.put,qu,qv,qx]
    refine tree_one rfl rfl (fun K hK=>?_)
    refine wp_sl_str (.tmp 51) rfl _ m m zs rfl sl hmp HZL.out ?_
    refine hK _ _ s3 ?_
    clear hK K sl S0 F0
    try simp only [Act.put,qu]
    rw [← hzz.out]
    generalize WC.alloc (.cells (byteCells zs).toArray 5)=W3 at *
    refine tree_one rfl rfl (fun K hK=>?_)
    go_simp
    refine (writing_c jb sz (zeros m) W3).mono ?_
    rintro e W4 ⟨rfl,hwr,hf4,hz4⟩
    have s4:=s3.trans (hf4.mono (by simp))
    have f4:=f3.trans hf4
    simp only [wrV,Fv.val]
    refine hK _ _ s4 ?_
    clear hK K s3
    try simp only [Act.put,qu,qv,qx]
    refine tree_one rfl rfl (fun K hK=>?_)
    go_simp
    have hf5:Fr [] W4 (W4.alloc (.cells #[(wrV W3.heap.size).val,(syncV db).val] 121)):=Fr.alloc _ _ _
    have sl5:=sl_vals (qm W4 (.cells #[(wrV W3.heap.size).val,(syncV db).val] 121)) (n:=2) rfl (by decide)
    have s5:=s4.trans (hf5.mono (fp2:=fp) (by simp))
    have f5:=f4.trans hf5
    have wr5:=hwr.fr hf5 (by simp)
    have z5:(W4.alloc (.cells #[(wrV W3.heap.size).val,(syncV db).val] 121)).heap.size=W3.heap.size+4:=by simp [hz4]
    have hob:W4.heap.size∉fp:=fun hm=>by have:=hlt _ hm;have:=HF.out.size;have:=f4.size;omega
    simp only [wrV,syncV,Fv.val] at s5 f5 wr5 sl5 z5
    refine hK _ _ s5 ?_
    clear hK K s4 f4 hwr hf4 hf5
    try simp only [Act.put,qu,qv,qx]
    generalize World.alloc W4 _=W5 at *
    have h3:w.heap.size≤W3.heap.size:=by have:=HF.out.size;have:=f3.size;omega
    have hw3:w1.heap.size≤W3.heap.size:=f3.size
    have hnf:∀ j,W3.heap.size≤j→j∉fp:=fun j hj hm=>by have:=hlt _ hm;omega
    have RF:=runF_ops (w:=W5) (f5.keep HT.out.blk (by simp)) hjb [(.write sz (zeros m),wrV W3.heap.size),(.sync,syncV db)] D fp W5 (by
     intro x hx
     simp only [List.mem_cons,List.not_mem_nil,or_false] at hx
     rcases hx with rfl | rfl
     ·refine ⟨_,rfl,wr5,⟨hnf _ (by omega),hnf _ (by omega),hnf _ (by omega)⟩,by omega,by omega,?_⟩
      show (zeros m).size≤_
      rw [zeros,str_size,List.length_replicate];omega
     ·rfl) (HD.out.keep (HF.out.trans f5) (by simp)) (Upd.refl _ _) (by simp;omega)
    simp only [List.map_cons,List.map_nil] at RF
    have FC:=first_c fp [wrV W3.heap.size,syncV db] (some ⟨W4.heap.size,0,none⟩) 2 W5 _ sl5 (by rintro g hg;cases hg;exact hob) RF
    rw [show [wrV W3.heap.size,syncV db].length=2 from rfl,hz4] at FC
    have HFC:=qj FC
    clear FC RF
    refine tree_one rfl rfl (fun K hK=>?_)
    go_simp
    refine HFC.out.mono ?_
    rintro e W6 ⟨n,rfl,hn,fp',h1,h2⟩
    have s6:=s5.trans h2.fr
    refine hK _ _ s6 ?_
    clear hK K HFC s5 sl5 wr5
    try simp only [Act.put,qu,qv,qx]
    have HT6:=qj ((HT.out.same f5).fr h2.fr (fun k hk hm=>by have:=hlt _ hm;have:=HN.out k hk;omega))
    have HU6:Hid (Upd fp fp' w W6):=qj (Upd.trans ⟨(HF.out.trans f5).mono (by simp),fun _ h=>.inl h⟩ h2)
    have HP6:Hid (∀ k,k∈tpB jb vr→w.heap.size≤k∧k∉fp'):=qj fun k hk=>⟨HN.out k hk,fun hm=>by
     rcases h2.sub k hm with h | h
     ·have:=hlt _ h;have:=HN.out k hk;omega
     ·have:=HTL k hk;omega⟩
    have HD6:=qj h1
    have HN6:Shut (n=(D.runs [.write sz (zeros m),.sync]).1):=⟨hn⟩
    clear h1 h2 hn s6 f5
    refine tree_last rfl rfl (fun K hK=>?_)
    go_simp
    try go_upon
    try go_simp
    refine hK _ _ ?_
    clear hK K
    refine noPanicN ?_
    by_cases h0:n=0
    ·subst h0
     go_wp2_with fail
     go_ret2
     rw [HO2.out,← HN6.out]
     exact ⟨fp',HD6.out,HU6.out,jb,vr,rfl,HT6.out,HP6.out⟩
    ·have hb:(n != 0)=true:=by simpa using h0
     have H0:=qj h0
     clear h0
     go_wp2_with fail
     go_ret2
     rw [HO2.out,← HN6.out]
     simp only [if_neg H0.out]
     exact ⟨fp',HD6.out,HU6.out,rfl⟩
end
end Go.Proofs.YtledkokhghjfmaaGreatDoor
