/-
  Made: of all three kinds.
-/
import Derived.Test.YtledkokhghjfmaaGreatDoorPCaXi
import Derived.Test.YtledkokhghjfmaaGreatDoorPCaXj
import Derived.Test.YtledkokhghjfmaaGreatDoorPCaXk
import Derived.Test.YtledkokhghjfmaaGreatDoorRows
import Derived.Test.YtledkokhghjfmaaGreatDoorPS01
import Derived.ProofKit
import Derived.OpenShut
import Derived.ShutString
import Derived.Deep.Slices
import Derived.Deep.Fields
import Derived.Test.YtledkokhghjfmaaGreatDoorPCaXs
import Derived.Stop.LaidErr
import Derived.Lib.LaidTab
import Derived.MakeChecks
import Derived.Stop.Joined
import Derived.Deep.Strs
namespace Go.Proofs.YtledkokhghjfmaaGreatDoor
section
open Go.RowKit Go.Shelf Go.Lib
theorem made_c (s c0 c1 c2 c3 c4 c5:Int) (w:World) (hs:0≤s∧s≤7) (h0:I64 c0) (h1:I64 c1) (h2:I64 c2) (h3:I64 c3) (h4:I64 c4) (h5:I64 c5) :
  Calls Tryz.prog 6 #[.int .i64 s,.agg #[.int .i64 c0,.int .i64 c1,.int .i64 c2,.int .i64 c3,.int .i64 c4,.int .i64 c5]] w fun e w'=>∃ t,e=.returned (ntV t)∧fmN t=true∧t.src=s∧Fr [] w w':=by
 have b03:=pkI_bd c0 (n:=3) (by decide)
 have h:1+pkI c0 3=1∨1+pkI c0 3=2∨1+pkI c0 3=3:=by omega
 rcases h with h | h | h
 ·exact made1_c s c0 c1 c2 c3 c4 c5 w h hs h0 h1 h2 h3 h4 h5
 ·exact made2_c s c0 c1 c2 c3 c4 c5 w h hs h0 h1 h2 h3 h4 h5
 ·exact made3_c s c0 c1 c2 c3 c4 c5 w h hs h0 h1 h2 h3 h4 h5
end
section
open Go.ChangeShapes Go.WideShapes Go.ChangeAt Go.RowKit
theorem lawOwn:ownKnob Tryz.prog.godebug=none:=by kernel_rfl
theorem lawLaid:laidOutB Tryz.prog=true:=by kernel_rfl
def okTypes (P:Program) (ts:List TypeId):Bool:=ts.all fun t=>P.readableRec t && decide (t < P.types.size)
theorem below_trodAllP {P:Program} (hl:laidOutB P=true) {H:Type} {enc:TypeId × Value→H} {W W':World} (hb:Below W.heap.size W W'):∀ {ts:List TypeId} {vs:List Value} {ds:List (DataW H)} {ps:List MemPlace} (_:okTypes P ts=true)
  (_:DataW.TrodAll enc P W 0 (fun _=>true) true ts vs ds ps),DataW.TrodAll enc P W' 0 (fun b=>decide (b < W.heap.size)) true ts vs ds ps:=by
 intro ts
 induction ts with
 | nil =>
  intro vs ds ps _ h
  obtain ⟨rfl,rfl,rfl⟩:=trodAll_nil h
  exact trodAll_mk0
 | cons t ts ih =>
  intro vs ds ps hk h
  obtain ⟨v,vs',d,ds',p,q,rfl,rfl,rfl,h1,h2⟩:=trodAll_cons h
  simp only [okTypes,List.all_cons,Bool.and_eq_true,decide_eq_true_eq] at hk
  have lt:∀ x∈p,x.block < W.heap.size:=by obtain ⟨m,hm⟩:=h1;exact DataW.trod_lt m _ _ _ hm
  exact trodAll_cons_mk (Below.trod hl hk.1.1 hk.1.2 h1 hb lt) (ih (by simp only [okTypes];exact hk.2) h2)
theorem below_trodAll {H:Type} {enc:TypeId × Value→H} {W W':World} {ts:List TypeId} {vs:List Value} {ds:List (DataW H)} {ps:List MemPlace} (hk:okTypes Tryz.prog ts=true)
  (h:DataW.TrodAll enc Tryz.prog W 0 (fun _=>true) true ts vs ds ps) (hb:Below W.heap.size W W'):DataW.TrodAll enc Tryz.prog W' 0 (fun b=>decide (b < W.heap.size)) true ts vs ds ps :=
 below_trodAllP lawLaid hb hk h
theorem open_i64 {P:Program} {H:Type} {enc:TypeId × Value→H} {W:World} {base:Nat} {t:TypeId} {v:Value} {d:DataW H} {p:List MemPlace} (ht:P.underlying t=some (.int .i64)) (k:Value.okWide P W .any base t v) (h:DataW.Trod enc P W 0 (fun _=>true) true t v d p) :
  ∃ n:Int,v=.int .i64 n∧-9223372036854775808≤n∧n≤9223372036854775807:=by
 obtain ⟨a,rfl,rfl,rfl,wa⟩:=open_int ht k h
 have:=Go.bounds_i64 wa
 exact ⟨a,rfl,this.1,this.2⟩
structure RowI (W:World) (a:Option Addr) (cap:Nat) (zs:List Int):Prop where
 le:zs.length≤cap
 max:cap≤9223372036854775807
 cells:0 < zs.length→∃ b off,a=some ⟨b,off,none⟩∧b < W.heap.size∧∀ j,(h:j < zs.length)→W.cell? ⟨b,off+j,none⟩=some (.int .i64 zs[j])
 wf:∀ x,x∈zs→-9223372036854775808≤x∧x≤9223372036854775807
end
section
open Go.ChangeShapes Go.WideShapes Go.ChangeAt Go.RowKit Go.Deep Go.Lib
theorem trod_i64 {P:Program} {H:Type} {enc:TypeId × Value→H} {W:World} {t:TypeId} {u:Value} {n:Nat} {y:DataW H × List MemPlace} (ht:P.underlying t=some (.int .i64)) (h:DataW.trod enc P W 0 (fun _=>true) true n t [u]=some y) :
  ∃ k:Int,u=.int .i64 k∧I64 k:=by
 obtain ⟨k,h1,_,wk⟩:=DataW.trod_int ht h
 simp only [List.cons.injEq,and_true] at h1
 have:=Go.bounds_i64 wk
 exact ⟨k,h1,this.1,this.2⟩
theorem ints_list:∀ {cs:List Value},(∀ u,u∈cs→∃ k:Int,u=.int .i64 k∧I64 k)→∃ zs:List Int,cs=zs.map (Value.int .i64)∧∀ z,z∈zs→I64 z
 | [],_=>⟨[],rfl,by simp⟩
 | u :: cs,h=>by
  obtain ⟨k,rfl,hk⟩:=h u (by simp)
  obtain ⟨zs,rfl,hz⟩:=ints_list (cs:=cs) (fun u hu=>h u (by simp [hu]))
  exact ⟨k :: zs,rfl,fun z hm=>by
   rcases List.mem_cons.1 hm with rfl | hm
   ·exact hk
   ·exact hz z hm⟩
theorem ints_of_array {P:Program} {H:Type} {enc:TypeId × Value→H} {W:World} {t e:TypeId} {n fuel:Nat} {cs:List Value} {x:DataW H × List MemPlace} (ht:P.underlying t=some (.array n e)) (he:P.underlying e=some (.int .i64)) (hc:P.cellsOf e=1) (hn:P.cellsOf t=n)
  (h:DataW.trod enc P W 0 (fun _=>true) true fuel t cs=some x):∃ zs:List Int,cs=zs.map (Value.int .i64)∧zs.length=n∧∀ z,z∈zs→I64 z:=by
 obtain ⟨xs,m,_,_,hl,hx,hi⟩:=DataW.trod_array ht h
 rw [hn] at hl
 obtain ⟨zs,rfl,hz⟩:=ints_list (cs:=cs) (fun u hu=>by
  obtain ⟨i,hil,rfl⟩:=List.getElem_of_mem hu
  have h1:=hi i (by omega)
  rw [hc,Nat.mul_one,List.drop_eq_getElem_cons hil,List.getElem?_eq_getElem (by omega)] at h1
  obtain ⟨k,h2,h3⟩:=trod_i64 he h1
  exact ⟨k,h2,h3⟩)
 exact ⟨zs,rfl,by simpa using hl,hz⟩
theorem agg_open {P:Program} {H:Type} {enc:TypeId × Value→H} {W:World} {t:TypeId} {cs:Array Value} {d:DataW H} {p:List MemPlace} (h:DataW.Trod enc P W 0 (fun _=>true) true t (.agg cs) d p):∃ fuel,DataW.trod enc P W 0 (fun _=>true) true fuel t cs.toList=some (d,p):=by
 obtain ⟨fuel,hf⟩:=h
 exact ⟨fuel,by simpa [Value.cells] using hf⟩
set_option maxRecDepth 100000 in
theorem open_i6 {H:Type} {enc:TypeId × Value→H} {W:World} {base:Nat} {v:Value} {d:DataW H} {p:List MemPlace} (k:Value.okWide Tryz.prog W .any base 22 v) (h:DataW.Trod enc Tryz.prog W 0 (fun _=>true) true 22 v d p) :
  ∃ a b c d e f,v=.agg #[.int .i64 a,.int .i64 b,.int .i64 c,.int .i64 d,.int .i64 e,.int .i64 f]∧I64 a∧I64 b∧I64 c∧I64 d∧I64 e∧I64 f:=by
 obtain ⟨cs,rfl⟩:∃ cs,v=.agg cs:=by
  simp only [Value.okWide,Tryz.underlying22] at k
  obtain ⟨cs,h1,_⟩:=k
  exact ⟨cs,h1⟩
 obtain ⟨fuel,hf⟩:=agg_open h
 obtain ⟨zs,h1,h2,h3⟩:=ints_of_array (n:=6) Tryz.underlying22 Tryz.underlying3 (by kernel_rfl) (by kernel_rfl) hf
 obtain ⟨cs⟩:=cs
 simp only at h1
 subst h1
 match zs,h2 with
 | [a,b,c,d,e,f],_=>exact ⟨a,b,c,d,e,f,rfl,h3 a (by simp),h3 b (by simp),h3 c (by simp),h3 d (by simp),h3 e (by simp),h3 f (by simp)⟩
theorem open_u8 {P:Program} {H:Type} {enc:TypeId × Value→H} {W:World} {base:Nat} {t:TypeId} {v:Value} {d:DataW H} {p:List MemPlace} (ht:P.underlying t=some (.int .u8)) (k:Value.okWide P W .any base t v) (h:DataW.Trod enc P W 0 (fun _=>true) true t v d p) :
  ∃ c:UInt8,v=.int .u8 c.toNat:=by
 obtain ⟨a,rfl,rfl,rfl,wa⟩:=open_int ht k h
 have:=Go.bounds_u8 wa
 exact ⟨UInt8.ofNat a.toNat,by rw [UInt8.toNat_ofNat',Nat.mod_eq_of_lt (by omega),Int.toNat_of_nonneg this.1]⟩
theorem var_heap {P:Program} {W:World} {n:String} {g:Nat} {cs:Array Value} (hg:P.globalNamed n=some g) (h:W.var? P n=some cs):∃ t fz,W.heap[g]?=some (.cells cs t fz):=by
 unfold World.var? at h
 simp only [hg,Option.bind_some] at h
 split at h
 ·rename_i cs' t fz heq
  cases h
  exact ⟨t,fz,heq⟩
 ·cases h
theorem rnd_of_laid {W:World} {r:List (String × DataW Unit)} {x:String × DataW Unit} (h:laidMet Tryz.prog (x :: ("dialtone/digest.round", Rows.laid_dialtone_digest_round) :: r) W):RndAt W:=by
 have h2:=h.tail
 have e:(Rows.laid_dialtone_digest_round:DataW Unit)=Lib.tabData .u32 kTab:=rfl
 rw [e] at h2
 have h3:=Lib.tabIs_of_head (P:=Tryz.prog) (g:=1) (by kernel_rfl) (by kernel_rfl) Tryz.underlying329 Tryz.underlying149 (by kernel_rfl) (by kernel_rfl) h2
 unfold Lib.TabIs at h3
 exact var_heap (by kernel_rfl) h3
theorem star10 : "*" ++ "errors.errorString" = "*errors.errorString" := by decide
theorem rowErr (u:TypeId) (h:Tryz.prog.typeName? 3 u=some "*errors.errorString"):u=359 :=
 typeName_ptr_named (nm := "errors.errorString") (by rw [star10];kernel_rfl) (by kernel_rfl) (by decide) u (by rw [star10];exact h)
theorem dmg_of_laid {W:World} {r:List (String × DataW Unit)} {x y:String × DataW Unit} (h:laidMet Tryz.prog (x :: y :: ("dialtone/journal.errDamaged", Rows.laid_dialtone_journal_errDamaged) :: r) W):∃ a,DmgAt W a:=by
 have h2:=h.tail.tail
 obtain ⟨a,s,h3,_⟩:=laid_sentinel (P:=Tryz.prog) (g:=0) h2 (by kernel_rfl) (by kernel_rfl) Tryz.underlying217 rowErr Tryz.underlying359 Tryz.underlying381 rfl rfl Tryz.underlying9 (by kernel_rfl) (by kernel_rfl)
 exact ⟨a,var_heap (by kernel_rfl) h3⟩
end
end Go.Proofs.YtledkokhghjfmaaGreatDoor
