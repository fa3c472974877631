/-
  The law's two carriers: every call of sane.
-/
import Derived.Test.YtledkokhghjfmaaGreatDoorPN10
namespace Go.Proofs.YtledkokhghjfmaaGreatDoor
open Go.RowKit Go.Shelf Go.Lib
def exT:Su:=⟨1,[⟨100,200,0⟩],10,5,20,30,[oneK 1,oneK 2]⟩
def cpA1:Cp:=⟨[(ntA,true)],1,[(1,enA)]⟩
def cpB1:Cp:=⟨[(ntB,true)],1,[(0,enB_)]⟩
def cpA2:Cp:=cpA1.take 1 enA pkB
def cpB2:Cp:=cpB1.take 0 enB_ pkA
structure TwP (W0 w:World) (xa ya da:Nat) (L M:List ByteArray) (c d:Cp):Prop where
 ex:∃ x y J K,Two W0.heap.size w exS exT x y J K L M c d∧x.cb=xa∧y.cb=ya∧J.db=da
 fr:Fr [] W0 w
section
variable {W0 w w':World} {xa ya da:Nat} {L M:List ByteArray} {c d:Cp}
theorem TwP.same (h:TwP W0 w xa ya da L M c d) (hf:Fr [] w w'):TwP W0 w' xa ya da L M c d:=by
 obtain ⟨x,y,J,K,h1,h2⟩:=h.ex
 exact ⟨⟨x,y,J,K,h1.same hf,h2⟩,h.fr.trans hf⟩
theorem TwP.new {w1 w2:World} {x y:CaR} {J K:JR} (ha:CjIn w1 exS x J) (hxc:x.cp=⟨[],0,ends0 exS.keys 0 exS.keys.length⟩) (hxb:x.br=false) (hJt:J.t=tp0.adds []) (hJb:J.br=false) (hJD:J.D=Dk.new 65536) (f1:Fr [] W0 w1) (hy:∀ k,k∈cjB x J→W0.heap.size≤k)
  (hb:CjIn w2 exT y K) (hyc:y.cp=⟨[],0,ends0 exT.keys 1 exT.keys.length⟩) (hyb:y.br=false) (hKt:K.t=tp0.adds []) (hKb:K.br=false) (hKD:K.D=Dk.new 65536) (f2:Fr [] w1 w2) (hz:∀ k,k∈cjB y K→w1.heap.size≤k) (hg:∀ g,(y.bv.ownBlock=some g∨y.kv.ownBlock=some g)→w1.heap.size≤g):TwP W0 w2 x.cb y.cb J.db [] [] cpA0 cpB0:=by
 have hx:∀ k,k∈cjB x J→k < w1.heap.size:=fun k hk=>ha.lt hk
 have hs:=f1.size
 refine ⟨⟨x,y,J,K,⟨⟨ha.same f2,hJt,hJb,by rw [hJD];exact clean_new 65536,by rw [hJD];exact List.length_replicate,hxc,hxb⟩,⟨hb,hKt,hKb,by rw [hKD];exact clean_new 65536,by rw [hKD];exact List.length_replicate,hyc,hyb⟩,?_,?_,?_,hy,?_,?_⟩,rfl,rfl,rfl⟩,f1.trans f2⟩
 ·intro k h1 h2
  have:=hx k h1;have:=hz k h2;omega
 ·intro g h1 h2
  have:=(ha.ca.suA g h1).1;have:=hz g h2;omega
 ·intro g h1 h2
  have:=hg g h1;have:=hx g h2;omega
 ·intro k hk
  have:=hz k hk;omega
 ·have:=f2.size;omega
theorem TwP.rnd (h:TwP W0 w xa ya da L M c d) (hR:RndAt W0):RndAt w:=hR.same h.fr (by simp)
theorem enc_max {l:List ByteArray} (h:∀ r,r∈l→r.size≤1000) (hl:l.length≤50):(encAll head0 l).length≤65536:=by
 have:=enc_1000 l h head0
 omega
theorem addA_c (h:TwP W0 w xa ya da [] [] cpA0 cpB0) (hR:RndAt W0):Calls Tryz.prog 12 #[.pointer (some ⟨xa,0,none⟩),ntV ntA] w fun e w'=>e=.returned (.int .i64 0)∧TwP W0 w' xa ya da [rcA] [] cpA1 cpB0:=by
 have hr:=h.rnd hR
 obtain ⟨x,y,J,K,h1,rfl,rfl,rfl⟩:=h.ex
 refine (add_s h1.a ntA (by decide) (fun e he=>by simp only [cpA0,List.mem_singleton] at he;subst he;decide) (enc_max (fun r hr=>by simp only [List.nil_append,List.mem_singleton] at hr;subst hr;exact rc_sz.1) (by simp)) (Nat.le_trans rc_sz.1 (by decide)) (by simp) hr).mono ?_
 rintro e w' ⟨rfl,x',J',hst,hp⟩
 exact ⟨rfl,⟨x',y,J',K,h1.step hst hp,hp.cb,rfl,hp.db⟩,h1.fr hp h.fr (Nat.le_refl _)⟩
theorem addB_c (h:TwP W0 w xa ya da [rcA] [] cpA1 cpB0) (hR:RndAt W0):Calls Tryz.prog 12 #[.pointer (some ⟨ya,0,none⟩),ntV ntB] w fun e w'=>e=.returned (.int .i64 0)∧TwP W0 w' xa ya da [rcA] [rcB] cpA1 cpB1:=by
 have hr:=h.rnd hR
 obtain ⟨x,y,J,K,h1,rfl,rfl,rfl⟩:=h.ex
 refine (add_s h1.b ntB (by decide) (fun e he=>by simp only [cpB0,List.mem_singleton] at he;subst he;decide) (enc_max (fun r hr=>by simp only [List.nil_append,List.mem_singleton] at hr;subst hr;exact rc_sz.2.1) (by simp)) (Nat.le_trans rc_sz.2.1 (by decide)) (by simp) hr).mono ?_
 rintro e w' ⟨rfl,x',J',hst,hp⟩
 exact ⟨rfl,⟨x,x',J,J',(h1.swap.step hst hp).swap,rfl,hp.cb,rfl⟩,h1.swap.fr hp h.fr (Nat.le_refl _)⟩
theorem addN_c (h:TwP W0 w xa ya da [rcA] [rcB] cpA1 cpB1):Calls Tryz.prog 12 #[.pointer (some ⟨xa,0,none⟩),ntV ntB] w fun e w'=>e=.returned (.int .i64 430)∧TwP W0 w' xa ya da [rcA] [rcB] cpA1 cpB1:=by
 obtain ⟨x,y,J,K,h1,rfl,rfl,rfl⟩:=h.ex
 refine (CAAdd_bad h1.a.cj.ca ntB (by rw [show x.added=x.cp.added from rfl,h1.a.cp];decide) (.inr (by rw [show decide (ntB.src=exS.own)=false from by decide];simp))).mono ?_
 rintro e w' ⟨rfl,hf⟩
 exact ⟨rfl,h.same hf⟩
theorem out_s {s:Su} {x:CaR} {J:JR} (h:St w s x J L c) {p:Int} {E:En} (hE:getA c.ends p=some E) (hac:E.acked≤E.sent.length) (hsl:E.sent.length≤100000) (hrc:E.recv≤100000) (hk:E.key.size≤1000000) (hbd:∀ s,s∈E.sent→s.size≤65536) (hR:RndAt w) :
  Calls Tryz.prog 13 #[.pointer (some ⟨x.cb,0,none⟩),.int .i64 p] w fun e w'=>∃ v,e=.returned v∧PkY w w' v (outP E):=by
 have hcp:=h.cp
 subst hcp
 obtain ⟨A,r,B,hL,hrp,hrE,hg⟩:=ends_split hE
 subst hrE
 exact caOut_c h.cj.ca p h.br (by rw [hL];simp) hg hac hsl hrc hk hbd hR
theorem pk_at {w W:World} {v:Value} {p:Pk} (h:PkY w W v [p]):∃ b o c,v=.slice (some ⟨b,o,none⟩) 1 c∧∀ j u,(pkC p)[j]?=some u→W.cell? ⟨b,o+j,none⟩=some u:=by
 obtain ⟨ad,c,rfl⟩:=(sl_of_row h.row).val
 obtain ⟨b,o,rfl,hc⟩:=(sl_of_row h.row).at_ (by simp)
 exact ⟨b,o,c,rfl,fun j u hj=>hc j u (by simpa [pksC] using hj)⟩
structure TwQ (W0 w:World) (xa ya da g:Nat) (L M:List ByteArray) (c d:Cp):Prop where
 ex:∃ x y J K,Two W0.heap.size w exS exT x y J K L M c d∧x.cb=xa∧y.cb=ya∧J.db=da∧g∉cjB y K
 fr:Fr [] W0 w
theorem outA_c (h:TwP W0 w xa ya da [rcA] [rcB] cpA1 cpB1) (hR:RndAt W0):Calls Tryz.prog 13 #[.pointer (some ⟨xa,0,none⟩),.int .i64 1] w fun e w'=>∃ b o k,e=.returned (.slice (some ⟨b,o,none⟩) 1 k)∧(∀ j u,(pkC pkA)[j]?=some u→w'.cell? ⟨b,o+j,none⟩=some u)∧TwP W0 w' xa ya da [rcA] [rcB] cpA1 cpB1:=by
 have hr:=h.rnd hR
 obtain ⟨x,y,J,K,h1,rfl,rfl,rfl⟩:=h.ex
 refine (out_s h1.a (p:=1) (E:=enA) rfl (by decide) (by decide) (by decide) (by rw [show enA.key.size=32 from kyA_32];decide) (fun s hs=>by simp only [enA,List.mem_singleton] at hs;subst hs;exact Nat.le_trans tA_sz (by decide)) hr).mono ?_
 rintro e w' ⟨v,rfl,hp⟩
 rw [outPA] at hp
 obtain ⟨b,o,k,rfl,hc⟩:=pk_at hp
 exact ⟨b,o,k,rfl,hc,h.same hp.fr⟩
theorem outB_c (h:TwP W0 w xa ya da [rcA] [rcB] cpA1 cpB1) (hR:RndAt W0):Calls Tryz.prog 13 #[.pointer (some ⟨ya,0,none⟩),.int .i64 0] w fun e w'=>∃ b o k,e=.returned (.slice (some ⟨b,o,none⟩) 1 k)∧(∀ j u,(pkC pkB)[j]?=some u→w'.cell? ⟨b,o+j,none⟩=some u)∧Fr [] w w'∧TwQ W0 w' xa ya da b [rcA] [rcB] cpA1 cpB1:=by
 have hr:=h.rnd hR
 obtain ⟨x,y,J,K,h1,rfl,rfl,rfl⟩:=h.ex
 refine (out_s h1.b (p:=0) (E:=enB_) rfl (by decide) (by decide) (by decide) (by rw [show enB_.key.size=32 from kyB_32];decide) (fun s hs=>by simp only [enB_,List.mem_singleton] at hs;subst hs;exact Nat.le_trans tB_sz (by decide)) hr).mono ?_
 rintro e w' ⟨v,rfl,hp⟩
 rw [outPB] at hp
 obtain ⟨b,o,k,rfl,hc⟩:=pk_at hp
 exact ⟨b,o,k,rfl,hc,hp.fr,⟨x,y,J,K,h1.same hp.fr,rfl,rfl,rfl,fun hm=>by have h2:=h1.b.cj.lt hm;have h3:=hp.young b rfl;omega⟩,h.fr.trans hp.fr⟩
theorem inB_c {g:Nat} (h:TwQ W0 w xa ya da g [rcA] [rcB] cpA1 cpB1) (hR:RndAt W0):Calls Tryz.prog 14 #[.pointer (some ⟨ya,0,none⟩),.int .i64 0,.agg #[.int .i64 1,.int .i64 0,.string ⟨#[2,172,2,2,0,6]⟩,.string pkA.sl]] w fun e w'=>e=.returned (.tuple #[.int .i64 1,.int .i64 0])∧TwP W0 w' xa ya da [rcA] [rcB,rpkA] cpA1 cpB2∧∀ i v,w.cell? ⟨g,i,none⟩=some v→w'.cell? ⟨g,i,none⟩=some v:=by
 have hr:=hR.same h.fr (by simp)
 obtain ⟨x,y,J,K,h1,rfl,rfl,rfl,hg⟩:=h.ex
 rw [show Value.agg #[.int .i64 1,.int .i64 0,.string ⟨#[2,172,2,2,0,6]⟩,.string pkA.sl]=pkV pkA from by rw [← txtA];rfl]
 have hc:=in_s h1.b 0 enB_ rfl pkA (by decide) (by decide) (by decide) (by decide) rfl okPA (by decide) (by decide) (by decide) (by decide) (fun s hs=>by rw [inPA,List.mem_singleton] at hs;subst hs;exact Nat.le_trans tA_sz (by decide)) (by rw [inPA];decide) (enc_max (by have:=rc_sz;rintro r hr;simp only [List.cons_append,List.nil_append,List.mem_cons,List.not_mem_nil,or_false] at hr;rcases hr with rfl | rfl;exact this.2.1;exact this.2.2.1) (by simp)) (Nat.le_trans rc_sz.2.2.1 (by decide)) (by simp) hr (fun hm=>by have:=h1.yb _ hm;have:=rnd_lt hR;omega)
 rw [inPA] at hc
 refine hc.mono ?_
 rintro e w' ⟨rfl,x',J',hst,hp⟩
 exact ⟨rfl,⟨⟨x,x',J,J',(h1.swap.step hst hp).swap,rfl,hp.cb,rfl⟩,h1.swap.fr hp h.fr (Nat.le_refl _)⟩,fun i v hv=>hp.up.fr.cel hv hg⟩
theorem inA_c (h:TwP W0 w xa ya da [rcA] [rcB,rpkA] cpA1 cpB2) (hR:RndAt W0):Calls Tryz.prog 14 #[.pointer (some ⟨xa,0,none⟩),.int .i64 1,.agg #[.int .i64 1,.int .i64 0,.string tB,.string pkB.sl]] w fun e w'=>e=.returned (.tuple #[.int .i64 1,.int .i64 0])∧TwP W0 w' xa ya da [rcA,rpkB] [rcB,rpkA] cpA2 cpB2:=by
 have hr:=h.rnd hR
 obtain ⟨x,y,J,K,h1,rfl,rfl,rfl⟩:=h.ex
 have hc:=in_s h1.a 1 enA rfl pkB (by decide) (by decide) (by decide) (by decide) rfl okPB (by decide) (by decide) (by decide) (by decide) (fun s hs=>by rw [inPB,List.mem_singleton] at hs;subst hs;exact Nat.le_trans tB_sz (by decide)) (by rw [inPB];decide) (enc_max (by have:=rc_sz;rintro r hr;simp only [List.cons_append,List.nil_append,List.mem_cons,List.not_mem_nil,or_false] at hr;rcases hr with rfl | rfl;exact this.1;exact this.2.2.2) (by simp)) (Nat.le_trans rc_sz.2.2.2 (by decide)) (by simp) hr (fun hm=>by have:=h1.ya _ hm;have:=rnd_lt hR;omega)
 rw [inPB] at hc
 refine hc.mono ?_
 rintro e w' ⟨rfl,x',J',hst,hp⟩
 exact ⟨rfl,⟨x',y,J',K,h1.step hst hp,hp.cb,rfl,hp.db⟩,h1.fr hp h.fr (Nat.le_refl _)⟩
theorem said_at {w W:World} {g:Nat} (h:RyG ntC 31 15 w W (.slice (some ⟨g,0,none⟩) 2 2) [ntA,ntB]):(∀ j u,(ntC ntA)[j]?=some u→W.cell? ⟨g,j,none⟩=some u)∧∀ j u,(ntC ntB)[j]?=some u→W.cell? ⟨g,15+j,none⟩=some u:=by
 obtain ⟨b,o,he,hc⟩:=h.sl.at_ (by omega)
 cases he
 refine ⟨fun j u hu=>?_,fun j u hu=>?_⟩
 ·have hj:j < 15:=(List.getElem?_eq_some_iff.1 hu).1
  have:=hc j u (by simp only [List.flatMap_cons];rw [List.getElem?_append_left (by simpa [ntC] using hj)];exact hu)
  simpa using this
 ·have:=hc (15+j) u (by simp only [List.flatMap_cons];rw [List.getElem?_append_right (by simp [ntC]),show 15+j - (ntC ntA).length=j by simp [ntC],List.getElem?_append_left (by simpa [ntC] using (List.getElem?_eq_some_iff.1 hu).1)];exact hu)
  simpa using this
structure Thr (W0 w:World) (xa ya za:Nat):Prop where
 ex:∃ x y z,(CaIn w exS x∧x.cp=cpA2∧x.cb=xa)∧(CaIn w exT y∧y.cp=cpB2∧y.cb=ya)∧CaIn w exS z∧z.cp=cpA2∧z.cb=za
 fr:Fr [] W0 w
theorem Thr.same {za:Nat} (h:Thr W0 w xa ya za) (hf:Fr [] w w'):Thr W0 w' xa ya za:=by
 obtain ⟨x,y,z,⟨h1,h1'⟩,⟨h2,h2'⟩,h3,h3'⟩:=h.ex
 exact ⟨⟨x,y,z,⟨h1.same hf,h1'⟩,⟨h2.same hf,h2'⟩,h3.same hf,h3'⟩,h.fr.trans hf⟩
theorem again_c (h:TwP W0 w xa ya da [rcA,rpkB] [rcB,rpkA] cpA2 cpB2) (hR:RndAt W0) (a:Addr) (hA:DmgAt W0 a) {bv kv:Value} (hs:SuAt w bv kv exS) (hg:∀ g,(bv.ownBlock=some g∨kv.ownBlock=some g)→g < W0.heap.size) :
  Calls Tryz.prog 15 #[.pointer (some ⟨da,0,none⟩),suV exS bv kv] w fun e w'=>∃ za,e=.returned (.tuple #[.pointer (some ⟨za,0,none⟩),.int .i64 0])∧Thr W0 w' xa ya za:=by
 have hr:=h.rnd hR
 obtain ⟨x,y,J,K,h1,rfl,rfl,rfl⟩:=h.ex
 have hjb:∀ k,k∈J.fp→k∈jnB x.jb J:=fun k hk=>List.mem_append.2 (.inr hk)
 have hcb:∀ k,k∈J.fp→k∈cjB x J:=fun k hk=>List.mem_append.2 (.inr (hjb k hk))
 refine (reopen_s 0 rfl hs (by decide) (by decide) (by decide) (fun g hq hm=>by have:=hg g hq;have:=h1.ya g (hcb g hm);omega) h1.a.cj.jn.disk a (hA.fr h.fr (by simp)) hr (fun hm=>by have:=h1.ya _ (hcb _ hm);have:=rnd_lt hR;omega) h1.a.cl h1.a.dl (by simp) repA).mono ?_
 rintro e w' ⟨z,J',rfl,hz,hU,_⟩
 refine ⟨z.cb,rfl,⟨x,y,z,⟨h1.a.cj.ca.fr hU.fr (fun k hk hm=>h1.a.cj.ap k hk (hjb k hm)) (fun g hq hm=>h1.a.cj.apS g hq (hjb g hm)),h1.a.cp,rfl⟩,⟨h1.b.cj.ca.fr hU.fr (fun k hk hm=>h1.ap k (hcb k hm) (List.mem_append.2 (.inl hk))) (fun g hq hm=>h1.sb g hq (hcb g hm)),h1.b.cp,rfl⟩,hz.cj.ca,hz.cp,rfl⟩,h.fr.step hU.fr (fun k hk=>.inr (h1.ya k (hcb k hk)))⟩
theorem notes_k {s:Su} {x:CaR} (h:CaIn w s x) {l:List (Nt × Bool)} (hl:x.cp.nts=l) (hz:l.length≤1000) (hp:(l.map Prod.fst).Perm [ntA,ntB]) :
  Calls Tryz.prog 19 #[.pointer (some ⟨x.cb,0,none⟩)] w fun e w'=>∃ v,e=.returned v∧Sl w' v 2 ([ntA,ntB].flatMap ntC)∧Fr [] w w':=by
 subst hl
 refine (CANotices_c h hz).mono ?_
 rintro e w' ⟨v,m',rfl,hr,hq,hk,hf⟩
 obtain rfl:[ntA,ntB]=m':=sort_unique (hp.symm.trans hq.symm) sortAB hk injAB
 exact ⟨v,rfl,hr.sl,hf⟩
theorem notesA_c {za:Nat} (h:Thr W0 w xa ya za):Calls Tryz.prog 19 #[.pointer (some ⟨xa,0,none⟩)] w fun e w'=>∃ v,e=.returned v∧Sl w' v 2 ([ntA,ntB].flatMap ntC)∧Thr W0 w' xa ya za:=by
 obtain ⟨x,y,z,⟨h1,h2,rfl⟩,_,_⟩:=h.ex
 refine (notes_k (l:=[(ntA,true),(ntB,true)]) h1 (by rw [h2];exact takeA) (by simp) (List.Perm.refl _)).mono ?_
 rintro e w' ⟨v,rfl,hs,hf⟩
 exact ⟨v,rfl,hs,h.same hf⟩
theorem notesB_c {za:Nat} (h:Thr W0 w xa ya za):Calls Tryz.prog 19 #[.pointer (some ⟨ya,0,none⟩)] w fun e w'=>∃ v,e=.returned v∧Sl w' v 2 ([ntA,ntB].flatMap ntC)∧Thr W0 w' xa ya za:=by
 obtain ⟨x,y,z,_,⟨h1,h2,rfl⟩,_⟩:=h.ex
 refine (notes_k (l:=[(ntB,true),(ntA,true)]) h1 (by rw [h2];exact takeB) (by simp) (List.Perm.swap _ _ _)).mono ?_
 rintro e w' ⟨v,rfl,hs,hf⟩
 exact ⟨v,rfl,hs,h.same hf⟩
theorem notesZ_c {za:Nat} (h:Thr W0 w xa ya za):Calls Tryz.prog 19 #[.pointer (some ⟨za,0,none⟩)] w fun e w'=>∃ v,e=.returned v∧Sl w' v 2 ([ntA,ntB].flatMap ntC)∧Thr W0 w' xa ya za:=by
 obtain ⟨x,y,z,_,_,h1,h2,rfl⟩:=h.ex
 refine (notes_k (l:=[(ntA,true),(ntB,true)]) h1 (by rw [h2];exact takeA) (by simp) (List.Perm.refl _)).mono ?_
 rintro e w' ⟨v,rfl,hs,hf⟩
 exact ⟨v,rfl,hs,h.same hf⟩
end
end Go.Proofs.YtledkokhghjfmaaGreatDoor
