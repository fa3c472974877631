/-
  The law's sane.
-/
import Derived.Test.YtledkokhghjfmaaGreatDoorPCaXt
import Derived.Test.YtledkokhghjfmaaGreatDoorPN05
namespace Go.Proofs.YtledkokhghjfmaaGreatDoor
open Go.RowKit Go.Shelf Go.Lib
section
variable {P:Program} {ops:Array Oper} {Q:Exit→Act→World→Prop} {S:World→Prop} {fin:Nat}
theorem tree_takeg {k j u:Nat} {want:Bool} {d:Tmp} {t:OrdT} {a:Act} {w:World} {o:Oper} {v:Value} (ho:ops[k]?=some o) (hod:o.dst=some d) (hg:o.guard=some (j,want)) (hd:(ops[j]?).bind (·.dst)=some u) (ht:a.tmps[u]?=some (.bool want)) (hS:S w)
  (hy:∀ w,S w→(execOp a.eval o).run P w=.ok (.value v) w) (h:wpTree P ops Q S fin t { a with tmps:=a.tmps.setIfInBounds d v } w):wpTree P ops Q S fin (.take k t) a w:=by
 simp only [wpTree,ho]
 exact ⟨v,.inl ⟨by rw [wanted_of hg hd ht];simp,hy⟩,hS,by rw [put_some hod];exact h⟩
theorem tree_oneg {i j u:Nat} {want:Bool} {t:OrdT} {a:Act} {w:World} {o:Oper} (ho:ops[i]?=some o) (hg:o.guard=some (j,want)) (hd:(ops[j]?).bind (·.dst)=some u) (ht:a.tmps[u]?=some (.bool want))
  (h:∀ K:Act→World→Prop,(∀ a' w',S w'→wpTree P ops Q S fin t a' w'→K a' w')→o.wp P a w K Q):wpTree P ops Q S fin (.one i t) a w:=by
 simp only [wpTree]
 unfold wpOp
 have hw:Region.wanted o (yielded ops a.tmps)=true:=by rw [wanted_of hg hd ht];simp
 simp only [ho,hw,if_true]
 exact .inl (h _ fun a' w' h1 h2=>⟨.inr h1,h2⟩)
end
set_option maxRecDepth 100000 in
set_option maxHeartbeats 16000000 in
theorem sane_c (w:World) (a:Addr) (hA:DmgAt w a) (hR:RndAt w):Calls Tryz.prog 5 #[] w fun e w'=>e=.returned (.bool true)∧Fr [] w w':=by
 have HDm:=qj hA;have HRd:=qj hR
 have hrA:readV 0 ⟨#[2,172,2,2,0,6]⟩=.tuple #[ntV ntA,.int .i64 0]:=by kernel_rfl
 have htA:txtV ntA=.tuple #[.string ⟨#[2,172,2,2,0,6]⟩,.int .i64 0]:=by kernel_rfl
 have HRA:=qj hrA;have HTA:=qj htA
 clear hA hR hrA htA
 go_enter Tryz.func5,Tryz.ntmps5
 go_wp2_with fail
 refine (said_c _).mono ?_
 rintro e w1 ⟨rfl,hr1,f1⟩
 have HF1:=qj f1
 have sa:=(said_at hr1).1
 have x0:w1.cell? ⟨w.heap.size,0,none⟩=some (.int .i64 0):=sa 0 _ rfl;have x1:w1.cell? ⟨w.heap.size,1,none⟩=some (.int .i64 1):=sa 1 _ rfl;have x2:w1.cell? ⟨w.heap.size,2,none⟩=some (.int .i64 150):=sa 2 _ rfl;have x3:w1.cell? ⟨w.heap.size,3,none⟩=some (.int .i64 1):=sa 3 _ rfl;have x4:w1.cell? ⟨w.heap.size,4,none⟩=some (.int .i64 0):=sa 4 _ rfl;have x5:w1.cell? ⟨w.heap.size,5,none⟩=some (.int .i64 3):=sa 5 _ rfl;have x6:w1.cell? ⟨w.heap.size,6,none⟩=some (.int .i64 0):=sa 6 _ rfl;have x7:w1.cell? ⟨w.heap.size,7,none⟩=some (.int .i64 0):=sa 7 _ rfl;have x8:w1.cell? ⟨w.heap.size,8,none⟩=some (.int .i64 0):=sa 8 _ rfl;have x9:w1.cell? ⟨w.heap.size,9,none⟩=some (.int .i64 0):=sa 9 _ rfl;have x10:w1.cell? ⟨w.heap.size,10,none⟩=some (.int .i64 0):=sa 10 _ rfl;have x11:w1.cell? ⟨w.heap.size,11,none⟩=some (.bool false):=sa 11 _ rfl;have x12:w1.cell? ⟨w.heap.size,12,none⟩=some (.int .i64 0):=sa 12 _ rfl;have x13:w1.cell? ⟨w.heap.size,13,none⟩=some (.int .i64 0):=sa 13 _ rfl;have x14:w1.cell? ⟨w.heap.size,14,none⟩=some (.int .i64 0):=sa 14 _ rfl
 clear sa hr1 f1
 go_wp2_with fail
 refine (CAText_c ntA w1).mono ?_
 rintro e w2 ⟨rfl,f2⟩
 rw [HTA.out]
 have HF2:=qj (HF1.out.trans f2)
 clear f2 HF1 x0 x1 x2 x3 x4 x5 x6 x7 x8 x9 x10 x11 x12 x13 x14
 go_wp2_with fail
 refine (CARead_c 0 _ w2 (by decide)).mono ?_
 rintro e w3 ⟨rfl,f3⟩
 rw [HRA.out]
 have HF3:=qj (HF2.out.trans f3)
 have F4:=Fr.alloc [] w3 (.cells (ntC ntA).toArray 31)
 have HB4:=qj (qm w3 (.cells (ntC ntA).toArray 31))
 have HF4:=qj (HF3.out.trans F4)
 clear f3 HF2 HF3 F4
 go_wp2_with fail
 refine (example_c _).mono ?_
 rintro e w5 ⟨bb,kb,rfl,hsu,f5,hb1,hb2,hb3,hb4⟩
 have HF5:=qj (HF4.out.trans f5);have HB5:=qj (f5.keep HB4.out (by simp));have HS5:=qj hsu
 clear hsu f5 HF4 HB4 hb1 hb2 hb3 hb4
 go_wp2_with fail
 refine (said_c _).mono ?_
 rintro e w6 ⟨rfl,hr6,f6⟩
 have HF6:=qj (HF5.out.trans f6);have HB6:=qj (f6.keep HB5.out (by simp));have HS6:=qj (HS5.out.same f6);have HR6:=qj hr6.sl
 clear hr6 f6 HF5 HB5 HS5
 go_wp2_with fail
 refine (CADerive_c exS _ _ _ [ntA,ntB] 150 0 w6 HS6.out (by decide) (by decide) HR6.out (by decide)).mono ?_
 rintro e w7 ⟨lv,pv,ps,rfl,hch,f7⟩
 rw [derA] at hch ⊢
 obtain ⟨la,lc,rfl⟩:=hch.life.val
 obtain ⟨pa,pc,rfl⟩:=hch.ports.row.val
 obtain ⟨p,rfl⟩:∃ p,ps=[p]:=by
  have h1:ps.length=1:=by have:=congrArg List.length hch.eq;simpa [chE] using this
  match ps,h1 with
  | [p],_=>exact ⟨p,rfl⟩
 have hpq:p.p=poE []:=by have:=hch.eq;simpa [chE] using this
 obtain ⟨pb,po,rfl,hp6⟩:∃ pb po,pa=some ⟨pb,po,none⟩∧w7.cell? ⟨pb,po+6,none⟩=some (.slice p.a 0 p.c):=by
  obtain ⟨pb,po,ha,hc⟩:=hch.ports.row.sl.at_ (by simp)
  exact ⟨pb,po,ha,hc 6 _ (by simp only [List.flatMap_cons,List.flatMap_nil,List.append_nil,poX,poC,Pv.v,hpq];rfl)⟩
 simp only [List.length_cons,List.length_nil,Nat.zero_add]
 rw [show (chE []).life.length=1 from rfl]
 dsimp only [chV,chE]
 generalize p.a=qa at hp6
 generalize p.c=qc at hp6
 have F8:=f7.trans (Fr.alloc [] w7 (.cells #[.int .i64 150,.int .i64 0,.int .i64 10,.int .i64 5,.int .i64 20,.int .i64 30,.slice la 1 lc,.slice (some ⟨pb,po,none⟩) 1 pc] 66))
 have HC8:=qj (qm w7 (.cells #[.int .i64 150,.int .i64 0,.int .i64 10,.int .i64 5,.int .i64 20,.int .i64 30,.slice la 1 lc,.slice (some ⟨pb,po,none⟩) 1 pc] 66))
 have HP8:=qj ((Fr.alloc [] w7 (.cells #[.int .i64 150,.int .i64 0,.int .i64 10,.int .i64 5,.int .i64 20,.int .i64 30,.slice la 1 lc,.slice (some ⟨pb,po,none⟩) 1 pc] 66)).cel hp6 (by simp))
 have HF8:=qj (HF6.out.trans F8);have HB8:=qj (F8.keep HB6.out (by simp))
 clear F8 f7 hp6 hpq hch HF6 HB6 HS6 HR6
 go_wp2_with fail
 refine (example_c _).mono ?_
 rintro e w9 ⟨bb9,kb9,rfl,hsu,f9,_,_,_,_⟩
 have HF9:=qj (HF8.out.trans f9);have HB9:=qj (f9.keep HB8.out (by simp));have HC9:=qj (f9.keep HC8.out (by simp));have HP9:=qj (f9.cel HP8.out (by simp));have HS9:=qj hsu
 clear hsu f9 HF8 HB8 HC8 HP8
 go_wp2_with fail
 refine (said_c _).mono ?_
 rintro e w10 ⟨rfl,_,f10⟩
 have HF10:=qj (HF9.out.trans f10);have HB10:=qj (f10.keep HB9.out (by simp));have HC10:=qj (f10.keep HC9.out (by simp));have HP10:=qj (f10.cel HP9.out (by simp));have HS10:=qj (HS9.out.same f10)
 clear f10 HF9 HB9 HC9 HP9 HS9
 go_wp2_with fail
 refine (CADerive_none exS _ _ _ 200 w10 HS10.out (by decide) (by decide)).mono ?_
 rintro e w11 ⟨rfl,f11⟩
 have F12:=f11.trans (Fr.alloc [] w11 (.cells (chC 0 0 0 0 0 0 nilS nilS).toArray 66))
 have HF12:=qj (HF10.out.trans F12);have HB12:=qj (F12.keep HB10.out (by simp));have HC12:=qj (F12.keep HC10.out (by simp));have HP12:=qj (F12.cel HP10.out (by simp))
 obtain ⟨w12,hw12⟩:∃ w12,w11.alloc (.cells (chC 0 0 0 0 0 0 nilS nilS).toArray 66)=w12:=⟨_,rfl⟩
 rw [hw12] at HF12 HB12 HC12 HP12
 have HW12:Hid (w11.alloc (.cells #[.int .i64 0,.int .i64 0,.int .i64 0,.int .i64 0,.int .i64 0,.int .i64 0,.slice none 0 0,.slice none 0 0] 66)=w12):=qj hw12
 clear f11 F12 HF10 HB10 HC10 HP10 HS10 hw12
 go_wp2_with fail
 rw [HW12.out]
 clear HW12
 refine reg_tree (Fr [] w12) 24 (.take 0 (.take 1 (.take 2 (.take 3 (.take 4 (.take 5 (.take 6 (.take 7 (.take 8 (.take 9 (.take 10 (.take 11 (.take 12 (.take 13 (.take 14 (.take 15 (.take 16 (.take 17 (.take 18 (.take 19 (.one 20 (.one 21 (.one 22 (.one 23 (.one 24 .nil))))))))))))))))))))))))) (by kernel_rfl) (by kernel_rfl) (by kernel_rfl) rfl ?_
 have FC:Fr [] w12 w12.drew:=Fr.drew _ _
 generalize w12.drew=WC at FC ⊢
 (refine tree_take (v:=?_) rfl rfl rfl FC (fun w hS=>?_) ?_;rotate_left;(focus (clear hS;go_simp;rfl));simp only [qu,qv,qx])
 (refine tree_take (v:=?_) rfl rfl rfl FC (fun w hS=>?_) ?_;rotate_left;(focus (clear hS;go_simp;rfl));simp only [qu,qv,qx])
 (refine tree_take (v:=?_) rfl rfl rfl FC (fun w hS=>?_) ?_;rotate_left;(focus (clear hS;go_simp;rfl));simp only [qu,qv,qx])
 (refine tree_takeg (v:=?_) rfl rfl rfl rfl rfl FC (fun w hS=>?_) ?_;rotate_left;(focus (clear hS;go_simp;rfl));simp only [qu,qv,qx])
 (refine tree_takeg (v:=?_) rfl rfl rfl rfl rfl FC (fun w hS=>?_) ?_;rotate_left;(focus (clear hS;go_simp;rfl));simp only [qu,qv,qx])
 (refine tree_take (v:=?_) rfl rfl rfl FC (fun w hS=>?_) ?_;rotate_left;(focus (clear hS;go_simp;rfl));simp only [qu,qv,qx])
 (refine tree_take (v:=?_) rfl rfl rfl FC (fun w hS=>?_) ?_;rotate_left;(focus (clear hS;go_simp;rfl));simp only [qu,qv,qx])
 (refine tree_takeg (v:=?_) rfl rfl rfl rfl rfl FC (fun w hS=>?_) ?_;rotate_left;(focus (clear hS;go_simp;rfl));simp only [qu,qv,qx])
 (refine tree_takeg (v:=?_) rfl rfl rfl rfl rfl FC (fun w hS=>?_) ?_;rotate_left;(focus (clear hS;go_simp;rfl));simp only [qu,qv,qx])
 (refine tree_take (v:=?_) rfl rfl rfl FC (fun w hS=>?_) ?_;rotate_left;(focus (clear hS;go_simp;rfl));simp only [qu,qv,qx])
 (refine tree_take (v:=?_) rfl rfl rfl FC (fun w hS=>?_) ?_;rotate_left;(focus (clear hS;go_simp;rfl));simp only [qu,qv,qx])
 (refine tree_takeg (v:=?_) rfl rfl rfl rfl rfl FC (fun w hS=>?_) ?_;rotate_left;(focus (clear hS;go_simp;rfl));simp only [qu,qv,qx])
 (refine tree_takeg (v:=?_) rfl rfl rfl rfl rfl FC (fun w hS=>?_) ?_;rotate_left;(focus (clear hS;go_simp;rfl));simp only [qu,qv,qx])
 (refine tree_take (v:=?_) rfl rfl rfl FC (fun w hS=>?_) ?_;rotate_left;(focus (clear hS;go_simp;rfl));simp only [qu,qv,qx])
 (refine tree_take (v:=?_) rfl rfl rfl FC (fun w hS=>?_) ?_;rotate_left;(focus (clear hS;go_simp;rfl));simp only [qu,qv,qx])
 (refine tree_takeg (v:=?_) rfl rfl rfl rfl rfl FC (fun w hS=>?_) ?_;rotate_left;(focus (clear hS;go_simp;rfl));simp only [qu,qv,qx])
 (refine tree_takeg (v:=?_) rfl rfl rfl rfl rfl FC (fun w hS=>?_) ?_;rotate_left;(focus (clear hS;go_simp;rfl));simp only [qu,qv,qx])
 (refine tree_take (v:=?_) rfl rfl rfl FC (fun w hS=>?_) ?_;rotate_left;(focus (clear hS;go_simp;rfl));simp only [qu,qv,qx])
 (refine tree_take (v:=?_) rfl rfl rfl FC (fun w hS=>?_) ?_;rotate_left;(focus (clear hS;go_simp;rfl));simp only [qu,qv,qx])
 (refine tree_takeg (v:=ntV ntA) rfl rfl rfl rfl rfl FC (fun w hS=>nt_load (.tmp 3) rfl rfl (hS.keep HB12.out (by simp))) ?_;simp only [qu,qv,qx])
 refine tree_oneg rfl rfl rfl rfl (fun K hK=>?_)
 go_simp
 refine (said_c WC).mono ?_
 rintro e w13 ⟨rfl,hr13,f13⟩
 have FD:=FC.trans f13
 have HSA:=qj (said_at hr13).1
 refine hK _ _ FD ?_
 clear hK K hr13
 try simp only [Act.put,qu,qv,qx]
 have x0:w13.cell? ⟨WC.heap.size,0,none⟩=some (.int .i64 0):=HSA.out 0 _ rfl;have x1:w13.cell? ⟨WC.heap.size,1,none⟩=some (.int .i64 1):=HSA.out 1 _ rfl;have x2:w13.cell? ⟨WC.heap.size,2,none⟩=some (.int .i64 150):=HSA.out 2 _ rfl;have x3:w13.cell? ⟨WC.heap.size,3,none⟩=some (.int .i64 1):=HSA.out 3 _ rfl;have x4:w13.cell? ⟨WC.heap.size,4,none⟩=some (.int .i64 0):=HSA.out 4 _ rfl;have x5:w13.cell? ⟨WC.heap.size,5,none⟩=some (.int .i64 3):=HSA.out 5 _ rfl;have x6:w13.cell? ⟨WC.heap.size,6,none⟩=some (.int .i64 0):=HSA.out 6 _ rfl;have x7:w13.cell? ⟨WC.heap.size,7,none⟩=some (.int .i64 0):=HSA.out 7 _ rfl;have x8:w13.cell? ⟨WC.heap.size,8,none⟩=some (.int .i64 0):=HSA.out 8 _ rfl;have x9:w13.cell? ⟨WC.heap.size,9,none⟩=some (.int .i64 0):=HSA.out 9 _ rfl;have x10:w13.cell? ⟨WC.heap.size,10,none⟩=some (.int .i64 0):=HSA.out 10 _ rfl;have x11:w13.cell? ⟨WC.heap.size,11,none⟩=some (.bool false):=HSA.out 11 _ rfl;have x12:w13.cell? ⟨WC.heap.size,12,none⟩=some (.int .i64 0):=HSA.out 12 _ rfl;have x13:w13.cell? ⟨WC.heap.size,13,none⟩=some (.int .i64 0):=HSA.out 13 _ rfl;have x14:w13.cell? ⟨WC.heap.size,14,none⟩=some (.int .i64 0):=HSA.out 14 _ rfl
 refine tree_oneg rfl rfl rfl rfl (fun K hK=>?_)
 go_simp
 refine hK _ _ FD ?_
 clear hK K
 try simp only [Act.put,qu,qv,qx]
 refine tree_oneg rfl rfl rfl rfl (fun K hK=>?_)
 go_simp
 refine hK _ _ FD ?_
 clear hK K
 try simp only [Act.put,qu,qv,qx]
 refine tree_oneg rfl rfl rfl rfl (fun K hK=>?_)
 go_simp
 refine hK _ _ FD ?_
 clear hK K
 try simp only [Act.put,qu,qv,qx]
 refine tree_last rfl rfl (fun K hK=>?_)
 go_simp
 refine hK _ _ ?_
 clear hK K
 refine noPanicN ?_
 have HF13:=qj (HF12.out.trans FD);have HC13:=qj (FD.keep HC12.out (by simp));have HP13:=qj (FD.cel HP12.out (by simp))
 clear FC FD HSA HF12 HB12 HC12 HP12 x0 x1 x2 x3 x4 x5 x6 x7 x8 x9 x10 x11 x12 x13 x14
 have c1:w13.cell? ⟨w7.heap.size,1,none⟩=some (.int .i64 0):=qd HC13.out 1
 have c6:w13.cell? ⟨w7.heap.size,6,none⟩=some (.slice la 1 lc):=qd HC13.out 6
 have c7:w13.cell? ⟨w7.heap.size,7,none⟩=some (.slice (some ⟨pb,po,none⟩) 1 pc):=qd HC13.out 7
 have p6:=HP13.out
 clear HC13 HP13
 go_wp2_with fail
 clear c1 c6 c7 p6
 refine (said_c _).mono ?_
 rintro e w14 ⟨rfl,hr14,f14⟩
 have sa:=(said_at hr14).1
 have x0:w14.cell? ⟨w13.heap.size,0,none⟩=some (.int .i64 0):=sa 0 _ rfl;have x1:w14.cell? ⟨w13.heap.size,1,none⟩=some (.int .i64 1):=sa 1 _ rfl;have x2:w14.cell? ⟨w13.heap.size,2,none⟩=some (.int .i64 150):=sa 2 _ rfl;have x3:w14.cell? ⟨w13.heap.size,3,none⟩=some (.int .i64 1):=sa 3 _ rfl;have x4:w14.cell? ⟨w13.heap.size,4,none⟩=some (.int .i64 0):=sa 4 _ rfl;have x5:w14.cell? ⟨w13.heap.size,5,none⟩=some (.int .i64 3):=sa 5 _ rfl;have x6:w14.cell? ⟨w13.heap.size,6,none⟩=some (.int .i64 0):=sa 6 _ rfl;have x7:w14.cell? ⟨w13.heap.size,7,none⟩=some (.int .i64 0):=sa 7 _ rfl;have x8:w14.cell? ⟨w13.heap.size,8,none⟩=some (.int .i64 0):=sa 8 _ rfl;have x9:w14.cell? ⟨w13.heap.size,9,none⟩=some (.int .i64 0):=sa 9 _ rfl;have x10:w14.cell? ⟨w13.heap.size,10,none⟩=some (.int .i64 0):=sa 10 _ rfl;have x11:w14.cell? ⟨w13.heap.size,11,none⟩=some (.bool false):=sa 11 _ rfl;have x12:w14.cell? ⟨w13.heap.size,12,none⟩=some (.int .i64 0):=sa 12 _ rfl;have x13:w14.cell? ⟨w13.heap.size,13,none⟩=some (.int .i64 0):=sa 13 _ rfl;have x14:w14.cell? ⟨w13.heap.size,14,none⟩=some (.int .i64 0):=sa 14 _ rfl
 have HF14:=qj (HF13.out.trans f14)
 clear sa hr14 f14 HF13
 go_wp2_with fail
 clear x0 x1 x2 x3 x4 x5 x6 x7 x8 x9 x10 x11 x12 x13 x14
 refine (withA64 _).mono ?_
 rintro e w15 ⟨rfl,f15⟩
 have HF15:=qj (HF14.out.trans f15)
 clear f15 HF14
 go_wp2_with fail
 refine (said_c _).mono ?_
 rintro e w16 ⟨rfl,hr16,f16⟩
 have sa:=(said_at hr16).1
 have x0:w16.cell? ⟨w15.heap.size,0,none⟩=some (.int .i64 0):=sa 0 _ rfl;have x1:w16.cell? ⟨w15.heap.size,1,none⟩=some (.int .i64 1):=sa 1 _ rfl;have x2:w16.cell? ⟨w15.heap.size,2,none⟩=some (.int .i64 150):=sa 2 _ rfl;have x3:w16.cell? ⟨w15.heap.size,3,none⟩=some (.int .i64 1):=sa 3 _ rfl;have x4:w16.cell? ⟨w15.heap.size,4,none⟩=some (.int .i64 0):=sa 4 _ rfl;have x5:w16.cell? ⟨w15.heap.size,5,none⟩=some (.int .i64 3):=sa 5 _ rfl;have x6:w16.cell? ⟨w15.heap.size,6,none⟩=some (.int .i64 0):=sa 6 _ rfl;have x7:w16.cell? ⟨w15.heap.size,7,none⟩=some (.int .i64 0):=sa 7 _ rfl;have x8:w16.cell? ⟨w15.heap.size,8,none⟩=some (.int .i64 0):=sa 8 _ rfl;have x9:w16.cell? ⟨w15.heap.size,9,none⟩=some (.int .i64 0):=sa 9 _ rfl;have x10:w16.cell? ⟨w15.heap.size,10,none⟩=some (.int .i64 0):=sa 10 _ rfl;have x11:w16.cell? ⟨w15.heap.size,11,none⟩=some (.bool false):=sa 11 _ rfl;have x12:w16.cell? ⟨w15.heap.size,12,none⟩=some (.int .i64 0):=sa 12 _ rfl;have x13:w16.cell? ⟨w15.heap.size,13,none⟩=some (.int .i64 0):=sa 13 _ rfl;have x14:w16.cell? ⟨w15.heap.size,14,none⟩=some (.int .i64 0):=sa 14 _ rfl
 have HF16:=qj (HF15.out.trans f16)
 clear sa hr16 f16 HF15
 go_wp2_with fail
 clear x0 x1 x2 x3 x4 x5 x6 x7 x8 x9 x10 x11 x12 x13 x14
 refine (withA65 _).mono ?_
 rintro e w17 ⟨rfl,f17⟩
 have HF17:=qj (HF16.out.trans f17)
 clear f17 HF16
 go_wp2_with fail
 refine (objected_c 0 _).mono ?_
 rintro e w18 ⟨rfl,f18⟩
 have HF18:=qj (HF17.out.trans f18)
 clear f18 HF17
 go_wp2_with fail
 refine (withO0 _).mono ?_
 rintro e w19 ⟨rfl,f19⟩
 have HF19:=qj (HF18.out.trans f19)
 clear f19 HF18
 go_wp2_with fail
 refine (objected_c 1 _).mono ?_
 rintro e w20 ⟨rfl,f20⟩
 have HF20:=qj (HF19.out.trans f20)
 clear f20 HF19
 go_wp2_with fail
 refine (withO1 _).mono ?_
 rintro e w21 ⟨rfl,f21⟩
 have HF21:=qj (HF20.out.trans f21)
 clear f21 HF20
 go_upto_region 9 with fail
 exact saneB_c w w21 HF21.out a (HDm.out.fr HF21.out (by simp)) (HRd.out.same HF21.out (by simp)) _ _ _ _ _ _ _ _ _ _ _ _ _ _ _ _ _ _ _ _ _ _ _ _ _ _ _ _ _ _ _ _ _ _ _ _ _ _ _ _ _ _ _ _ _ _ _ _ _ _ _ _ _ _ _ _ _ _ _ _ _ _ _ _ _ _ _ _ _ _ _ _ _ _ _ _ _ _ _ _ _ _ _ _ _ _ _ _ _ _ _ _ _ _ _ _ _ _ _ _ _ _ _ _ _ _ _ _ _ _ _ _ _ _ _ _ _ _ _ _ _ _ _ _ _ _ _ _ _ _ _ _ _ _ _ _ _ _ _ _ _ _ _ _ _ _ _ _ _ _ _ _ _ _ _ _ _ _ _ _ _ _ _ _ _ _ _ _ _ _ _ _ _ _ _ _ _ _ _ _ _ _ _ _ _ _ _ _ _ _ _ _ _ _ _ _ _ _ _ _ _ _ _ _ _ _ _ _ _ _ _ _ _ _ _ _ _ _ _ _ _ _ _ _ _ _ _ _ _ _ _ _ _ _ _ _ _ _ _ _ _ _ _ _ _ _ _ _ _ _ _ _ _ _ _ _ _ _ _ _ _ _ _ _ _ _ _ _ rfl _ (by assumption)
end Go.Proofs.YtledkokhghjfmaaGreatDoor
