/-
  No step of the machine lowers the number of draws.
-/
import Derived.Calls
import Derived.Conc.Events
import Derived.RowKit
import Derived.Test.YtledkokhghjfmaaGreatDoorPS01
import Derived.Shelf.SlSortCmp.WholeK
import Derived.Test.YtledkokhghjfmaaGreatDoorPS17
namespace Go.Proofs.YtledkokhghjfmaaGreatDoor
section
open Go
theorem ask_mono {α:Type}:∀ (x:Ask α) (w:World),w.drawn≤(w.ask x).2.drawn
 | .done _,w=>Nat.le_refl _
 | .ask what range k,w=>by
  rw [World.ask]
  split
  ·exact ask_mono (k 0) w
  ·exact Nat.le_trans (Nat.le_succ _) (ask_mono _ { w with drawn:=w.drawn+1 })
theorem sys_mono (w:World) (c:Sys):w.drawn≤(w.sys c).2.drawn:=by
 have h:=ask_mono (Kernel.perform c w.os) w
 unfold World.sys
 split
 ·exact Nat.le_refl _
 ·rename_i e;rw [e] at h;exact h
def rd {α:Type}:Result α→Nat
 | .ok _ w=>w.drawn
 | .halt _ w=>w.drawn
theorem far_mono {p:Program} {w w':World} {a:Addr} {v:Value} {b:Bool} {l:List Addr} (h:w.farStore p a v b=.ok (w',l)):w'.drawn=w.drawn:=by
 unfold World.farStore at h
 split at h
 ·split at h
  ·rename_i r hr
   cases h
   unfold World.viewStore at hr
   simp only [bind,Except.bind,pure,Except.pure] at hr
   repeat' split at hr
   all_goals first | (cases hr;done) | (cases hr;rfl) | trace_state
  ·cases h
 ·cases h
theorem run_mono {α:Type} (p:Program):∀ (s:Sem α) (w:World),w.drawn≤rd (s.run p w)
 | .pure a,w=>Nat.le_refl _
 | .load m a k,w=>by
  rw [Sem.run]
  split
  ·exact run_mono p _ w
  ·split
   ·exact run_mono p _ w
   ·exact Nat.le_refl _
 | .store m a v k,w=>by
  have key:w.drawn≤rd (match w.cell? a with
   | some _=>if w.frozen? a then (Result.halt (.unsupported (.unsafePointer "a write to bytes that a string shares")) w:Result α) else k.run p (w.setCell a v)
   | none=>match w.farStore p a v (m == .atomic) with
    | .ok (w,_)=>k.run p w
    | .error h=>.halt h w):=by
   split
   ·split
    ·exact Nat.le_refl _
    ·exact run_mono p k (w.setCell a v)
   ·split
    ·rename_i h;exact far_mono h ▸ run_mono p k _
    ·exact Nat.le_refl _
  cases v <;> first | exact Nat.le_refl _ | (rw [Sem.run] <;> first | exact key | (intro _ h;cases h))
 | .new o k,w=>by rw [Sem.run];exact run_mono p (k w.heap.size) { w with heap:=w.heap.push o }
 | .shape r k,w=>by rw [Sem.run];exact run_mono p _ w
 | .freeze a n k,w=>by
  rw [Sem.run]
  have e:(w.freeze a n).drawn=w.drawn:=by unfold World.freeze;split <;> rfl
  exact e ▸ run_mono p k (w.freeze a n)
 | .frozen a k,w=>by rw [Sem.run];exact run_mono p _ w
 | .getObj r k,w=>by
  rw [Sem.run]
  split
  ·exact Nat.le_refl _
  ·exact run_mono p _ w
  ·exact Nat.le_refl _
 | .setObj r o k,w=>by
  rw [Sem.run]
  split
  ·exact Nat.le_refl _
  ·exact run_mono p k { w with heap:=w.heap.setIfInBounds r o }
  ·exact Nat.le_refl _
 | .choose q k,w=>by
  rw [Sem.run]
  split
  ·exact run_mono p _ w
  ·exact Nat.le_trans (Nat.le_succ _) (run_mono p _ { w with drawn:=w.drawn+1 })
 | .sys c k,w=>by rw [Sem.run];exact Nat.le_trans (sys_mono w c) (run_mono p _ _)
 | .program k,w=>by rw [Sem.run];exact run_mono p _ w
 | .mark _ k,w=>by rw [Sem.run];exact run_mono p k w
 | .halt h,w=>Nat.le_refl _
theorem run_ok {α:Type} {p:Program} {s:Sem α} {w w':World} {a:α} (e:s.run p w=.ok a w'):w.drawn≤w'.drawn:=by
 have h:=run_mono p s w
 rw [e] at h;exact h
theorem run_halt {α:Type} {p:Program} {s:Sem α} {w w':World} {a:Halt} (e:s.run p w=.halt a w'):w.drawn≤w'.drawn:=by
 have h:=run_mono p s w
 rw [e] at h;exact h
def gd:GStep→Nat
 | .go _ w _=>w.drawn
 | .comm _ _ _ _ w _=>w.drawn
 | .spawn _ _ w _=>w.drawn
 | .count _ w _=>w.drawn
 | .timer _ _ w _=>w.drawn
 | .alone _ _ w _=>w.drawn
 | .newcoro _ _ _ w _=>w.drawn
 | .coroswitch _ _ _ w _=>w.drawn
 | .collect _ w _=>w.drawn
 | .watch _ w _=>w.drawn
 | .ended _ w _=>w.drawn
theorem gd_ite {c:Prop} [Decidable c] {a b:GStep} {n:Nat} (ha:n≤gd a) (hb:n≤gd b):n≤gd (if c then a else b):=by split <;> assumption
theorem gd_elim {α:Type} {o:Option α} {a:GStep} {f:α→GStep} {n:Nat} (ha:n≤gd a) (hf:∀ x,n≤gd (f x)):n≤gd (o.elim a f):=by cases o <;> first | exact ha | exact hf _
theorem gd_after (es:Array Event) (g:GStep):gd (g.after es)=gd g:=by cases g <;> rfl
theorem runT_mono {α:Type} (p:Program) (s:Sem α) (w:World) (es:Array Event):w.drawn≤rd (s.runT p w es).1:=by rw [Sem.runT_fst];exact run_mono p s w
theorem endThrow_mono (fr:Frame) (m:String) (w:World):gd (endThrow fr m w)=w.drawn:=rfl
theorem endWith_mono (w:World) (fd:Nat) (text:ByteArray) (o:Outcome):w.drawn≤gd (endWith w fd text o):=by
 have h:=sys_mono w (.write fd text)
 unfold endWith
 dsimp only
 split
 all_goals (rename_i e;rw [e] at h)
 ·split <;> exact h
 ·exact h
 ·exact h
theorem endPrinting_mono (p:Program) (fr:Frame) (v:Value) (w:World):gd (endPrinting p fr v w)=w.drawn:=by
 unfold endPrinting
 dsimp only
 split <;> rfl
theorem endFatal_mono (p:Program) (fr:Frame) (callers:List Frame) (dying:Option Dying) (m:String) (w:World):w.drawn≤gd (endFatal p fr callers dying m w):=by
 have key:∀ s:Sem (List (ByteArray × String) × List ByteArray),w.drawn≤gd (match s.run p w with
   | .ok (texts,tabs) w=>dieOf fr (panicPieces texts++tabs) m true w
   | .halt (.unsupported u) w=>.ended (.unsupported u "") w
   | .halt _ w=>.ended (.stuck "the report of a panic" "") w):=by
  intro s
  have h:=run_mono p s w
  split <;> (rename_i e;rw [e] at h;exact h)
 exact key _
theorem doReturn_mono (p:Program) (main:Bool) (fr:Frame) (callers:List Frame) (dying:Option Dying) (v:Value) (w:World):gd (doReturn p main fr callers dying v w)=w.drawn:=by
 unfold doReturn
 repeat' split
 all_goals first | rfl | (dsimp only;repeat' split)
 all_goals rfl
theorem writeOn_mono (p:Program) (fr:Frame) (d:Dying) (f:Fatal) (w:World):w.drawn≤gd (writeOn p fr d f w):=by
 unfold writeOn
 dsimp only
 split
 ·exact Nat.le_refl _
 ·have key:∀ (s:Sem Unit) (a b:World→Array Event→GStep) (_:∀ w es,gd (a w es)=w.drawn) (_:∀ w es,gd (b w es)=w.drawn),w.drawn≤gd (match s.runT p w #[] with
    | (.ok _ w,es)=>a w es
    | (.halt .blocked w,_)=>b w #[]
    | (.halt (.unsupported u) w,_)=>.ended (.unsupported u "") w
    | (.halt _ w,_)=>.ended (.stuck "the report of a fatal error" "") w):=by
   intro s a b ha hb
   have h:=runT_mono p s w #[]
   generalize s.runT p w #[]=q at h ⊢
   split
   ·rw [ha];exact h
   ·rw [hb];exact h
   ·exact h
   ·exact h
  exact key _ _ _ (fun _ _=>rfl) (fun _ _=>rfl)
theorem die_mono (p:Program) (fr:Frame) (d:Dying) (w:World):w.drawn≤gd (die p fr d w):=by
 unfold die
 split
 ·exact writeOn_mono ..
 ·split
  ·split
   ·exact Nat.le_refl _
   ·exact endWith_mono ..
  ·dsimp only
   split
   ·exact Nat.le_refl _
   ·rename_i s _
    have h:=run_mono p (withAddress s) w
    generalize (withAddress s).run p w=q at h ⊢
    cases q <;> exact h
   ·rename_i t recv name _
    have h:=runT_mono p (invoke (.fn (.method name) #[]) #[.iface t recv]) w #[]
    generalize (invoke (.fn (.method name) #[]) #[.iface t recv]).runT p w #[]=q at h ⊢
    obtain ⟨r,es⟩:=q
    dsimp only
    rw [gd_after]
    split <;> first | exact h | (rw [endPrinting_mono];exact h) | exact Nat.le_refl _
   ·exact Nat.le_refl _
theorem callDeferred_mono (p:Program) (fr:Frame) (callers:List Frame) (dying:Option Dying) (d:Deferred) (w:World):w.drawn≤gd (callDeferred p fr callers dying d w):=by
 unfold callDeferred
 refine gd_ite (Nat.le_refl _) ?_
 ·have h:=runT_mono p (invoke d.target d.args) w #[]
  generalize (invoke d.target d.args).runT p w #[]=q at h ⊢
  obtain ⟨r,es⟩:=q
  dsimp only
  rw [gd_after]
  split <;> first | exact h | exact Nat.le_trans h (endFatal_mono ..) | (rw [endThrow_mono];exact h) | (split <;> exact h)
theorem unwind_mono (p:Program) (main:Bool) (fr:Frame) (callers:List Frame) (dying:Option Dying) (w:World):w.drawn≤gd (unwind p main fr callers dying w):=by
 unfold unwind
 split
 ·rename_i block _ _ _
  have h:=runT_mono p (Instr.takeDeferred block) w #[]
  generalize (Instr.takeDeferred block).runT p w #[]=q at h ⊢
  obtain ⟨r,es⟩:=q
  dsimp only
  rw [gd_after]
  cases r <;> exact h
 ·exact callDeferred_mono ..
 ·split
  ·exact Nat.le_refl _
  ·rename_i chain _
   split
   ·exact Nat.le_refl _
   ·split
    ·exact Nat.le_refl _
    ·split
     ·split
      ·exact Nat.le_refl _
      ·have h:=run_mono p (reportChain chain false) w
       generalize (reportChain chain false).run p w=q at h ⊢
       split <;> exact h
     ·split
      ·rw [endPrinting_mono];exact Nat.le_refl _
      ·exact Nat.le_refl _
  ·split
   ·rw [doReturn_mono];exact Nat.le_refl _
   ·rename_i fn _
    have h:=runT_mono p (results fn fr.tmps) w #[]
    generalize (results fn fr.tmps).runT p w #[]=q at h ⊢
    obtain ⟨r,es⟩:=q
    dsimp only
    rw [gd_after]
    split
    ·rw [doReturn_mono];exact h
    ·exact h
    ·exact h
theorem early_mono (p:Program) (fr:Frame) (callers:List Frame) (dying:Option Dying) (g:Nat) (w:World):w.drawn≤gd (early p fr callers dying g w):=by
 unfold early
 dsimp only
 have ny:∀ W:World,gd (match W.heap[g]? with
   | some (.pending c elem)=>(.go { frame:=fr,callers,status:=.running,dying } { W with heap:=W.heap.setIfInBounds g (.cells c elem) }:GStep)
   | _=>.ended (.stuck "early: the variable does not wait" (fr.pos p)) W)=W.drawn:=by
  intro W;split <;> rfl
 split
 ·exact Nat.le_of_eq (ny w).symm
 ·split
  ·exact Nat.le_refl _
  ·split
   ·exact Nat.le_of_eq (ny w).symm
   ·split
    ·exact Nat.le_of_eq (ny w).symm
    ·split
     ·exact Nat.le_refl _
     ·exact Nat.le_refl _
     ·exact Nat.le_refl _
     ·exact Nat.le_of_eq (ny w).symm
     ·split
      ·exact Nat.le_refl _
      ·split
       ·exact Nat.le_of_eq (ny w).symm
       ·have h:=run_mono p (choose (.early g)) w
        generalize (choose (.early g)).run p w=q at h ⊢
        split
        ·exact Nat.le_trans h (Nat.le_of_eq (ny _).symm)
        ·exact h
        ·exact h
theorem apply_mono (p:Program) (listen:Bool) (fr:Frame) (callers:List Frame) (dying:Option Dying) (s:Sem Next) (w:World):w.drawn≤gd (stepG.apply p listen fr callers dying s w):=by
 unfold stepG.apply
 dsimp only
 have h:w.drawn≤rd (if listen=true then s.runT p w #[] else (s.run p w,#[])).1:=by
  split
  ·exact runT_mono p s w _
  ·exact run_mono p s w
 generalize (if listen=true then s.runT p w #[] else (s.run p w,#[]))=q at h ⊢
 obtain ⟨r,es⟩:=q
 dsimp only
 rw [gd_after]
 split <;> first | exact h | exact Nat.le_trans h (endFatal_mono ..) | (rw [endThrow_mono];exact h) | exact Nat.le_trans h (early_mono ..) | (split <;> exact h) | (refine gd_ite ?_ ?_ <;> exact h) | trace_state
theorem oper_mono (p:Program) (listen:Bool) (fr:Frame) (callers:List Frame) (dying:Option Dying) (w:World):w.drawn≤gd (stepG.oper p listen fr callers dying w):=by
 unfold stepG.oper
 split
 ·exact Nat.le_refl _
 ·split <;> exact apply_mono ..
theorem exec_mono (p:Program) (main:Bool) (listen:Bool) (fr:Frame) (callers:List Frame) (dying:Option Dying) (w:World):w.drawn≤gd (stepG.exec p main listen fr callers dying w):=by
 have lv:∀ (c:Bool) (jump:Option Code),w.drawn≤gd (match fr.roundOf with
   | none=>if c then .go { frame:={ fr with mode:=.returning },callers,status:=.running,dying } w else .ended (.stuck "exit, goto: no such block or label" (fr.pos p)) w
   | some l=>GStep.after (seen p fr.fn ((Instr.endRound l jump).runT p w #[]).2) (match ((Instr.endRound l jump).runT p w #[]).1 with
    | .ok v w=>doReturn p main fr callers dying v w
    | .halt _ w=>.ended (.stuck "range over a function: no such loop" (fr.pos p)) w)):=fun c jump=>by
  split
  ·refine gd_ite ?_ ?_ <;> exact Nat.le_refl _
  ·rename_i l _
   have h:=runT_mono p (Instr.endRound l jump) w #[]
   rw [gd_after]
   split
   ·rename_i e;rw [e] at h;rw [doReturn_mono];exact h
   ·rename_i e;rw [e] at h;exact h
 unfold stepG.exec
 dsimp only
 split
 all_goals try exact Nat.le_refl _
 ·exact lv _ _
 ·exact lv _ _
 ·split <;> exact Nat.le_refl _
 ·exact gd_elim (lv _ _) fun _=>Nat.le_refl _
 ·exact gd_elim (lv _ _) fun _=>Nat.le_refl _
 ·rename_i params assign body _ _
  have h:=runT_mono p (Instr.enterLoop fr.fn fr.tmps params assign body fr.roundOf) w #[]
  rw [gd_after]
  split
  ·rename_i e;rw [e] at h;exact Nat.le_trans h (apply_mono ..)
  ·rename_i e;rw [e] at h;exact h
 ·exact apply_mono ..
 ·rename_i l _ _
  have h:=runT_mono p (Instr.endLoop l) w #[]
  rw [gd_after]
  split <;> (rename_i e;rw [e] at h;exact h)
 ·exact apply_mono ..
 ·exact gd_elim (Nat.le_refl _) fun _=>apply_mono ..
 ·rename_i id ops draw k _
  refine gd_ite (Nat.le_refl _) ?_
  have h:=run_mono p (choose (.order fr.fn id)) w
  split <;> (rename_i e;rw [e] at h;exact h)
 ·exact gd_ite (oper_mono ..) (Nat.le_refl _)
theorem stepG_mono (p:Program) (main:Bool) (g:Goroutine) (w:World) (listen:Bool):w.drawn≤gd (stepG p main g w listen):=by
 unfold stepG
 dsimp only
 split
 ·exact die_mono ..
 ·exact exec_mono ..
 ·exact unwind_mono ..
def sd:Stepped→Nat
 | .next m=>m.world.drawn
 | .ended _ w=>w.drawn
theorem look_mono (p:Program) (gs:Array Goroutine) (rest:Rest) (w:World):w.drawn≤sd (look p gs rest w):=by
 unfold look
 split
 ·dsimp only
  split
  ·exact Nat.le_refl _
  ·split
   ·exact Nat.le_refl _
   ·rename_i held _
    split
    ·rename_i e;have h:=run_ok e;exact h
    ·rename_i e;exact run_halt e
    ·rename_i e;exact run_halt e
 ·exact Nat.le_refl _
theorem serve_mono (p:Program) (m:Machine) (k:Nat):m.world.drawn≤sd (serve p m k):=by
 unfold serve
 dsimp only
 split
 ·exact Nat.le_refl _
 ·exact Nat.le_refl _
 ·split <;> exact Nat.le_refl _
theorem drain_mono (w:World) (c:Nat):(drain w c).2.drawn=w.drawn:=by unfold drain;split <;> rfl
theorem retime_mono (m:Machine) (k:Nat) (t:Timer) (a b:Nat):(retime m k t a b).2.world.drawn=m.world.drawn:=by
 unfold retime
 dsimp only
 cases t.chan with
 | none=>rfl
 | some c=>exact drain_mono m.world c
theorem named_mono (n:Nat) (m:Machine) (var:Addr) (f:Nat→Timer→Value × Machine) (hf:∀ k t,(f k t).2.world.drawn=n) {v:Value} {m':Machine} (h:timerOp.named m var f=.ok (v,m')):m'.world.drawn=n:=by
 unfold timerOp.named at h
 split at h
 ·rename_i k _
  have e:=hf k (m.rest.timers.getD k default)
  rw [Except.ok.inj h] at e
  exact e
 ·cases h
theorem opened_mono {m m':Machine} {var:Addr} (h:timerOp.opened m var=some m'):m'.world.drawn=m.world.drawn:=by
 unfold timerOp.opened at h
 split at h
 ·split at h
  ·cases h;rfl
  ·cases h
 ·cases h;rfl
theorem timerOp_mono (m m':Machine) (op:TimerOp) (v:Value) (h:timerOp m op=.ok (v,m')):m'.world.drawn=m.world.drawn:=by
 unfold timerOp at h
 dsimp only at h
 repeat' split at h
 all_goals first | (cases h;done) | (cases h;rfl) | (exact named_mono _ _ _ _ (fun _ _=>retime_mono ..) h) | (rename_i e;exact named_mono _ _ _ _ (fun _ _=>(retime_mono ..).trans (opened_mono e)) h) | trace_state
theorem waitingAt_mono {rest:Rest} {cases:Array CommCase} {w w':World} (h:waitingAt rest cases w=some w'):w'.drawn=w.drawn:=by
 unfold waitingAt at h
 split at h
 ·split at h
  ·cases h;rfl
  ·cases h
 ·cases h;rfl
theorem communicate_mono (p:Program) (rest:Rest) (gs:Array Goroutine) (i:Nat) (g:Goroutine) (cases:Array CommCase) (blocking:Bool) (shape:CommShape) (w:World):w.drawn≤sd (communicate p rest gs i g cases blocking shape w).1:=by
 unfold communicate
 dsimp only
 split
 ·exact Nat.le_refl _
 ·split
  ·split
   ·split
    ·rename_i e;exact Nat.le_of_eq (waitingAt_mono e).symm
    ·exact Nat.le_refl _
   ·exact Nat.le_refl _
  ·split
   ·rename_i e;exact run_halt e
   ·rename_i e
    have h:=run_ok e
    split
    ·split
     ·rename_i e2;exact Nat.le_trans h (run_halt e2)
     ·exact h
    ·exact h
    ·exact h
    ·split
     ·exact h
     ·split
      ·rename_i e2;have h2:=run_ok e2;exact Nat.le_trans h h2
      ·rename_i e2;exact Nat.le_trans h (run_halt e2)
    ·exact h
    ·exact h
    ·exact h
theorem runT1_mono (p:Program) (m:Machine) (i:Nat) (listen:Bool):m.world.drawn≤sd (Go.runT p m i listen).1:=by
 unfold Go.runT
 dsimp only
 have h:=stepG_mono p (i == 0) (m.gs.swapAt! i { (default:Goroutine) with status:=.finished }).1 m.world listen
 generalize stepG p (i == 0) (m.gs.swapAt! i { (default:Goroutine) with status:=.finished }).1 m.world listen=s at h ⊢
 cases s with
 | go g w es=>exact h
 | comm g cases blocking shape w es=>exact Nat.le_trans h (communicate_mono ..)
 | spawn g child w es=>exact h
 | count g w es=>dsimp only;split <;> exact h
 | timer g op w es =>
  dsimp only
  split
  ·rename_i e;have e2:=timerOp_mono _ _ _ _ e;exact Nat.le_trans h (Nat.le_of_eq e2.symm)
  ·exact h
  ·exact h
  ·exact h
 | alone g on w es=>exact h
 | newcoro g c d w es=>exact h
 | coroswitch g c exit w es =>
  dsimp only
  split
  ·exact h
  ·exact h
  ·exact h
 | collect g w es=>exact Nat.le_trans h (look_mono ..)
 | watch g w es=>exact h
 | ended o w es=>exact h
def sn (n:Nat):Stepped→Prop
 | .next m=>n≤m.world.drawn
 | .ended _ _=>True
theorem sn_of {n:Nat} {s:Stepped} (h:n≤sd s):sn n s:=by
 cases s
 ·exact h
 ·trivial
theorem sn_trans {a b:Nat} {s:Stepped} (h:a≤b) (k:sn b s):sn a s:=by
 cases s
 ·exact Nat.le_trans h k
 ·trivial
def mn (n:Nat):Move→Prop
 | .goroutine m _=>n≤m.world.drawn
 | .machine s _=>sn n s
theorem pick_mono (p:Program) (rs:List Nat) (m:Machine) (n:Nat) (hn:n≤m.world.drawn):mn n (match (choose (.sched rs.length)).run p m.world with
   | .halt _ w=>.machine (.ended (.stuck "sched" "") w)
   | .ok k world =>
    if rs.length≤1 then .goroutine { m with world } (rs.getD k 0) else
    match (choose (.extern "sched.slice" 65536)).run p world with
    | .halt _ w=>.machine (.ended (.stuck "sched.slice" "") w)
    | .ok n world=>.goroutine { m with world,rest:={ m.rest with slice:=if n=0 then none else some (rs.getD k 0,n) } } (rs.getD k 0)):=by
 split
 ·trivial
 ·rename_i e
  have h:=Nat.le_trans hn (run_ok e)
  split
  ·exact h
  ·split
   ·trivial
   ·rename_i e2;have h2:=run_ok e2;exact Nat.le_trans h h2
theorem askOn_mono (p:Program) (m:Machine):mn m.world.drawn (askOn p m):=by
 unfold askOn
 dsimp only
 split
 ·trivial
 ·rename_i w1 e
  have h:=run_ok e
  split
  ·exact sn_trans h (sn_of (serve_mono p { m with world:=w1 } _))
  ·split
   ·split
    ·exact h
    ·split
     ·exact h
     ·split <;> trivial
   ·split
    ·exact pick_mono p _ { m with world:=w1 } _ h
    ·split
     ·trivial
     ·rename_i w2 e2;exact pick_mono p _ { m with world:=w2 } _ (Nat.le_trans h (run_ok e2))
     ·rename_i e2;have h2:=run_ok e2;exact Nat.le_trans h h2
     ·rename_i w2 e2;have h2:=run_ok e2;exact pick_mono p _ (Machine.advanceTo { m with world:=w2 } _) _ (Nat.le_trans h h2)
theorem ask1_mono (p:Program) (m:Machine):mn m.world.drawn (Go.ask p m):=by
 unfold Go.ask
 split
 ·split
  ·trivial
  ·rename_i w1 e
   have h:=run_ok e
   have h2:=look_mono p m.gs m.rest w1
   split
   ·rename_i m2 e2
    rw [e2] at h2
    have h3:=askOn_mono p m2
    have h4:m.world.drawn≤m2.world.drawn:=Nat.le_trans h h2
    revert h3
    generalize askOn p m2=q
    cases q with
    | goroutine m3 i=>exact fun h3=>Nat.le_trans h4 h3
    | machine s ops=>exact fun h3=>sn_trans h4 h3
   ·exact sn_trans h (sn_of h2)
  ·rename_i w1 _ e
   have h:=run_ok e
   have h3:=askOn_mono p { m with world:=w1 }
   revert h3
   generalize askOn p { m with world:=w1 }=q
   cases q with
   | goroutine m3 i=>exact fun h3=>Nat.le_trans h h3
   | machine s ops=>exact fun h3=>sn_trans h h3
 ·exact askOn_mono p m
theorem move_mono (p:Program) (m:Machine):mn m.world.drawn (Go.move p m):=by
 unfold Go.move
 split
 ·split
  ·exact Nat.le_refl _
  ·trivial
 ·split
  ·split
   ·exact Nat.le_refl _
   ·exact ask1_mono p { m with rest:={ m.rest with slice:=none } }
  ·exact ask1_mono p m
theorem step_mono {p:Program} {m m':Machine} (h:step p m=.next m'):m.world.drawn≤m'.world.drawn:=by
 have h1:=move_mono p m
 unfold step stepT at h
 revert h h1
 generalize Go.move p m=q
 cases q with
 | goroutine m3 i =>
  intro h h1
  have h2:=runT1_mono p m3 i true
  dsimp only at h
  rw [h] at h2
  exact Nat.le_trans h1 h2
 | machine s ops =>
  intro h h1
  dsimp only at h
  subst h
  exact h1
theorem runN_mono (p:Program):∀ (n:Nat) (m m':Machine),runN p n m=.next m'→m.world.drawn≤m'.world.drawn
 | 0,m,m',h=>by cases h;exact Nat.le_refl _
 | n+1,m,m',h=>by
  rw [runN] at h
  split at h
  ·rename_i e
   exact Nat.le_trans (step_mono e) (runN_mono p n _ _ h)
  ·rename_i hn
   exact absurd h (hn _)
theorem calls_drawn {P:Program} {f:FuncId} {args:Array Value} {w:World} {R:Ending→World→Prop} (h:Calls P f args w R):Calls P f args w fun e w'=>R e w'∧(e=.outgrown∨w.drawn≤w'.drawn):=by
 intro cs
 obtain ⟨e,w',fr,hR,hC,h1,h2⟩:=h cs
 refine ⟨e,w',fr,⟨hR,?_⟩,hC,h1,h2⟩
 cases e with
 | outgrown=>exact .inl rfl
 | returned v=>obtain ⟨n,hn⟩:=hC;exact .inr (runN_mono P n _ _ hn)
 | panicked c=>obtain ⟨n,hn⟩:=hC;exact .inr (runN_mono P n _ _ hn)
end
section
def cmpI (a b:Int):Int:=if a < b then -1 else if b < a then 1 else 0
def lexC:List Int→List Int→Int
 | [],[]=>0
 | [],_ :: _=>-1
 | _ :: _,[]=>1
 | a :: x,b :: y=>if a < b then -1 else if b < a then 1 else lexC x y
def orM:List Int→Int
 | []=>0
 | a :: l=>if a=0 then orM l else a
theorem orM_app (l m:List Int):orM (l++m)=if orM l=0 then orM m else orM l:=by
 induction l with
 | nil=>rfl
 | cons a l ih =>
  rw [List.cons_append,orM,orM,ih]
  by_cases h:a=0 <;> simp [h]
theorem orM_in (l m:List Int):orM (orM l :: m)=orM (l++m):=by rw [orM_app,orM]
theorem cmpI_zero {a b:Int}:cmpI a b=0↔a=b:=by
 unfold cmpI
 split
 ·constructor <;> intro h <;> omega
 ·split <;> constructor <;> intro h <;> omega
theorem lexC_or:∀ (x y:List Int),x.length=y.length→lexC x y=orM (List.zipWith cmpI x y)
 | [],[],_=>rfl
 | a :: x,b :: y,h=>by
  rw [List.zipWith_cons_cons,orM,lexC,lexC_or x y (by simpa using h)]
  unfold cmpI
  split
  ·simp
  ·split <;> simp
theorem lexC_refl:∀ x:List Int,lexC x x=0
 | []=>rfl
 | a :: x=>by rw [lexC,if_neg (by omega),if_neg (by omega),lexC_refl x]
theorem lexC_eq:∀ {x y:List Int},lexC x y=0→x=y
 | [],[],_=>rfl
 | [],_ :: _,h=>by simp [lexC] at h
 | _ :: _,[],h=>by simp [lexC] at h
 | a :: x,b :: y,h=>by
  rw [lexC] at h
  split at h
  ·omega
  ·split at h
   ·omega
   ·rw [lexC_eq h,show a=b by omega]
theorem lexC_neg:∀ x y:List Int,lexC y x=- lexC x y
 | [],[]=>rfl
 | [],_ :: _=>rfl
 | _ :: _,[]=>rfl
 | a :: x,b :: y=>by
  rw [lexC,lexC,lexC_neg x y]
  by_cases h1:a < b
  ·rw [if_neg (by omega),if_pos h1,if_pos h1];rfl
  ·by_cases h2:b < a
   ·rw [if_pos h2,if_neg h1,if_pos h2]
   ·rw [if_neg h2,if_neg h1,if_neg h1,if_neg h2]
theorem lexC_trans:∀ {x y z:List Int},lexC x y≤0→lexC y z≤0→lexC x z≤0
 | [],_,[],_,_=>by simp [lexC]
 | [],_,_ :: _,_,_=>by simp [lexC]
 | _ :: _,[],_,h,_=>by simp [lexC] at h
 | _ :: _,_ :: _,[],_,h=>by simp [lexC] at h
 | a :: x,b :: y,c :: z,h,k=>by
  rw [lexC] at h k ⊢
  by_cases h1:a < b
  ·by_cases k1:b < c
   ·rw [if_pos (by omega)];omega
   ·rw [if_neg k1] at k
    by_cases k2:c < b
    ·rw [if_pos k2] at k;omega
    ·rw [if_pos (by omega)];omega
  ·rw [if_neg h1] at h
   by_cases h2:b < a
   ·rw [if_pos h2] at h;omega
   ·rw [if_neg h2] at h
    obtain rfl:a=b:=by omega
    by_cases k1:a < c
    ·rw [if_pos k1];omega
    ·rw [if_neg k1] at k ⊢
     by_cases k2:c < a
     ·rw [if_pos k2] at k;omega
     ·rw [if_neg k2] at k ⊢
      exact lexC_trans h k
def SortK {α:Type} (key:α→List Int) (l:List α):Prop:=l.Pairwise fun x y=>lexC (key x) (key y)≤0
theorem sort_unique {α:Type} {key:α→List Int} {l m:List α} (hp:l.Perm m) (h:SortK key l) (k:SortK key m) (hi:∀ x,x∈l→∀ y,y∈l→key x=key y→x=y):l=m:=by
 refine List.Perm.eq_of_pairwise (fun a b ha hb h1 h2=>hi a ha b (hp.mem_iff.2 hb) (lexC_eq ?_)) h k hp
 have:=lexC_neg (key a) (key b)
 omega
def sortK {α:Type} (key:α→List Int) (l:List α):List α:=l.mergeSort fun x y=>decide (lexC (key x) (key y)≤0)
theorem sortK_perm {α:Type} (key:α→List Int) (l:List α):(sortK key l).Perm l:=List.mergeSort_perm _ _
theorem sortK_sorted {α:Type} (key:α→List Int) (l:List α):SortK key (sortK key l):=by
 have:=List.pairwise_mergeSort (le:=fun x y:α=>decide (lexC (key x) (key y)≤0)) (fun a b c h k=>by
  simp only [decide_eq_true_eq] at *;exact lexC_trans h k) (fun a b=>by
  simp only [Bool.or_eq_true,decide_eq_true_eq];have:=lexC_neg (key a) (key b);omega) l
 exact this.imp fun h=>by simpa using h
end
section
open Go.RowKit Go.Lib Go.Sort
theorem fr_grow {w w':World} (h:Fr [] w w') (hd:w.drawn≤w'.drawn):∃ q os,w'=grow (w.drewN q) os:=by
 refine ⟨w'.drawn - w.drawn,w'.heap.extract w.heap.size w'.heap.size,?_⟩
 have e:w'.heap=w.heap++w'.heap.extract w.heap.size w'.heap.size:=by
  have hs:=h.size
  apply Array.ext_getElem?
  intro i
  by_cases hi:i < w.heap.size
  ·rw [h.block i hi (by simp),Array.getElem?_append_left hi]
  ·rw [Array.getElem?_append_right (by omega),Array.getElem?_extract]
   by_cases hj:i < w'.heap.size
   ·rw [if_pos (by omega),show w.heap.size+(i - w.heap.size)=i by omega]
   ·rw [if_neg (by omega),Array.getElem?_eq_none (by omega)]
 have h1:=h.os;have h2:=h.tape;have h3:=h.output
 cases w'
 simp only [World.drewN,grow] at *
 subst h1;subst h2;subst h3
 rw [← e,Nat.add_sub_cancel' hd]
theorem flatK_get {α:Type} [Inhabited α] {enc:α→List Value} {k:Nat} (hk:∀ x,(enc x).length=k):∀ (l:List α) (t:Nat),t < l.length*k→(l.flatMap enc)[t]?=some (enc l[t / k]!)[t % k]!
 | [],t,h=>by simp at h
 | x :: l,t,h=>by
  rw [List.flatMap_cons]
  have k0:0 < k:=by
   rcases Nat.eq_zero_or_pos k with e | e
   ·subst e;simp at h
   ·exact e
  by_cases ht:t < k
  ·rw [List.getElem?_append_left (by rw [hk];exact ht),Nat.div_eq_of_lt ht,Nat.mod_eq_of_lt ht]
   have:t < (enc x).length:=by rw [hk];exact ht
   simp [this]
  ·rw [List.getElem?_append_right (by rw [hk];omega),hk,flatK_get hk l (t - k) (by simp only [List.length_cons,Nat.add_mul,Nat.one_mul] at h;omega)]
   obtain ⟨u,rfl⟩:∃ u,t=u+k:=⟨t - k,by omega⟩
   rw [Nat.add_sub_cancel,Nat.add_div_right _ k0,Nat.add_mod_right]
   simp
theorem flatK_list {α:Type} [Inhabited α] {enc:α→List Value} {k:Nat} (hk:∀ x,(enc x).length=k) (l:List α):(flatK enc k l.toArray).toList=l.flatMap enc:=by
 have hl:(l.flatMap enc).length=l.length*k:=by
  induction l with
  | nil=>simp
  | cons x l ih=>rw [List.flatMap_cons,List.length_append,ih,hk,List.length_cons,Nat.add_mul];omega
 apply List.ext_getElem?
 intro t
 by_cases ht:t < l.length*k
 ·rw [flatK_get hk l t ht]
  have h2:=get_flatK enc k l.toArray t (by simpa using ht)
  have h3:t < (flatK enc k l.toArray).size:=by simpa using ht
  rw [getElem!_pos _ t h3] at h2
  rw [Array.getElem?_toList,Array.getElem?_eq_getElem h3,h2]
  simp
 ·rw [List.getElem?_eq_none (by simpa using ht),List.getElem?_eq_none (by rw [hl];omega)]
theorem holds_row {α:Type} [Inhabited α] {enc:α→List Value} {k:Nat} (hk:∀ x,(enc x).length=k) {w:World} {e:TypeId} {g cap n:Nat} {l:List α} (h:w.ownsRow 0 e k (.slice (some ⟨g,0,none⟩) n cap) n (l.flatMap enc)) (hn:n=l.length):HoldsK enc k w g 0 l.toArray∧g < w.heap.size:=by
 rcases h.2 with ⟨h1,_⟩ | ⟨g',cap',cur,h1,_,hb,_,_,hc,ht⟩
 ·cases h1
 ·cases h1
  refine ⟨fun j hj=>?_,blk_lt hb⟩
  rw [qd hb,ql hb,Nat.zero_add]
  refine ⟨?_,rfl⟩
  have hj2:j < n*k:=by simpa [hn] using hj
  have h3:=congrArg (·[j]?) ht
  simp only [List.getElem?_take_of_lt hj2] at h3
  rw [← flatK_list hk,Array.getElem?_toList,Array.getElem?_toList,Array.getElem?_eq_getElem hj] at h3
  rw [h3,getElem!_pos _ j hj]
  rfl
theorem sorted_row {α:Type} [Inhabited α] {enc:α→List Value} {k:Nat} (hk:∀ x,(enc x).length=k) {w:World} {e:TypeId} {g cap n:Nat} {l:List α} (h:w.ownsRow 0 e k (.slice (some ⟨g,0,none⟩) n cap) n (l.flatMap enc)) (l2:List α) (hn2:n=l2.length) (m:Nat) (os:Array Obj) :
  (sortWorldK enc k w g 0 m l2.toArray os).ownsRow 0 e k (.slice (some ⟨g,0,none⟩) n cap) n (l2.flatMap enc)∧Fr [g] w (sortWorldK enc k w g 0 m l2.toArray os):=by
 rcases h.2 with ⟨h1,_⟩ | ⟨g',cap',cur,h1,_,hb,h2,h3,hc,ht⟩
 ·cases h1
 ·cases h1
  have hg:=blk_lt hb
  have hheap:(sortWorldK enc k w g 0 m l2.toArray os).heap=w.heap.modify g (onCells (putCells id 0 (flatK enc k l2.toArray)))++os:=rfl
  have hbn:(sortWorldK enc k w g 0 m l2.toArray os).heap[g]?=some (.cells (putCells id 0 (flatK enc k l2.toArray) cur) e (0,0)):=by
   rw [hheap,Array.getElem?_append_left (by simpa using hg),Array.getElem?_modify,if_pos rfl,hb]
   rfl
  have hfl:(flatK enc k l2.toArray).size=n*k:=by simp [hn2]
  have hcn:n*k≤cap*k:=Nat.mul_le_mul_right _ h2
  have hsz:(putCells id 0 (flatK enc k l2.toArray) cur).size=cap*k:=by simp [putCells,hc]
  refine ⟨⟨by rw [← flatK_list hk];simp [hn2],.inr ⟨g,cap,_,rfl,Nat.zero_le _,hbn,h2,h3,hsz,?_⟩⟩,⟨rfl,rfl,rfl,by rw [hheap];simp,fun i hi hne=>?_⟩⟩
  ·rw [← flatK_list hk]
   apply List.ext_getElem?
   intro j
   by_cases hj:j < n*k
   ·rw [List.getElem?_take_of_lt hj,Array.getElem?_toList,Array.getElem?_toList]
    have hjc:j < cur.size:=by omega
    have hjf:j < (flatK enc k l2.toArray).size:=by omega
    simp only [putCells,Array.getElem?_mapIdx,Array.getElem?_eq_getElem hjc,Option.map_some,Array.getElem?_eq_getElem hjf]
    rw [if_pos ⟨Nat.zero_le _,by omega⟩,Nat.sub_zero,getElem!_pos _ j hjf]
    rfl
   ·rw [List.getElem?_eq_none (by simp;omega),List.getElem?_eq_none (by simp [hn2] at *;omega)]
  ·rw [hheap,Array.getElem?_append_left (by simpa using hi),Array.getElem?_modify,if_neg (by simp at hne;exact fun e=>hne e.symm)]
theorem perm_lists {α:Type} [Inhabited α] {d d':Array α} (h:PermIn 0 d.size d d'):d'.toList.Perm d.toList:=by
 have h1:=h.1
 have:=h.2.2
 have h3:d'.toList.take d.size=d'.toList:=List.take_of_length_le (by simp [h1])
 rw [← h3]
 simpa using this
end
section
open Go.RowKit Go.Lib
theorem nanI_c (a:Int) (w:World):Calls Tryz.prog 95 #[.int .i64 a] w fun e w'=>e=.returned (.bool false)∧w=w':=by
 go_enter Tryz.func95,Tryz.ntmps95
 go_wp2_with fail
 go_ret
 exact ⟨by simp,rfl⟩
theorem nanS_c (a:ByteArray) (w:World):Calls Tryz.prog 96 #[.string a] w fun e w'=>e=.returned (.bool false)∧w=w':=by
 go_enter Tryz.func96,Tryz.ntmps96
 go_wp2_with fail
 go_ret
 exact ⟨by simp,rfl⟩
theorem cmpI_c (a b:Int) (w:World):Calls Tryz.prog 55 #[.int .i64 a,.int .i64 b] w fun e w'=>e=.returned (.int .i64 (cmpI a b))∧w=w':=by
 have CN:=qj fun (z:Int) W=>nanI_c z W
 unfold cmpI
 by_cases h1:a < b
 ·rw [if_pos h1]
  go_enter Tryz.func55,Tryz.ntmps55
  go_wp2_with (refine (CN.out _ _).mono ?_;rintro e w' ⟨rfl,rfl⟩)
  go_ret
  exact ⟨rfl,rfl⟩
 ·rw [if_neg h1]
  by_cases h2:b < a
  ·rw [if_pos h2]
   go_enter Tryz.func55,Tryz.ntmps55
   go_wp2_with (refine (CN.out _ _).mono ?_;rintro e w' ⟨rfl,rfl⟩)
   go_ret
   exact ⟨rfl,rfl⟩
  ·rw [if_neg h2]
   go_enter Tryz.func55,Tryz.ntmps55
   go_wp2_with (refine (CN.out _ _).mono ?_;rintro e w' ⟨rfl,rfl⟩)
   go_ret
   exact ⟨rfl,rfl⟩
def bsI (l:List UInt8):List Int:=l.map fun b=>(b.toNat:Int)
theorem less_lex:∀ x y:List UInt8,Op.bytesLess x y=decide (lexC (bsI x) (bsI y) < 0)
 | [],[]=>by simp [Op.bytesLess,bsI,lexC]
 | _ :: _,[]=>by simp [Op.bytesLess,bsI,lexC]
 | [],_ :: _=>by simp [Op.bytesLess,bsI,lexC]
 | a :: x,b :: y=>by
  have ih:=less_lex x y
  unfold bsI at ih ⊢
  rw [Op.bytesLess,ih,List.map_cons,List.map_cons,lexC]
  have e1:(a < b)↔(a.toNat:Int) < b.toNat:=by rw [UInt8.lt_iff_toNat_lt];omega
  by_cases h1:(a.toNat:Int) < b.toNat
  ·rw [if_pos h1];simp [e1.2 h1]
  ·rw [if_neg h1]
   have n1:¬ a < b:=fun h=>h1 (e1.1 h)
   by_cases h2:(b.toNat:Int) < a.toNat
   ·rw [if_pos h2]
    have n2:(a == b)=false:=by
     rw [beq_eq_false_iff_ne];rintro rfl;omega
    simp [n1,n2]
   ·rw [if_neg h2]
    have n2:a=b:=UInt8.toNat_inj.1 (by omega)
    simp [n2]
theorem bsI_inj {x y:List UInt8} (h:bsI x=bsI y):x=y:=List.map_inj_right (fun a b h=>UInt8.toNat_inj.1 (by omega)) |>.1 h
theorem lexC_sign (x y:List Int):lexC x y=-1∨lexC x y=0∨lexC x y=1:=by
 induction x generalizing y with
 | nil=>cases y <;> simp [lexC]
 | cons a x ih =>
  cases y with
  | nil=>simp [lexC]
  | cons b y =>
   rw [lexC]
   split
   ·exact .inl rfl
   ·split
    ·exact .inr (.inr rfl)
    ·exact ih y
theorem cmpS_c (a b:ByteArray) (w:World):Calls Tryz.prog 56 #[.string a,.string b] w fun e w'=>e=.returned (.int .i64 (lexC (bsI (bts a)) (bsI (bts b))))∧w=w':=by
 have CN:=qj fun (z:ByteArray) W=>nanS_c z W
 have H1:=qj (less_lex (bts a) (bts b))
 have H2:=qj (lexC_sign (bsI (bts a)) (bsI (bts b)))
 have H3:Hid (lexC (bsI (bts a)) (bsI (bts b))=0→bts a=bts b):=qj fun h=>bsI_inj (lexC_eq h)
 have H4:Hid (bts a=bts b→lexC (bsI (bts a)) (bsI (bts b))=0):=qj fun h=>by rw [h,lexC_refl]
 have HA:Hid (a.toList=bts a∧b.toList=bts b):=qj ⟨by rw [ByteArray.toList_eq];rfl,by rw [ByteArray.toList_eq];rfl⟩
 go_enter Tryz.func56,Tryz.ntmps56
 go_wp2_with (refine (CN.out _ _).mono ?_;rintro e w' ⟨rfl,rfl⟩)
 all_goals
  go_ret
  refine ⟨?_,rfl⟩
  have h1:=H1.out;have h2:=H2.out;have h3:=H3.out;have h4:=H4.out
  simp only [HA.out.1,HA.out.2] at *
  congr 2
  simp_all
  try omega
theorem orI_c (v:Value) (l:List Int) (w:World) (h:Sl w v l.length (l.map (Value.int .i64))) (hl:l.length≤1000000):Calls Tryz.prog 54 #[v] w fun e w'=>e=.returned (.int .i64 (orM l))∧w=w':=by
 obtain ⟨a,cap,rfl⟩:=h.val
 have HS:=qj h
 clear h
 go_enter Tryz.func54,Tryz.ntmps54
 go_wp2_with fail
 go_loop [8] (fun iv=>∃ k:Nat,iv=.int .i64 k∧k≤l.length∧Hid (orM l=orM (l.drop k))) (fun iv=>l.length - (RowKit.intOf iv).toNat)
 case atStart=>exact ⟨0,rfl,Nat.zero_le _,qj rfl⟩
 case round =>
  obtain ⟨k,rfl,hk,HO⟩:=hrel
  by_cases hlt:k < l.length
  ·obtain ⟨b,off,rfl,hc⟩:=HS.out.at_ (by omega)
   have c0:=hc k _ (by simp [hlt];rfl)
   have HD:Hid (orM l=if l[k]=0 then orM (l.drop (k+1)) else l[k]):=qj (by rw [HO.out,List.drop_eq_getElem_cons hlt,orM])
   clear hc
   by_cases hz:l[k]=0
   ·rw [hz] at c0 HD
    clear hz
    go_wp2_with fail
    go_round
    case rel=>exact ⟨k+1,by go_num,hlt,qj (by rw [HD.out,if_pos rfl])⟩
    case measure=>simp [RowKit.intOf];omega
   ·have hb:(l[k] != 0)=true:=by simpa using hz
    generalize l[k]=z at *
    have HD2:Hid (orM l=z):=qj (by rw [HD.out,if_neg hz])
    clear HD hz
    go_wp2_with fail
    go_ret
    exact ⟨by rw [HD2.out];rfl,rfl⟩
  ·obtain rfl:k=l.length:=by omega
   go_wp2_with fail
   go_ret
   exact ⟨by rw [HO.out];simp [orM],rfl⟩
theorem orM_mid (l m n:List Int):orM (l++orM m :: n)=orM (l++(m++n)):=by rw [orM_app,orM_in,orM_app l]
def oneZ (b:Bool):Int:=if b then 1 else 0
def keyC (f:Nt):List Int:=[f.la,f.lk,f.lh,f.ea,f.ek,f.er,f.ca,f.cf,f.ct,f.ch,oneZ f.cb]
def cmpN (a b:Nt):Int:=orM [orM [cmpI a.la b.la,cmpI a.lk b.lk,cmpI a.lh b.lh],orM [cmpI a.ea b.ea,cmpI a.ek b.ek,cmpI a.er b.er],orM [cmpI a.ca b.ca,cmpI a.cf b.cf,cmpI a.ct b.ct,cmpI a.ch b.ch],cmpI (oneZ a.cb) (oneZ b.cb)]
theorem cmpN_key (a b:Nt):cmpN a b=lexC (keyC a) (keyC b):=by
 rw [lexC_or (keyC a) (keyC b) rfl]
 unfold cmpN keyC
 simp only [List.zipWith_cons_cons,List.zipWith_nil_left]
 generalize cmpI a.la b.la=x1;generalize cmpI a.lk b.lk=x2;generalize cmpI a.lh b.lh=x3;generalize cmpI a.ea b.ea=x4;generalize cmpI a.ek b.ek=x5;generalize cmpI a.er b.er=x6
 generalize cmpI a.ca b.ca=x7;generalize cmpI a.cf b.cf=x8;generalize cmpI a.ct b.ct=x9;generalize cmpI a.ch b.ch=x10;generalize cmpI _ _=x11
 rw [orM_in]
 have e1:=orM_mid [x1,x2,x3] [x4,x5,x6] [orM [x7,x8,x9,x10],x11]
 have e2:=orM_mid [x1,x2,x3,x4,x5,x6] [x7,x8,x9,x10] [x11]
 exact e1.trans e2
theorem one_c (b:Bool) (w:World):Calls Tryz.prog 153 #[.bool b] w fun e w'=>e=.returned (.int .i64 (oneZ b))∧w=w':=by
 cases b <;>
 ·go_enter Tryz.func153,Tryz.ntmps153
  go_wp2_with fail
  go_ret
  exact ⟨rfl,rfl⟩
set_option maxRecDepth 100000 in
set_option maxHeartbeats 4000000 in
theorem compare_c (a b:Nt) (w:World):Calls Tryz.prog 100 #[ntV a,ntV b] w fun e w'=>e=.returned (.int .i64 (cmpN a b))∧Fr [] w w':=by
 obtain ⟨F2,B1,B2⟩:=two_more w (.cells #[.int .i64 a.src,.int .i64 a.kind,.int .i64 a.num,.int .i64 a.lk,.int .i64 a.la,.int .i64 a.lh,.int .i64 a.cn,.int .i64 a.cf,.int .i64 a.ct,.int .i64 a.ch,.int .i64 a.ca,.bool a.cb,.int .i64 a.ek,.int .i64 a.ea,.int .i64 a.er] 31) (.cells #[.int .i64 b.src,.int .i64 b.kind,.int .i64 b.num,.int .i64 b.lk,.int .i64 b.la,.int .i64 b.lh,.int .i64 b.cn,.int .i64 b.cf,.int .i64 b.ct,.int .i64 b.ch,.int .i64 b.ca,.bool b.cb,.int .i64 b.ek,.int .i64 b.ea,.int .i64 b.er] 31)
 have a4:=qd B1 4;have b4:=qd B2 4
 have a3:=qd B1 3;have b3:=qd B2 3
 have a5:=qd B1 5;have b5:=qd B2 5
 have a13:=qd B1 13;have b13:=qd B2 13
 have a12:=qd B1 12;have b12:=qd B2 12
 have a14:=qd B1 14;have b14:=qd B2 14
 have a10:=qd B1 10;have b10:=qd B2 10
 have a7:=qd B1 7;have b7:=qd B2 7
 have a8:=qd B1 8;have b8:=qd B2 8
 have a9:=qd B1 9;have b9:=qd B2 9
 have a11:=qd B1 11;have b11:=qd B2 11
 have CI:=qj fun (x y:Int) W=>cmpI_c x y W
 have CO:=qj fun (W:World) (bk:Nat) (l:List Int) (h:W.heap[bk]?=some (.cells (l.map (Value.int .i64)).toArray 3 (0,0))) (hl:l.length≤1000000)=>orI_c (.slice (some ⟨bk,0,none⟩) l.length l.length) l W (sl_blk (cs:=l.map (Value.int .i64)) h (by simp) (by omega)) hl
 have CE:=qj fun (z:Bool) W=>one_c z W
 have HF2:=qj F2
 unfold cmpN
 clear F2 B1 B2
 go_enter Tryz.func100,Tryz.ntmps100
 go_wp2_with fail
 generalize (w.alloc (.cells #[.int .i64 a.src,.int .i64 a.kind,.int .i64 a.num,.int .i64 a.lk,.int .i64 a.la,.int .i64 a.lh,.int .i64 a.cn,.int .i64 a.cf,.int .i64 a.ct,.int .i64 a.ch,.int .i64 a.ca,.bool a.cb,.int .i64 a.ek,.int .i64 a.ea,.int .i64 a.er] 31)).alloc (.cells #[.int .i64 b.src,.int .i64 b.kind,.int .i64 b.num,.int .i64 b.lk,.int .i64 b.la,.int .i64 b.lh,.int .i64 b.cn,.int .i64 b.cf,.int .i64 b.ct,.int .i64 b.ch,.int .i64 b.ca,.bool b.cb,.int .i64 b.ek,.int .i64 b.ea,.int .i64 b.er] 31)=W0 at *
 refine reg_mix (Fr [] W0) [0,1,2,3,4,5,7,8,9,10,11,12,14,15,16,17,18,19,6,13,20,21,22,23] (by kernel_rfl) (by kernel_rfl) (by kernel_rfl) rfl (Fr.drew _ _) ?_
 have FC:Fr [] W0 (World.drew W0):=Fr.drew _ _
 generalize World.drew W0=WC at FC ⊢
 iterate 6 (refine mix_take1 (v:=?_) rfl rfl rfl rfl (fun w hS=>?_) ?_;rotate_left;(focus (have a4:=hS.cel a4 (by simp);have b4:=hS.cel b4 (by simp);clear hS;go_simp;rfl));simp only [qu,qv,qx])
 iterate 6 (refine mix_take1 (v:=?_) rfl rfl rfl rfl (fun w hS=>?_) ?_;rotate_left;(focus (have a3:=hS.cel a3 (by simp);have b3:=hS.cel b3 (by simp);clear hS;go_simp;rfl));simp only [qu,qv,qx])
 iterate 6 (refine mix_take1 (v:=?_) rfl rfl rfl rfl (fun w hS=>?_) ?_;rotate_left;(focus (have a5:=hS.cel a5 (by simp);have b5:=hS.cel b5 (by simp);clear hS;go_simp;rfl));simp only [qu,qv,qx])
 refine mix_do rfl rfl rfl (fun K hK=>?_)
 go_simp
 refine (CI.out _ _ WC).mono ?_
 rintro e wq ⟨rfl,rfl⟩
 refine hK _ _ FC ?_
 clear hK K
 try simp only [Act.put,qu,qv,qx]
 refine mix_do rfl rfl rfl (fun K hK=>?_)
 go_simp
 refine (CI.out _ _ WC).mono ?_
 rintro e wq ⟨rfl,rfl⟩
 refine hK _ _ FC ?_
 clear hK K
 try simp only [Act.put,qu,qv,qx]
 refine mix_do rfl rfl rfl (fun K hK=>?_)
 go_simp
 refine (CI.out _ _ WC).mono ?_
 rintro e wq ⟨rfl,rfl⟩
 refine hK _ _ FC ?_
 clear hK K
 try simp only [Act.put,qu,qv,qx]
 refine mix_do rfl rfl rfl (fun K hK=>?_)
 go_simp
 have FC:=FC.trans (Fr.alloc [] WC (.cells #[.int .i64 (cmpI a.la b.la),.int .i64 (cmpI a.lk b.lk),.int .i64 (cmpI a.lh b.lh)] 3))
 have CO2:=qj (CO.out _ _ [cmpI a.la b.la,cmpI a.lk b.lk,cmpI a.lh b.lh] (qm WC (.cells #[.int .i64 (cmpI a.la b.la),.int .i64 (cmpI a.lk b.lk),.int .i64 (cmpI a.lh b.lh)] 3)) (by simp))
 refine hK _ _ FC ?_
 clear hK K
 try simp only [Act.put,qu,qv,qx]
 generalize WC.alloc (.cells #[.int .i64 (cmpI a.la b.la),.int .i64 (cmpI a.lk b.lk),.int .i64 (cmpI a.lh b.lh)] 3)=WD at *
 refine mix_do rfl rfl rfl (fun K hK=>?_)
 go_simp
 refine CO2.out.mono ?_
 rintro e wq ⟨rfl,rfl⟩
 refine hK _ _ FC ?_
 clear hK K CO2
 try simp only [Act.put,qu,qv,qx]
 (refine mix_take1 (v:=?_) rfl rfl rfl rfl (fun w hS=>?_) ?_;rotate_left;(focus (clear hS;go_simp;rfl));simp only [qu,qv,qx])
 refine mix_end ?_
 have HF3:=qj (HF2.out.trans FC)
 replace a4:=FC.cel a4 (by simp)
 replace a3:=FC.cel a3 (by simp)
 replace a5:=FC.cel a5 (by simp)
 replace a13:=FC.cel a13 (by simp)
 replace a12:=FC.cel a12 (by simp)
 replace a14:=FC.cel a14 (by simp)
 replace a10:=FC.cel a10 (by simp)
 replace a7:=FC.cel a7 (by simp)
 replace a8:=FC.cel a8 (by simp)
 replace a9:=FC.cel a9 (by simp)
 replace a11:=FC.cel a11 (by simp)
 replace b4:=FC.cel b4 (by simp)
 replace b3:=FC.cel b3 (by simp)
 replace b5:=FC.cel b5 (by simp)
 replace b13:=FC.cel b13 (by simp)
 replace b12:=FC.cel b12 (by simp)
 replace b14:=FC.cel b14 (by simp)
 replace b10:=FC.cel b10 (by simp)
 replace b7:=FC.cel b7 (by simp)
 replace b8:=FC.cel b8 (by simp)
 replace b9:=FC.cel b9 (by simp)
 replace b11:=FC.cel b11 (by simp)
 clear FC HF2
 generalize WD=W1 at *
 go_wp2_with fail
 refine reg_mix (Fr [] W1) [0,1,2,3,4,5,7,8,9,10,11,12,14,15,16,17,18,19,6,13,20,21,22,23] (by kernel_rfl) (by kernel_rfl) (by kernel_rfl) rfl (Fr.drew _ _) ?_
 have FC:Fr [] W1 (World.drew W1):=Fr.drew _ _
 generalize World.drew W1=WC at FC ⊢
 iterate 6 (refine mix_take1 (v:=?_) rfl rfl rfl rfl (fun w hS=>?_) ?_;rotate_left;(focus (have a13:=hS.cel a13 (by simp);have b13:=hS.cel b13 (by simp);clear hS;go_simp;rfl));simp only [qu,qv,qx])
 iterate 6 (refine mix_take1 (v:=?_) rfl rfl rfl rfl (fun w hS=>?_) ?_;rotate_left;(focus (have a12:=hS.cel a12 (by simp);have b12:=hS.cel b12 (by simp);clear hS;go_simp;rfl));simp only [qu,qv,qx])
 iterate 6 (refine mix_take1 (v:=?_) rfl rfl rfl rfl (fun w hS=>?_) ?_;rotate_left;(focus (have a14:=hS.cel a14 (by simp);have b14:=hS.cel b14 (by simp);clear hS;go_simp;rfl));simp only [qu,qv,qx])
 refine mix_do rfl rfl rfl (fun K hK=>?_)
 go_simp
 refine (CI.out _ _ WC).mono ?_
 rintro e wq ⟨rfl,rfl⟩
 refine hK _ _ FC ?_
 clear hK K
 try simp only [Act.put,qu,qv,qx]
 refine mix_do rfl rfl rfl (fun K hK=>?_)
 go_simp
 refine (CI.out _ _ WC).mono ?_
 rintro e wq ⟨rfl,rfl⟩
 refine hK _ _ FC ?_
 clear hK K
 try simp only [Act.put,qu,qv,qx]
 refine mix_do rfl rfl rfl (fun K hK=>?_)
 go_simp
 refine (CI.out _ _ WC).mono ?_
 rintro e wq ⟨rfl,rfl⟩
 refine hK _ _ FC ?_
 clear hK K
 try simp only [Act.put,qu,qv,qx]
 refine mix_do rfl rfl rfl (fun K hK=>?_)
 go_simp
 have FC:=FC.trans (Fr.alloc [] WC (.cells #[.int .i64 (cmpI a.ea b.ea),.int .i64 (cmpI a.ek b.ek),.int .i64 (cmpI a.er b.er)] 3))
 have CO2:=qj (CO.out _ _ [cmpI a.ea b.ea,cmpI a.ek b.ek,cmpI a.er b.er] (qm WC (.cells #[.int .i64 (cmpI a.ea b.ea),.int .i64 (cmpI a.ek b.ek),.int .i64 (cmpI a.er b.er)] 3)) (by simp))
 refine hK _ _ FC ?_
 clear hK K
 try simp only [Act.put,qu,qv,qx]
 generalize WC.alloc (.cells #[.int .i64 (cmpI a.ea b.ea),.int .i64 (cmpI a.ek b.ek),.int .i64 (cmpI a.er b.er)] 3)=WD at *
 refine mix_do rfl rfl rfl (fun K hK=>?_)
 go_simp
 refine CO2.out.mono ?_
 rintro e wq ⟨rfl,rfl⟩
 refine hK _ _ FC ?_
 clear hK K CO2
 try simp only [Act.put,qu,qv,qx]
 (refine mix_take1 (v:=?_) rfl rfl rfl rfl (fun w hS=>?_) ?_;rotate_left;(focus (clear hS;go_simp;rfl));simp only [qu,qv,qx])
 refine mix_end ?_
 have HF4:=qj (HF3.out.trans FC)
 replace a4:=FC.cel a4 (by simp)
 replace a3:=FC.cel a3 (by simp)
 replace a5:=FC.cel a5 (by simp)
 replace a13:=FC.cel a13 (by simp)
 replace a12:=FC.cel a12 (by simp)
 replace a14:=FC.cel a14 (by simp)
 replace a10:=FC.cel a10 (by simp)
 replace a7:=FC.cel a7 (by simp)
 replace a8:=FC.cel a8 (by simp)
 replace a9:=FC.cel a9 (by simp)
 replace a11:=FC.cel a11 (by simp)
 replace b4:=FC.cel b4 (by simp)
 replace b3:=FC.cel b3 (by simp)
 replace b5:=FC.cel b5 (by simp)
 replace b13:=FC.cel b13 (by simp)
 replace b12:=FC.cel b12 (by simp)
 replace b14:=FC.cel b14 (by simp)
 replace b10:=FC.cel b10 (by simp)
 replace b7:=FC.cel b7 (by simp)
 replace b8:=FC.cel b8 (by simp)
 replace b9:=FC.cel b9 (by simp)
 replace b11:=FC.cel b11 (by simp)
 clear FC HF3
 generalize WD=W2 at *
 go_wp2_with fail
 refine reg_mix (Fr [] W2) [0,1,2,3,4,5,7,8,9,10,11,12,14,15,16,17,18,19,21,22,23,24,25,26,6,13,20,27,28,29,30] (by kernel_rfl) (by kernel_rfl) (by kernel_rfl) rfl (Fr.drew _ _) ?_
 have FC:Fr [] W2 (World.drew W2):=Fr.drew _ _
 generalize World.drew W2=WC at FC ⊢
 iterate 6 (refine mix_take1 (v:=?_) rfl rfl rfl rfl (fun w hS=>?_) ?_;rotate_left;(focus (have a10:=hS.cel a10 (by simp);have b10:=hS.cel b10 (by simp);clear hS;go_simp;rfl));simp only [qu,qv,qx])
 iterate 6 (refine mix_take1 (v:=?_) rfl rfl rfl rfl (fun w hS=>?_) ?_;rotate_left;(focus (have a7:=hS.cel a7 (by simp);have b7:=hS.cel b7 (by simp);clear hS;go_simp;rfl));simp only [qu,qv,qx])
 iterate 6 (refine mix_take1 (v:=?_) rfl rfl rfl rfl (fun w hS=>?_) ?_;rotate_left;(focus (have a8:=hS.cel a8 (by simp);have b8:=hS.cel b8 (by simp);clear hS;go_simp;rfl));simp only [qu,qv,qx])
 iterate 6 (refine mix_take1 (v:=?_) rfl rfl rfl rfl (fun w hS=>?_) ?_;rotate_left;(focus (have a9:=hS.cel a9 (by simp);have b9:=hS.cel b9 (by simp);clear hS;go_simp;rfl));simp only [qu,qv,qx])
 refine mix_do rfl rfl rfl (fun K hK=>?_)
 go_simp
 refine (CI.out _ _ WC).mono ?_
 rintro e wq ⟨rfl,rfl⟩
 refine hK _ _ FC ?_
 clear hK K
 try simp only [Act.put,qu,qv,qx]
 refine mix_do rfl rfl rfl (fun K hK=>?_)
 go_simp
 refine (CI.out _ _ WC).mono ?_
 rintro e wq ⟨rfl,rfl⟩
 refine hK _ _ FC ?_
 clear hK K
 try simp only [Act.put,qu,qv,qx]
 refine mix_do rfl rfl rfl (fun K hK=>?_)
 go_simp
 refine (CI.out _ _ WC).mono ?_
 rintro e wq ⟨rfl,rfl⟩
 refine hK _ _ FC ?_
 clear hK K
 try simp only [Act.put,qu,qv,qx]
 refine mix_do rfl rfl rfl (fun K hK=>?_)
 go_simp
 refine (CI.out _ _ WC).mono ?_
 rintro e wq ⟨rfl,rfl⟩
 refine hK _ _ FC ?_
 clear hK K
 try simp only [Act.put,qu,qv,qx]
 refine mix_do rfl rfl rfl (fun K hK=>?_)
 go_simp
 have FC:=FC.trans (Fr.alloc [] WC (.cells #[.int .i64 (cmpI a.ca b.ca),.int .i64 (cmpI a.cf b.cf),.int .i64 (cmpI a.ct b.ct),.int .i64 (cmpI a.ch b.ch)] 3))
 have CO2:=qj (CO.out _ _ [cmpI a.ca b.ca,cmpI a.cf b.cf,cmpI a.ct b.ct,cmpI a.ch b.ch] (qm WC (.cells #[.int .i64 (cmpI a.ca b.ca),.int .i64 (cmpI a.cf b.cf),.int .i64 (cmpI a.ct b.ct),.int .i64 (cmpI a.ch b.ch)] 3)) (by simp))
 refine hK _ _ FC ?_
 clear hK K
 try simp only [Act.put,qu,qv,qx]
 generalize WC.alloc (.cells #[.int .i64 (cmpI a.ca b.ca),.int .i64 (cmpI a.cf b.cf),.int .i64 (cmpI a.ct b.ct),.int .i64 (cmpI a.ch b.ch)] 3)=WD at *
 refine mix_do rfl rfl rfl (fun K hK=>?_)
 go_simp
 refine CO2.out.mono ?_
 rintro e wq ⟨rfl,rfl⟩
 refine hK _ _ FC ?_
 clear hK K CO2
 try simp only [Act.put,qu,qv,qx]
 (refine mix_take1 (v:=?_) rfl rfl rfl rfl (fun w hS=>?_) ?_;rotate_left;(focus (clear hS;go_simp;rfl));simp only [qu,qv,qx])
 refine mix_end ?_
 have HF5:=qj (HF4.out.trans FC)
 replace a4:=FC.cel a4 (by simp)
 replace a3:=FC.cel a3 (by simp)
 replace a5:=FC.cel a5 (by simp)
 replace a13:=FC.cel a13 (by simp)
 replace a12:=FC.cel a12 (by simp)
 replace a14:=FC.cel a14 (by simp)
 replace a10:=FC.cel a10 (by simp)
 replace a7:=FC.cel a7 (by simp)
 replace a8:=FC.cel a8 (by simp)
 replace a9:=FC.cel a9 (by simp)
 replace a11:=FC.cel a11 (by simp)
 replace b4:=FC.cel b4 (by simp)
 replace b3:=FC.cel b3 (by simp)
 replace b5:=FC.cel b5 (by simp)
 replace b13:=FC.cel b13 (by simp)
 replace b12:=FC.cel b12 (by simp)
 replace b14:=FC.cel b14 (by simp)
 replace b10:=FC.cel b10 (by simp)
 replace b7:=FC.cel b7 (by simp)
 replace b8:=FC.cel b8 (by simp)
 replace b9:=FC.cel b9 (by simp)
 replace b11:=FC.cel b11 (by simp)
 clear FC HF4
 generalize WD=W3 at *
 go_wp2_with fail
 refine reg_mix (Fr [] W3) [0,1,2,3,4,5,7,8,9,6,10,11,12,13,14] (by kernel_rfl) (by kernel_rfl) (by kernel_rfl) rfl (Fr.drew _ _) ?_
 have FC:Fr [] W3 (World.drew W3):=Fr.drew _ _
 generalize World.drew W3=WC at FC ⊢
 iterate 3 (refine mix_take1 (v:=?_) rfl rfl rfl rfl (fun w hS=>?_) ?_;rotate_left;(focus (clear hS;go_simp;rfl));simp only [qu,qv,qx])
 iterate 6 (refine mix_take1 (v:=?_) rfl rfl rfl rfl (fun w hS=>?_) ?_;rotate_left;(focus (have a11:=hS.cel a11 (by simp);have b11:=hS.cel b11 (by simp);clear hS;go_simp;rfl));simp only [qu,qv,qx])
 refine mix_do rfl rfl rfl (fun K hK=>?_)
 go_simp
 refine (CE.out _ WC).mono ?_
 rintro e wq ⟨rfl,rfl⟩
 refine hK _ _ FC ?_
 clear hK K
 try simp only [Act.put,qu,qv,qx]
 refine mix_do rfl rfl rfl (fun K hK=>?_)
 go_simp
 refine (CE.out _ WC).mono ?_
 rintro e wq ⟨rfl,rfl⟩
 refine hK _ _ FC ?_
 clear hK K
 try simp only [Act.put,qu,qv,qx]
 refine mix_do rfl rfl rfl (fun K hK=>?_)
 go_simp
 refine (CI.out _ _ WC).mono ?_
 rintro e wq ⟨rfl,rfl⟩
 refine hK _ _ FC ?_
 clear hK K
 try simp only [Act.put,qu,qv,qx]
 refine mix_do rfl rfl rfl (fun K hK=>?_)
 go_simp
 have FC:=FC.trans (Fr.alloc [] WC (.cells #[.int .i64 (orM [cmpI a.la b.la,cmpI a.lk b.lk,cmpI a.lh b.lh]),.int .i64 (orM [cmpI a.ea b.ea,cmpI a.ek b.ek,cmpI a.er b.er]),.int .i64 (orM [cmpI a.ca b.ca,cmpI a.cf b.cf,cmpI a.ct b.ct,cmpI a.ch b.ch]),.int .i64 (cmpI (oneZ a.cb) (oneZ b.cb))] 3))
 have CO2:=qj (CO.out _ _ [orM [cmpI a.la b.la,cmpI a.lk b.lk,cmpI a.lh b.lh],orM [cmpI a.ea b.ea,cmpI a.ek b.ek,cmpI a.er b.er],orM [cmpI a.ca b.ca,cmpI a.cf b.cf,cmpI a.ct b.ct,cmpI a.ch b.ch],cmpI (oneZ a.cb) (oneZ b.cb)] (qm WC (.cells #[.int .i64 (orM [cmpI a.la b.la,cmpI a.lk b.lk,cmpI a.lh b.lh]),.int .i64 (orM [cmpI a.ea b.ea,cmpI a.ek b.ek,cmpI a.er b.er]),.int .i64 (orM [cmpI a.ca b.ca,cmpI a.cf b.cf,cmpI a.ct b.ct,cmpI a.ch b.ch]),.int .i64 (cmpI (oneZ a.cb) (oneZ b.cb))] 3)) (by simp))
 refine hK _ _ FC ?_
 clear hK K
 try simp only [Act.put,qu,qv,qx]
 generalize WC.alloc (.cells #[.int .i64 (orM [cmpI a.la b.la,cmpI a.lk b.lk,cmpI a.lh b.lh]),.int .i64 (orM [cmpI a.ea b.ea,cmpI a.ek b.ek,cmpI a.er b.er]),.int .i64 (orM [cmpI a.ca b.ca,cmpI a.cf b.cf,cmpI a.ct b.ct,cmpI a.ch b.ch]),.int .i64 (cmpI (oneZ a.cb) (oneZ b.cb))] 3)=WD at *
 refine mix_do rfl rfl rfl (fun K hK=>?_)
 go_simp
 refine CO2.out.mono ?_
 rintro e wq ⟨rfl,rfl⟩
 refine hK _ _ FC ?_
 clear hK K CO2
 try simp only [Act.put,qu,qv,qx]
 (refine mix_take1 (v:=?_) rfl rfl rfl rfl (fun w hS=>?_) ?_;rotate_left;(focus (clear hS;go_simp;rfl));simp only [qu,qv,qx])
 refine mix_end ?_
 have HF6:=qj (HF5.out.trans FC)
 clear FC HF5
 go_wp2_with fail
 go_ret
 exact ⟨rfl,HF6.out⟩
end
end Go.Proofs.YtledkokhghjfmaaGreatDoor
