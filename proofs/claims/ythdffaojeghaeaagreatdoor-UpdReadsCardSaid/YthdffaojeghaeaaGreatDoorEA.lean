/-
  A heap-only weakest-precondition reading of the model's operations,and its soundness (no program in sight).
-/
import Derived.Calls
import Derived.Orders
import Derived.KernelRfl
import Derived.LoopN
import Derived.WalkKit
import Derived.OrdersIn
import Derived.RangeFuncLeaves
import Derived.RangeFuncCalls
set_option linter.all false
section
namespace Go.Sh
structure Heap where
  map:Nat->Option Obj
  fin: ∃N,∀n,N <= n->map n=none
instance:CoeFun Heap (fun _=>Nat->Option Obj):=⟨Heap.map⟩
theorem Heap.ext {H H':Heap} (h: ∀b,H b=H' b):H=H':=by obtain ⟨m,f⟩:=H;obtain ⟨m',f'⟩:=H';have:m=m':=funext h;subst this;rfl
def hp (w:World):Heap:=⟨fun b=>w.heap[b]?,w.heap.size,fun n h=>by simp [h]⟩
namespace Heap
def cell (H:Heap) (a:Addr):Option Value:=
  match H a.block with
  | some (.cells c _ _)=>if a.spot.isSome then none else c[a.off]?
  | _=>none
def shape (H:Heap) (r:Nat):Option (TypeId×Nat):=
  match H r with
  | some (.cells c elem _)=>some (elem,c.size)
  | _=>none
def frozen (H:Heap) (a:Addr):Bool:=
  match H a.block with
  | some (.cells _ _ (lo,hi))=>lo <= a.off&&a.off<hi
  | _=>false
def upd (H:Heap) (n:Nat) (o:Obj):Heap:=⟨fun b=>if b=n then some o else H b,by
  obtain ⟨N,h⟩:=H.fin;refine ⟨max N (n+1),fun k hk=>?_⟩;rw [if_neg (by omega)]
  exact h k (by omega)⟩
def setO (a:Addr) (v:Value):Obj->Obj
  | .cells c e f=> .cells (if a.spot.isSome then c else c.setIfInBounds a.off v) e f
  | o=>o
def frzO (a:Addr) (n:Nat):Obj->Obj
  | .cells c elem (lo,hi)=> .cells c elem (if lo==hi then (a.off,a.off+n) else (min lo a.off,max hi (a.off+n)))
  | o=>o
def alter (H:Heap) (n:Nat) (f:Obj->Obj):Heap:=⟨fun b=>if b=n then (H b).map f else H b,by
  obtain ⟨N,h⟩:=H.fin;refine ⟨N,fun k hk=>?_⟩;rw [h k hk];split<;>rfl⟩
def frz (H:Heap) (a:Addr) (n:Nat):Heap:=if n=0 then H else H.alter a.block (frzO a n)
def set (H:Heap) (a:Addr) (v:Value):Heap:=H.alter a.block (setO a v)
end Heap
structure Rest (w w':World):Prop where
  os:w'.os=w.os
  tape:w'.tape=w.tape
  output:w'.output=w.output
  dfr: ∀(b:Nat) (ds:Option (List Deferred)),w.heap[b]? =some (Obj.deferred ds)->w'.heap[b]? =some (Obj.deferred ds)
  size:w.heap.size <= w'.heap.size
theorem Rest.refl (w:World):Rest w w:=⟨rfl,rfl,rfl,fun _ _ h=>h,Nat.le_refl _⟩
theorem Rest.trans {a b c:World} (h:Rest a b) (k:Rest b c):Rest a c:=
  ⟨k.os.trans h.os,k.tape.trans h.tape,k.output.trans h.output,fun b ds hb=>k.dfr b ds (h.dfr b ds hb),Nat.le_trans h.size k.size⟩
def isC:Obj->Bool
  | .cells .. =>true
  | _=>false
def isD:Obj->Bool
  | .deferred _=>true
  | _=>false
theorem Zmf (w:World) (a:Addr):(hp w).cell a=w.cell? a:=rfl
theorem Zcik (w:World) (a:Addr):(hp w).frozen a=w.frozen? a:=rfl
theorem Zbku (w:World) (a:Addr) (v:Value):hp (w.setCell a v)=(hp w).set a v:=by
  refine Heap.ext fun b=>?_;simp only [hp,World.setCell,Heap.set,Heap.alter,Array.getElem?_modify];by_cases h:a.block=b
  . subst h;simp only [if_true];cases w.heap[a.block]? with
    | none=>rfl
    | some o=>cases o<;>rfl
  rw [if_neg h,if_neg (fun e=>h e.symm)]
theorem Zboa (w:World) (a:Addr) (n:Nat):hp (w.freeze a n)=(hp w).frz a n:=by
  unfold World.freeze Heap.frz;by_cases hn:n=0;rw [if_pos hn,if_pos hn];rw [if_neg hn,if_neg hn];refine Heap.ext fun b=>?_;simp only [hp,Heap.alter,Array.getElem?_modify];by_cases h:a.block=b
  . subst h;simp only [if_true];cases w.heap[a.block]? with
    | none=>rfl
    | some o=>cases o<;>rfl
  rw [if_neg h,if_neg (fun e=>h e.symm)]
theorem Zcab (w:World) (a:Addr) (n:Nat):Rest w (w.freeze a n):=by
  refine ⟨by unfold World.freeze;split<;>rfl,by unfold World.freeze;split<;>rfl,by unfold World.freeze;split<;>rfl,fun b ds hb=>?_,by unfold World.freeze;split<;>simp⟩
  have h:(hp (w.freeze a n)) b=some (Obj.deferred ds):=by rw [Zboa];have hb':(hp w) b=some (Obj.deferred ds):=hb;unfold Heap.frz;split;exact hb';simp only [Heap.alter];split;rw [hb'];rfl;exact hb'
  exact h
theorem Zbzd (w:World) (a:Addr) (v:Value):Rest w (w.setCell a v):=by
  refine ⟨rfl,rfl,rfl,fun b ds hb=>?_,by simp [World.setCell]⟩
  have h:(hp (w.setCell a v)) b=some (Obj.deferred ds):=by rw [Zbku];have hb':(hp w) b=some (Obj.deferred ds):=hb;simp only [Heap.set,Heap.alter];split;rw [hb'];rfl;exact hb'
  exact h
theorem Zbfz (w:World) (o:Obj):Rest w { w with heap:=w.heap.push o }:=by
  refine ⟨rfl,rfl,rfl,fun b ds hb=>?_,by simp⟩
  have hlt:=(Array.getElem?_eq_some_iff.1 hb).1;show (w.heap.push o)[b]? =_;rw [Array.getElem?_push,if_neg (by omega)]
  exact hb
theorem Zoa (w:World) (r:Nat) (o o0:Obj) (h:w.heap[r]? =some o0):hp { w with heap:=w.heap.setIfInBounds r o }=(hp w).upd r o:=by have hlt:=(Array.getElem?_eq_some_iff.1 h).1;refine Heap.ext fun b=>?_;simp only [hp,Heap.upd,Array.getElem?_setIfInBounds];by_cases e:r=b;subst e;simp [hlt];rw [if_neg e,if_neg (fun e'=>e e'.symm)]
theorem Zvu (w:World) (r:Nat) (o o0:Obj) (h:w.heap[r]? =some o0) (hd:isD o0=false):Rest w { w with heap:=w.heap.setIfInBounds r o }:=by
  refine ⟨rfl,rfl,rfl,fun b ds hb=>?_,by simp⟩
  show (w.heap.setIfInBounds r o)[b]? =_;rw [Array.getElem?_setIfInBounds,if_neg (fun e=>by subst e;rw [h] at hb;cases hb;cases hd)]
  exact hb
theorem Zbby (w:World) (o:Obj):hp { w with heap:=w.heap.push o }=(hp w).upd w.heap.size o:=by refine Heap.ext fun b=>?_;simp only [hp,Heap.upd,Array.getElem?_push]
theorem Zbii (w:World):hp w w.heap.size=none:=by simp [hp]
def Zbl:Value->Bool
  | .agg _ | .tuple _=>false
  | _=>true
def SemW (P:Program) {α:Type}:Sem α->Heap->(α->Heap->Prop)->Prop
  | .pure a,H,K=>K a H
  | .load _ a k,H,K=>∃v,H.cell a=some v∧SemW P (k v) H K
  | .store _ a v k,H,K=>Zbl v=true∧(∃u,H.cell a=some u)∧H.frozen a=false∧SemW P k (H.set a v) K
  | .new o k,H,K=>∀n,H n=none->SemW P (k n) (H.upd n o) K
  | .shape r k,H,K=>(∃o,H r=some o)∧SemW P (k (H.shape r)) H K
  | .freeze a n k,H,K=>(∃o,H a.block=some o)∧SemW P k (H.frz a n) K
  | .frozen a k,H,K=>(∃o,H a.block=some o)∧SemW P (k (H.frozen a)) H K
  | .getObj r k,H,K=>∃o,H r=some o∧isC o=false∧SemW P (k o) H K
  | .setObj r o k,H,K=>(∃o0,H r=some o0∧isC o0=false∧isD o0=false)∧SemW P k (H.upd r o) K
  | .choose q k,H,K=>(q.forced=true->SemW P (k 0) H K)∧(q.forced=false->∀t,SemW P (k (q.cut t)) H K)
  | .sys _ _,_,_=>False
  | .program k,H,K=>SemW P (k P) H K
  | .mark _ k,H,K=>SemW P k H K
  | .halt _,_,_=>False
theorem SemW.sound {P:Program} {α:Type} (s:Sem α): ∀(w:World) (K:α->Heap->Prop),SemW P s (hp w) K->
    ∃x w',s.run P w= .ok x w'∧K x (hp w')∧Rest w w':=by
  induction s with
  | pure a=>exact fun w K h=>⟨a,w,rfl,h,.refl w⟩
  | load m a k ih=>
    intro w K h;obtain ⟨v,hv,h⟩:=h;rw [Zmf] at hv;obtain ⟨x,w',hr,hk,hrest⟩:=ih v w K h;exact ⟨x,w',by simp only [Sem.run,hv];exact hr,hk,hrest⟩
  | store m a v k ih=>
    intro w K h;obtain ⟨hp',⟨u,hu⟩,hf,h⟩:=h;rw [Zmf] at hu;rw [Zcik] at hf;rw [← Zbku] at h;obtain ⟨x,w',hr,hk,hrest⟩:=ih (w.setCell a v) K h;refine ⟨x,w',?_,hk,(Zbzd w a v).trans hrest⟩;cases v<;>first | (simp [Zbl] at hp';done) | (simp only [Sem.run,hu,hf];exact hr)
  | new o k ih=>
    intro w K h;have h1:=h w.heap.size (Zbii w);rw [← Zbby] at h1;obtain ⟨x,w',hr,hk,hrest⟩:=ih w.heap.size _ K h1;exact ⟨x,w',by simp only [Sem.run];exact hr,hk,(Zbfz w o).trans hrest⟩
  | shape r k ih=>
    intro w K ⟨_,h⟩;obtain ⟨x,w',hr,hk,hrest⟩:=ih _ w K h;exact ⟨x,w',by simp only [Sem.run];exact hr,hk,hrest⟩
  | freeze a n k ih=>
    intro w K ⟨_,h⟩;rw [← Zboa] at h;obtain ⟨x,w',hr,hk,hrest⟩:=ih _ K h;exact ⟨x,w',by simp only [Sem.run];exact hr,hk,(Zcab w a n).trans hrest⟩
  | frozen a k ih=>
    intro w K ⟨_,h⟩;obtain ⟨x,w',hr,hk,hrest⟩:=ih _ w K h;exact ⟨x,w',by simp only [Sem.run];exact hr,hk,hrest⟩
  | getObj r k ih=>
    intro w K h;obtain ⟨o,ho,hc,h⟩:=h;obtain ⟨x,w',hr,hk,hrest⟩:=ih o w K h;have ho:w.heap[r]? =some o:=ho;refine ⟨x,w',?_,hk,hrest⟩;simp only [Sem.run,ho];cases o<;>first | (cases hc;done) | exact hr
  | setObj r o k ih=>
    intro w K h;obtain ⟨⟨o0,ho,hc,hd⟩,h⟩:=h;have ho:w.heap[r]? =some o0:=ho;rw [← Zoa w r o o0 ho] at h;obtain ⟨x,w',hr,hk,hrest⟩:=ih _ K h;refine ⟨x,w',?_,hk,(Zvu w r o o0 ho hd).trans hrest⟩;simp only [Sem.run,ho];cases o0<;>first | (cases hc;done) | exact hr
  | choose q k ih=>
    intro w K h;cases hq:q.forced with
    | true=>
      obtain ⟨x,w',hr,hk,hrest⟩:=ih _ w K (h.1 hq);exact ⟨x,w',by simp only [Sem.run,hq];exact hr,hk,hrest⟩
    | false=>
      obtain ⟨x,w',hr,hk,hrest⟩:=ih _ { w with drawn:=w.drawn+1 } K (h.2 hq (w.tape w.drawn q));exact ⟨x,w',by simp only [Sem.run,hq];exact hr,hk,⟨hrest.os,hrest.tape,hrest.output,hrest.dfr,hrest.size⟩⟩
  | sys c k ih=>intro w K h;exact h.elim
  | program k ih=>
    intro w K h;obtain ⟨x,w',hr,hk,hrest⟩:=ih _ w K h;exact ⟨x,w',by simp only [Sem.run];exact hr,hk,hrest⟩
  | mark m k ih=>
    intro w K h;obtain ⟨x,w',hr,hk,hrest⟩:=ih w K h;exact ⟨x,w',by simp only [Sem.run];exact hr,hk,hrest⟩
  | halt h=>intro w K h;exact h.elim
theorem SemW.mono {P:Program} {α:Type} (s:Sem α): ∀(H:Heap) (K K':α->Heap->Prop),(∀a H,K a H->K' a H)->SemW P s H K->SemW P s H K':=by
  induction s with
  | pure a=>exact fun H K K' hk h=>hk _ _ h
  | load m a k ih=>exact fun H K K' hk ⟨v,hv,h⟩=>⟨v,hv,ih v H K K' hk h⟩
  | store m a v k ih=>exact fun H K K' hk ⟨h1,h2,h3,h⟩=>⟨h1,h2,h3,ih _ K K' hk h⟩
  | new o k ih=>exact fun H K K' hk h n hn=>ih n _ K K' hk (h n hn)
  | shape r k ih=>exact fun H K K' hk ⟨h0,h⟩=>⟨h0,ih _ H K K' hk h⟩
  | freeze a n k ih=>exact fun H K K' hk ⟨h0,h⟩=>⟨h0,ih _ K K' hk h⟩
  | frozen a k ih=>exact fun H K K' hk ⟨h0,h⟩=>⟨h0,ih _ H K K' hk h⟩
  | getObj r k ih=>exact fun H K K' hk ⟨o,h1,h2,h⟩=>⟨o,h1,h2,ih o H K K' hk h⟩
  | setObj r o k ih=>exact fun H K K' hk ⟨h1,h⟩=>⟨h1,ih _ K K' hk h⟩
  | choose q k ih=>exact fun H K K' hk h=>⟨fun hq=>ih _ H K K' hk (h.1 hq),fun hq t=>ih _ H K K' hk (h.2 hq t)⟩
  | sys c k ih=>exact fun H K K' hk h=>h.elim
  | program k ih=>exact fun H K K' hk h=>ih _ H K K' hk h
  | mark m k ih=>exact fun H K K' hk h=>ih H K K' hk h
  | halt h=>exact fun H K K' hk h=>h.elim
theorem SemW.bind {P:Program} {α β:Type} (s:Sem α) (f:α->Sem β): ∀(H:Heap) (K:β->Heap->Prop),
    SemW P (s>>= f) H K↔SemW P s H (fun a H'=>SemW P (f a) H' K):=by
  induction s with
  | pure a=>exact fun H K=>Iff.rfl
  | load m a k ih=>exact fun H K=>⟨fun ⟨v,hv,h⟩=>⟨v,hv,(ih v H K).1 h⟩,fun ⟨v,hv,h⟩=>⟨v,hv,(ih v H K).2 h⟩⟩
  | store m a v k ih=>exact fun H K=>⟨fun ⟨h1,h2,h3,h⟩=>⟨h1,h2,h3,(ih _ K).1 h⟩,fun ⟨h1,h2,h3,h⟩=>⟨h1,h2,h3,(ih _ K).2 h⟩⟩
  | new o k ih=>exact fun H K=>⟨fun h n hn=>(ih n _ K).1 (h n hn),fun h n hn=>(ih n _ K).2 (h n hn)⟩
  | shape r k ih=>exact fun H K=>⟨fun ⟨h0,h⟩=>⟨h0,(ih _ H K).1 h⟩,fun ⟨h0,h⟩=>⟨h0,(ih _ H K).2 h⟩⟩
  | freeze a n k ih=>exact fun H K=>⟨fun ⟨h0,h⟩=>⟨h0,(ih _ K).1 h⟩,fun ⟨h0,h⟩=>⟨h0,(ih _ K).2 h⟩⟩
  | frozen a k ih=>exact fun H K=>⟨fun ⟨h0,h⟩=>⟨h0,(ih _ H K).1 h⟩,fun ⟨h0,h⟩=>⟨h0,(ih _ H K).2 h⟩⟩
  | getObj r k ih=>exact fun H K=>⟨fun ⟨o,h1,h2,h⟩=>⟨o,h1,h2,(ih o H K).1 h⟩,fun ⟨o,h1,h2,h⟩=>⟨o,h1,h2,(ih o H K).2 h⟩⟩
  | setObj r o k ih=>exact fun H K=>⟨fun ⟨h1,h⟩=>⟨h1,(ih _ K).1 h⟩,fun ⟨h1,h⟩=>⟨h1,(ih _ K).2 h⟩⟩
  | choose q k ih=>exact fun H K=>⟨fun h=>⟨fun hq=>(ih _ H K).1 (h.1 hq),fun hq t=>(ih _ H K).1 (h.2 hq t)⟩,fun h=>⟨fun hq=>(ih _ H K).2 (h.1 hq),fun hq t=>(ih _ H K).2 (h.2 hq t)⟩⟩
  | sys c k ih=>exact fun H K=>Iff.rfl
  | program k ih=>exact fun H K=>ih _ H K
  | mark m k ih=>exact fun H K=>ih H K
  | halt h=>exact fun H K=>Iff.rfl
def Enters (P:Program) (f:FuncId):Prop:=∃fn,P.funcs[f]? =some fn∧(fn.name== "runtime.NumGoroutine")=false∧fn.body.isNone=false
def FnW (P:Program) (f:FuncId) (args:Array Value) (H:Heap) (R:Value->Heap->Prop):Prop:=
  Enters P f∧∀w,hp w=H->Calls P f args w fun e w'=>∃v,e= .returned v∧R v (hp w')∧Rest w w'
theorem FnW.mono {P:Program} {f:FuncId} {args:Array Value} {H:Heap} {R R':Value->Heap->Prop} (h:FnW P f args H R)
    (hr: ∀v H',R v H'->R' v H'):FnW P f args H R':=
  ⟨h.1,fun w hw=>(h.2 w hw).mono fun _ _ ⟨v,he,hv,hrest⟩=>⟨v,he,hr _ _ hv,hrest⟩⟩
theorem Zbgu {P:Program} {f:FuncId} {args:Array Value} {H:Heap} {K:Next->Heap->Prop} (h:Enters P f) (hk:K (.enter f args) H):SemW P (callFunc f args) H K:=by
  obtain ⟨fn,hf,hn,hb⟩:=h;unfold callFunc;refine (SemW.bind _ _ _ _).2 ?_;change SemW P (match P.funcs[f]? with | none=>_ | some fn=>_) H K
  rw [hf];change SemW P (if (fn.name== "runtime.NumGoroutine")=true then _ else if fn.body.isNone=true then _ else pure (.enter f args)) H K
  rw [if_neg (by rw [hn];simp),if_neg (by rw [hb];simp)]
  exact hk
def Fw (r:Option Nat):Fence:={ Fence.wide with round:=r }
theorem Zvt (r:Option Nat) (f:FuncId):(Fw r).fn f:=trivial
theorem Zbat {P:Program} {f:FuncId} {args:Array Value} {w:World} {R:Ending->World->Prop} (r:Option Nat) {n:Nat} (h:Calls P f args w R):CallsIn (Fw r) n P f args w R:=by
  cases r with
  | none=>exact callsIn_wide.2 h
  | some l=>exact (callsIn_wide.2 h).inRound l
abbrev Env:=Nat->Value
def ev (ρ:Env):Operand->Value
  | .tmp t=>ρ t
  | .const v=>v
  | .global g=> .pointer (some ⟨g,0,none⟩)
  | .func f=> .func (.func f) #[] #[]
def put (ρ:Env) (d:Option Tmp) (v:Value):Env:=
  match d with
  | some d=>fun i=>match Nat.beq i d with | true=>v | false=>ρ i
  | none=>ρ
structure Fits (n:Nat) (D:List Deferred) (ρ:Env) (a:Act):Prop where
  size:a.tmps.size=n
  tmp: ∀t,t<n->a.tmps.getD t undef=ρ t
  defers:a.defers=D
def Zqa (n:Nat) (d:Option Tmp):Bool:=match d with | some d=>Nat.blt d n | none=>true
theorem Fits.put {n:Nat} {D:List Deferred} {ρ:Env} {a:Act} (h:Fits n D ρ a) (d:Option Tmp) (v:Value) (hd:Zqa n d=true):Fits n D (put ρ d v) (a.put d v):=by
  cases d with
  | none=>exact h
  | some d=>
    have hd':d<n:=by simpa [Zqa] using hd
    refine ⟨by simp [Act.put,h.size],fun t ht=>?_,h.defers⟩
    simp only [Act.put,Sh.put];have hs:=h.size;by_cases e:t=d;subst e;have:Nat.beq t t=true:=Nat.beq_refl t;rw [this];simp [Array.getD_eq_getD_getElem?,hs,ht]
    . have:Nat.beq t d=false:=by
        cases hb:Nat.beq t d with
        | true=>exact absurd (Nat.eq_of_beq_eq_true hb) e
        | false=>rfl
      rw [this];have:=h.tmp t ht;simp only [Array.getD_eq_getD_getElem?,Array.getElem?_setIfInBounds] at this ⊢;rw [if_neg (fun e'=>e e'.symm)];exact this
end Go.Sh
end
section
namespace Go.Sh
def IfB (b:Bool) (X Y:Prop):Prop:=match b with | true=>X | false=>Y
theorem IfB.intro {b:Bool} {X Y:Prop} (hx:b=true->X) (hy:b=false->Y):IfB b X Y:=by cases b;exact hy rfl;exact hx rfl
theorem IfB.elim {b:Bool} {X Y:Prop} (h:IfB b X Y):(b=true∧X)∨(b=false∧Y):=by cases b;exact .inr ⟨rfl,h⟩;exact .inl ⟨rfl,h⟩
theorem IfB.mono {b:Bool} {X Y X' Y':Prop} (h:IfB b X Y) (hx:X->X') (hy:Y->Y'):IfB b X' Y':=by cases b;exact hy h;exact hx h
def NilP (p:Option Addr) (k:Addr->Prop):Prop:=match p with | some a=>k a | none=>False
theorem NilP.intro {p:Option Addr} {k:Addr->Prop} (a:Addr) (h:p=some a) (hk:k a):NilP p k:=by subst h;exact hk
theorem NilP.elim {p:Option Addr} {k:Addr->Prop} (h:NilP p k): ∃a,p=some a∧k a:=by
  cases p with
  | none=>exact False.elim h
  | some a=>exact ⟨a,rfl,h⟩
def InB (n:Int) (len:Nat) (k:Nat->Prop):Prop:=0 <= n∧n<len∧k n.toNat
def InC (n:Int) (len:Nat) (k:Nat->Prop):Prop:=0 <= n∧n <= len∧k n.toNat
inductive Leaf where
  | int (k:IntKind) | bool | str | ptr | slice | any
def Zco (l:Leaf) (r:Value->Prop):Prop:=match l with
  | .int k=>∃n:Int,r (.int k n)
  | .bool=>∃b:Bool,r (.bool b)
  | .str=>∃s:ByteArray,r (.string s)
  | .ptr=>∃p:Option Addr,r (.pointer p)
  | .slice=>∃(a:Option Addr) (len cap:Nat),r (.slice a len cap)
  | .any=>∃v:Value,r v
theorem Zco.elim {l:Leaf} {r:Value->Prop} (h:Zco l r): ∃v,r v:=by
  cases l with
  | int k=>obtain ⟨n,h⟩:=h;exact ⟨_,h⟩
  | bool=>obtain ⟨n,h⟩:=h;exact ⟨_,h⟩
  | str=>obtain ⟨n,h⟩:=h;exact ⟨_,h⟩
  | ptr=>obtain ⟨n,h⟩:=h;exact ⟨_,h⟩
  | slice=>obtain ⟨a,b,c,h⟩:=h;exact ⟨_,h⟩
  | any=>exact h
theorem Zco.mono {l:Leaf} {r r':Value->Prop} (hr: ∀v,r v->r' v) (h:Zco l r):Zco l r':=by
  cases l with
  | int k=>obtain ⟨n,h⟩:=h;exact ⟨_,hr _ h⟩
  | bool=>obtain ⟨n,h⟩:=h;exact ⟨_,hr _ h⟩
  | str=>obtain ⟨n,h⟩:=h;exact ⟨_,hr _ h⟩
  | ptr=>obtain ⟨n,h⟩:=h;exact ⟨_,hr _ h⟩
  | slice=>obtain ⟨a,b,c,h⟩:=h;exact ⟨_,_,_,hr _ h⟩
  | any=>obtain ⟨v,h⟩:=h;exact ⟨_,hr _ h⟩
def Zmm (P:Program) (t:TypeId):Leaf:=
  match P.underlying t with
  | some (.int k)=> .int k
  | some .bool=> .bool
  | some .string=> .str
  | some (.pointer _)=> .ptr
  | some (.slice _)=> .slice
  | _=> .any
def leaves (P:Program):Nat->TypeId->List Leaf
  | 0,_=>[]
  | d+1,t=>
    match P.underlying t with
    | some (.struct fs)=>fs.toList.flatMap fun f=>leaves P d f.type
    | some (.array n e)=>(List.replicate n (leaves P d e)).flatten
    | _=>[Zmm P t]
def Zdp (P:Program) (t:TypeId):Option Bool:=
  match P.underlying t with
  | some (.struct _) | some (.array _ _)=>some true
  | some _=>some false
  | none=>none
def padd (a:Addr):Nat->Addr
  | 0=>a
  | n+1=>⟨a.block,a.off+(n+1),none⟩
theorem Zmp (a:Addr) (n:Nat):padd a n=a.add n:=by
  cases n with
  | zero=>rfl
  | succ n=>simp [padd,Addr.add]
def Zgr (H:Heap) (a:Addr):Nat->List Leaf->List Value->(List Value->Prop)->Prop
  | _,[],acc,K=>K acc
  | i,l::ls,acc,K=>Zco l fun v=>H.cell (padd a i)=some v∧Zgr H a (i+1) ls (acc++[v]) K
theorem Zgr.elim {H:Heap} {a:Addr} {K:List Value->Prop}: ∀(ls:List Leaf) (i:Nat) (acc:List Value),Zgr H a i ls acc K->
    ∃vs:List Value,vs.length=ls.length∧(∀j,j<vs.length->H.cell (a.add (i+j))=vs[j]?)∧K (acc++vs):=by
  intro ls;induction ls with
  | nil=>exact fun i acc h=>⟨[],rfl,fun j hj=>absurd hj (by simp),by rw [List.append_nil];exact h⟩
  | cons l ls ih=>
    intro i acc h;obtain ⟨v,hv,h⟩:=Zco.elim h;obtain ⟨vs,hl,hc,hk⟩:=ih (i+1) (acc++[v]) h;refine ⟨v::vs,by simp [hl],fun j hj=>?_,by simpa using hk⟩
    cases j with
    | zero=>rw [Zmp] at hv;simpa using hv
    | succ j=>
      have:=hc j (by simpa using hj)
      simpa [Nat.add_assoc,Nat.add_comm 1 j] using this
def Zbh (P:Program) (t:TypeId) (v:Value) (H:Heap) (K:Value->Heap->Prop):Prop:=
  match v with
  | .pointer (some a)=>
    match Zdp P t with
    | some false=>Zco (Zmm P t) fun v=>H.cell a=some v∧K v H
    | some true=>
      match Nat.ble (P.cellsOf t) 24&&Nat.beq (leaves P 6 t).length (P.cellsOf t) with
      | true=>Zgr H a 0 (leaves P 6 t) [] fun vs=>K (.agg ⟨vs⟩) H
      | false=>∃cs:List Value,cs.length=P.cellsOf t∧(∀j,j<cs.length->H.cell (a.add j)=cs[j]?)∧K (.agg ⟨cs⟩) H
    | none=>False
  | _=>False
theorem Zbjp {P:Program} {H:Heap} {a:Addr} {K:Array Value->Heap->Prop}: ∀(n i:Nat) (acc:Array Value) (vs:List Value),vs.length=n->
    (∀j,j<vs.length->H.cell (a.add (i+j))=vs[j]?)->K ⟨acc.toList++vs⟩ H->SemW P (loadCellsFrom a i n acc) H K:=by
  intro n;induction n with
  | zero=>
    intro i acc vs hl _ hk;obtain rfl:vs= []:=by simpa using hl
    simpa [loadCellsFrom,pure,SemW] using hk
  | succ n ih=>
    intro i acc vs hl hc hk;cases vs with
    | nil=>simp at hl
    | cons v vs=>
      have h0:=hc 0 (by simp)
      simp only [Nat.add_zero,List.getElem?_cons_zero] at h0;refine (SemW.bind _ _ _ _).2 ⟨v,h0,ih (i+1) (acc.push v) vs (by simpa using hl) (fun j hj=>?_) (by simpa using hk)⟩
      have:=hc (j+1) (by simpa using hj)
      simpa [Nat.add_assoc,Nat.add_comm 1 j] using this
theorem Zq {P:Program} {t:TypeId} {d:TypeDesc} {H:Heap} {K:TypeDesc->Heap->Prop} (h:P.underlying t=some d) (hk:K d H):SemW P (underlying t) H K:=by
  unfold underlying;refine (SemW.bind _ _ _ _).2 ?_;show SemW P (match P.underlying t with | some d=>pure d | none=>stuck "no such type") H K
  rw [h];exact hk
theorem Zzj {P:Program} {t:TypeId} {b:Bool} {H:Heap} {K:Bool->Heap->Prop} (h:Zdp P t=some b) (hk:K b H):SemW P (isAgg t) H K:=by
  unfold isAgg;refine (SemW.bind _ _ _ _).2 ?_;unfold Zdp at h;cases hu:P.underlying t with
  | none=>rw [hu] at h;cases h
  | some d=>
    rw [hu] at h;refine Zq hu ?_;cases d<;>simp at h<;>subst h<;>exact hk
theorem Zbks {P:Program} {t:TypeId} {i:TypeInfo} {H:Heap} {K:Nat->Heap->Prop} (h:P.info? t=some i) (hk:K i.size H):SemW P (sizeOf t) H K:=by
  unfold sizeOf typeInfo;refine (SemW.bind _ _ _ _).2 ?_;refine (SemW.bind _ _ _ _).2 ?_;show SemW P (match P.info? t with | some i=>pure i | none=>stuck "no such type") H _
  rw [h];exact hk
theorem info_of_underlying {P:Program} {t:TypeId} {d:TypeDesc} (h:P.underlying t=some d): ∃i,P.info? t=some i:=by
  unfold Program.underlying at h;cases hi:P.info? t with
  | none=>rw [hi] at h;cases h
  | some i=>exact ⟨i,rfl⟩
theorem Zbon {P:Program} {t:TypeId} {b:Bool} (h:Zdp P t=some b): ∃i,P.info? t=some i:=by
  unfold Zdp at h;cases hu:P.underlying t with
  | none=>rw [hu] at h;cases h
  | some d=>exact info_of_underlying hu
theorem Zbh.sem {P:Program} {t:TypeId} {v:Value} {H:Heap} {K:Value->Heap->Prop} (h:Zbh P t v H K):SemW P (Instr.loadAt t v) H K:=by
  unfold Zbh at h;split at h
  . rename_i a;show SemW P (loadVar t a) H K;unfold loadVar;refine (SemW.bind _ _ _ _).2 ?_;split at h;rename_i hb;refine Zzj hb ?_;obtain ⟨v,hv,hk⟩:=Zco.elim h;exact ⟨v,hv,hk⟩
    . rename_i hb;refine Zzj hb ?_;obtain ⟨i,hi⟩:=Zbon hb;have hs:P.cellsOf t=i.size:=by simp [Program.cellsOf,hi]
      rw [hs] at h;have key: ∃cs:List Value,cs.length=i.size∧(∀j,j<cs.length->H.cell (a.add j)=cs[j]?)∧K (.agg ⟨cs⟩) H:=by
        split at h
        . rename_i hc;obtain ⟨vs,hl,hcs,hk⟩:=Zgr.elim _ _ _ h;refine ⟨vs,?_,fun j hj=>by simpa using hcs j hj,by simpa using hk⟩
          rw [hl];simp only [Bool.and_eq_true] at hc;exact Nat.eq_of_beq_eq_true hc.2
        exact h
      obtain ⟨cs,hl,hc,hk⟩:=key;show SemW P (do let n ← sizeOf t;let c ← loadCells a n;pure (Value.agg c)) H K
      refine (SemW.bind _ _ _ _).2 (Zbks hi ?_);refine (SemW.bind _ _ _ _).2 ?_;refine Zbjp i.size 0 #[] cs hl (fun j hj=>by simpa using hc j hj) ?_
      simpa [pure,SemW] using hk
    exact h.elim
  exact h.elim
def szOf (P:Program) (t:TypeId):Option Nat:=match P.info? t with | some i=>some i.size | none=>none
theorem Zdi {P:Program} {t:TypeId} {n:Nat} {H:Heap} {K:Nat->Heap->Prop} (h:szOf P t=some n) (hk:K n H):SemW P (sizeOf t) H K:=by
  unfold szOf at h;cases hi:P.info? t with
  | none=>rw [hi] at h;cases h
  | some i=>rw [hi] at h;cases h;exact Zbks hi hk
def elemAt (a:Addr) (m s:Nat) (k:Addr->Prop):Prop:=match a.spot with
  | none=>k ⟨a.block,a.off+m*s,none⟩
  | some _=>False
def Zz (P:Program) (t:TypeId) (k:Nat->Prop):Prop:=match szOf P t with
  | some s=>k s
  | none=>False
theorem Zz.elim {P:Program} {t:TypeId} {k:Nat->Prop} (h:Zz P t k): ∃s,szOf P t=some s∧k s:=by
  unfold Zz at h;cases hs:szOf P t with
  | none=>rw [hs] at h;exact False.elim h
  | some s=>rw [hs] at h;exact ⟨s,rfl,h⟩
def Zfd (P:Program) (t:TypeId) (x i:Value) (H:Heap) (K:Value->Heap->Prop):Prop:=
  match P.underlying t,x,i with
  | some (.array len e),.pointer (some a),.int _ n=>Zz P e fun s=>InB n len fun m=>elemAt a m s fun p=>K (.pointer (some p)) H
  | some (.slice e),.slice base len _,.int _ n=>Zz P e fun s=>NilP base fun a=>InB n len fun m=>elemAt a m s fun p=>K (.pointer (some p)) H
  | _,_,_=>False
theorem Zcv {a:Addr} (h:a.spot=none) (n:Nat):a.add n=⟨a.block,a.off+n,none⟩:=by unfold Addr.add;by_cases hn:n=0;subst hn;cases a;simp_all;rw [if_neg hn,← h]
theorem elemAt.elim {a:Addr} {m s:Nat} {k:Addr->Prop} (h:elemAt a m s k):k (a.add (m*s)):=by
  unfold elemAt at h;cases hs:a.spot with
  | none=>rw [hs] at h;rw [Zcv hs];exact h
  | some _=>rw [hs] at h;exact False.elim h
theorem Zfd.sem {P:Program} {t:TypeId} {x i:Value} {H:Heap} {K:Value->Heap->Prop} (h:Zfd P t x i H K):SemW P (Instr.indexAt t x i) H K:=by
  unfold Zfd at h;split at h
  . rename_i len e a k n hu;obtain ⟨s,hs,h0,h1,h⟩:=Zz.elim h;unfold Instr.indexAt;change SemW P (underlying t>>= _) H K;refine (SemW.bind _ _ _ _).2 (Zq hu ?_);change SemW P (underlying t>>= _) H K;refine (SemW.bind _ _ _ _).2 (Zq hu ?_);change SemW P (if 0 <= n∧n<(len:Int) then _ else _) H K
    rw [if_pos ⟨h0,h1⟩];exact (SemW.bind _ _ _ _).2 (Zdi hs h.elim)
  . rename_i e base len cap k n hu;obtain ⟨s,hs,h⟩:=Zz.elim h;obtain ⟨a,rfl,h0,h1,h⟩:=NilP.elim h;unfold Instr.indexAt;change SemW P (underlying t>>= _) H K;refine (SemW.bind _ _ _ _).2 (Zq hu ?_);change SemW P (underlying t>>= _) H K;refine (SemW.bind _ _ _ _).2 (Zq hu ?_);change SemW P (if 0 <= n∧n<(len:Int) then _ else _) H K
    rw [if_pos ⟨h0,h1⟩];exact (SemW.bind _ _ _ _).2 (Zdi hs h.elim)
  exact h.elim
theorem Zjk {P:Program} {t:TypeId} {cs:Array Value} {off:Nat} {H:Heap} {K:Value->Heap->Prop}
    (h:(∃s,Zdp P t=some true∧szOf P t=some s∧K (.agg ⟨(cs.toList.drop off).take s⟩) H)∨(∃v,Zdp P t=some false∧cs.toList[off]? =some v∧K v H)):SemW P (part t cs off) H K:=by
  unfold part;refine (SemW.bind _ _ _ _).2 ?_;rcases h with ⟨s,hb,hs,hk⟩ | ⟨v,hb,hv,hk⟩
  . refine Zzj hb ?_;change SemW P (do pure (.agg (cs.extract off (off+(← sizeOf t))))) H K
    refine (SemW.bind _ _ _ _).2 (Zdi hs ?_);have:cs.extract off (off+s)=⟨(cs.toList.drop off).take s⟩:=by apply Array.ext';simp [List.take_drop]
    rw [this];exact hk
  . refine Zzj hb ?_;change SemW P (match cs[off]? with | some v=>pure v | none=>_) H K
    have:cs[off]? =some v:=by simpa using hv
    rw [this];exact hk
def IdxW (P:Program) (t:TypeId) (x i:Value) (H:Heap) (K:Value->Heap->Prop):Prop:=
  match P.underlying t,x,i with
  | some .string,.string s,.int _ n=>InB n s.size fun m=>K (.int .u8 (s.data.getD m 0).toNat) H
  | some (.array len e),.agg cs,.int _ n=>Zz P e fun s=>InB n len fun m=>match Zdp P e with
    | some true=>K (.agg ⟨(cs.toList.drop (m*s)).take s⟩) H
    | some false=>match cs.toList[m*s]? with
      | some v=>K v H
      | none=>False
    | none=>False
  | _,_,_=>False
theorem IdxW.sem {P:Program} {t:TypeId} {x i:Value} {H:Heap} {K:Value->Heap->Prop} (h:IdxW P t x i H K):SemW P (Instr.index t x i) H K:=by
  unfold IdxW at h;split at h
  . rename_i s k n hu;obtain ⟨h0,h1,h⟩:=h;unfold Instr.index;change SemW P (underlying t>>= _) H K;refine (SemW.bind _ _ _ _).2 (Zq hu ?_);change SemW P (match (if 0 <= n then s[n.toNat]? else none) with | some b=>_ | none=>_) H K
    rw [if_pos h0];have hlt:n.toNat<s.size:=by omega
    rw [getElem?_pos s n.toNat hlt];have:s.data.getD n.toNat 0=s[n.toNat]:=by
      rw [Array.getD_eq_getD_getElem?,Array.getElem?_eq_getElem (by exact hlt)];rfl
    rw [this] at h;exact h
  . rename_i len e cs k n hu;obtain ⟨s,hs,h0,h1,h⟩:=Zz.elim h;unfold Instr.index;change SemW P (underlying t>>= _) H K;refine (SemW.bind _ _ _ _).2 (Zq hu ?_);change SemW P (if 0 <= n∧n<(len:Int) then _ else _) H K
    rw [if_pos ⟨h0,h1⟩];refine (SemW.bind _ _ _ _).2 (Zdi hs ?_);split at h;rename_i hA;exact Zjk (.inl ⟨s,hA,hs,h⟩);rename_i hA;split at h;rename_i v hv;exact Zjk (.inr ⟨v,hA,hv,h⟩);exact h.elim;exact h.elim
  exact h.elim
def slHi (hi:Option Value) (len cap:Nat) (k:Nat->Prop):Prop:=match hi with
  | none=>k len
  | some (.int _ n)=>InC n cap k
  | some _=>False
def Zem (P:Program) (t:TypeId) (x:Value) (lo hi mx:Option Value) (H:Heap) (K:Value->Heap->Prop):Prop:=
  match P.underlying t,x,mx with
  | some .string,.string s,none=>slHi hi s.size s.size fun h=>slHi lo 0 h fun l=>K (.string (s.extract l h)) H
  | some (.slice e),.slice a len cap,none=>Zz P e fun sz=>slHi hi len cap fun h=>match lo with
    | none=>K (.slice a h cap) H
    | some _=>slHi lo 0 h fun l=>K (.slice (if cap=l then a else a.map (·.add (l*sz))) (h - l) (cap - l)) H
  | some (.array n e),.pointer (some a),none=>Zz P e fun sz=>slHi hi n n fun h=>match lo with
    | none=>K (.slice (some a) h n) H
    | some _=>slHi lo 0 h fun l=>K (.slice (some (if n=l then a else a.add (l*sz))) (h - l) (n - l)) H
  | some (.slice e),.slice a _ cap,some m=>Zz P e fun sz=>match hi with
    | none=>False
    | some hv=>slHi (some m) 0 cap fun m=>slHi (some hv) 0 m fun h=>slHi lo 0 h fun l=>K (.slice (if m=l then a else a.map (·.add (l*sz))) (h - l) (m - l)) H
  | _,_,_=>False
theorem Zmb {P:Program} {x:Value} {y:Nat} {code:BoundsCode} {H:Heap} {K:Nat->Heap->Prop} {k:IntKind} {n:Int} (hx:x= .int k n) (h:InC n y fun m=>K m H):SemW P (Instr.sliceBound x y code) H K:=by
  subst hx;obtain ⟨h0,h1,h⟩:=h;unfold Instr.sliceBound;change SemW P (if 0 <= n∧n <= (y:Int) then _ else _) H K
  rw [if_pos ⟨h0,h1⟩];exact h
theorem Zbgr {P:Program} {isSlice:Bool} {len cap:Nat} {lo hi:Option Value} {H:Heap} {K:Nat×Nat×Nat->Heap->Prop}
    (h:slHi hi len cap fun h=>slHi lo 0 h fun l=>K (l,h,cap) H):SemW P (Instr.sliceBounds isSlice len cap lo hi none) H K:=by
  unfold Instr.sliceBounds;cases lo with
  | none=>
    cases hi with
    | none=>exact h
    | some v=>
      cases v<;>first | (exact False.elim h) | skip
      rename_i k n;obtain ⟨h0,h1,h⟩:=h;change SemW P (Instr.sliceBound (.int k n) cap _>>= _) H K;exact (SemW.bind _ _ _ _).2 (Zmb rfl ⟨h0,h1,h⟩)
  | some u=>
    have low: ∀h' code,(slHi (some u) 0 h' fun l=>K (l,h',cap) H)->SemW P (Instr.sliceBound u h' code>>= fun l=>pure (l,h',cap)) H K:=by
      intro h' code hl;cases u<;>first | (exact False.elim hl) | skip
      exact (SemW.bind _ _ _ _).2 (Zmb rfl hl)
    cases hi with
    | none=>exact low _ _ h
    | some v=>
      cases v<;>first | (exact False.elim h) | skip
      rename_i k n;obtain ⟨h0,h1,h⟩:=h;change SemW P (Instr.sliceBound (.int k n) cap _>>= _) H K;exact (SemW.bind _ _ _ _).2 (Zmb rfl ⟨h0,h1,low _ _ h⟩)
theorem slHi.mono {hi:Option Value} {len cap:Nat} {k k':Nat->Prop} (hk: ∀n,k n->k' n) (h:slHi hi len cap k):slHi hi len cap k':=by
  cases hi with
  | none=>exact hk _ h
  | some v=>
    cases v<;>first | (exact False.elim h) | (exact ⟨h.1,h.2.1,hk _ h.2.2⟩)
theorem Zclj {P:Program} {isSlice:Bool} {len cap:Nat} {lo:Option Value} {hv m:Value} {H:Heap} {K:Nat×Nat×Nat->Heap->Prop}
    (h:slHi (some m) 0 cap fun m=>slHi (some hv) 0 m fun h=>slHi lo 0 h fun l=>K (l,h,m) H):SemW P (Instr.sliceBounds isSlice len cap lo (some hv) (some m)) H K:=by
  unfold Instr.sliceBounds;cases m<;>first | (exact False.elim h) | skip
  rename_i k n;obtain ⟨h0,h1,h⟩:=h;change SemW P (Instr.sliceBound (.int k n) cap _>>= _) H K;refine (SemW.bind _ _ _ _).2 (Zmb rfl ⟨h0,h1,?_⟩);cases hv<;>first | (exact False.elim h) | skip
  rename_i k n;obtain ⟨h0,h1,h⟩:=h;change SemW P (Instr.sliceBound (.int k n) _ _>>= _) H K;refine (SemW.bind _ _ _ _).2 (Zmb rfl ⟨h0,h1,?_⟩);cases lo with
  | none=>exact h
  | some u=>
    cases u<;>first | (exact False.elim h) | skip
    exact (SemW.bind _ _ _ _).2 (Zmb rfl h)
theorem Zem.sem {P:Program} {t:TypeId} {x:Value} {lo hi mx:Option Value} {H:Heap} {K:Value->Heap->Prop} (h:Zem P t x lo hi mx H K):SemW P (Instr.sliceAt t x lo hi mx) H K:=by
  unfold Zem at h;split at h;rename_i s hu;unfold Instr.sliceAt;refine (SemW.bind _ _ _ _).2 (Zq hu ?_);change SemW P (Instr.slice t (.string s) lo hi none) H K;unfold Instr.slice;refine (SemW.bind _ _ _ _).2 (Zq hu ?_);change SemW P (Instr.sliceBounds false s.size s.size lo hi none>>= _) H K;exact (SemW.bind _ _ _ _).2 (Zbgr h)
  . rename_i e a len cap hu;obtain ⟨sz,hs,h⟩:=Zz.elim h;unfold Instr.sliceAt;refine (SemW.bind _ _ _ _).2 (Zq hu ?_);change SemW P (Instr.slice t (.slice a len cap) lo hi none) H K;unfold Instr.slice;refine (SemW.bind _ _ _ _).2 (Zq hu ?_);change SemW P (Instr.sliceBounds true len cap lo hi none>>= _) H K;refine (SemW.bind _ _ _ _).2 (Zbgr (slHi.mono (fun h' h=>?_) h));cases lo with
    | none=>
      refine (SemW.bind _ _ _ _).2 (Zdi hs ?_);have e0:(if cap=0 then a else a.map (·.add (0*sz)))=a:=by split;rfl;cases a<;>simp [Addr.add]
      change K (.slice (if cap=0 then a else a.map (·.add (0*sz))) (h' - 0) (cap - 0)) H
      rw [e0,Nat.sub_zero,Nat.sub_zero];exact h
    | some v=>exact slHi.mono (fun l h=>(SemW.bind _ _ _ _).2 (Zdi hs h)) h
  . rename_i n e a hu;obtain ⟨sz,hs,h⟩:=Zz.elim h;unfold Instr.sliceAt;refine (SemW.bind _ _ _ _).2 (Zq hu ?_);change SemW P (Instr.sliceBounds false n n lo hi none>>= _) H K;refine (SemW.bind _ _ _ _).2 (Zbgr (slHi.mono (fun h' h=>?_) h));cases lo with
    | none=>
      refine (SemW.bind _ _ _ _).2 (Zdi hs ?_);have e0:(if n=0 then a else a.add (0*sz))=a:=by split;rfl;simp [Addr.add]
      change K (.slice (some (if n=0 then a else a.add (0*sz))) (h' - 0) (n - 0)) H
      rw [e0,Nat.sub_zero,Nat.sub_zero];exact h
    | some v=>exact slHi.mono (fun l h=>(SemW.bind _ _ _ _).2 (Zdi hs h)) h
  . rename_i e a len cap m hu;obtain ⟨sz,hs,h⟩:=Zz.elim h;unfold Instr.sliceAt;refine (SemW.bind _ _ _ _).2 (Zq hu ?_);change SemW P (Instr.slice t (.slice a len cap) lo hi (some m)) H K;unfold Instr.slice;refine (SemW.bind _ _ _ _).2 (Zq hu ?_);change SemW P (Instr.sliceBounds true len cap lo hi (some m)>>= _) H K;cases hi with
    | none=>exact h.elim
    | some hv=>
      refine (SemW.bind _ _ _ _).2 (Zclj (slHi.mono (fun m h=>slHi.mono (fun h' h=>slHi.mono (fun l h=>?_) h) h) h));exact (SemW.bind _ _ _ _).2 (Zdi hs h)
  exact h.elim
end Go.Sh
end
section
namespace Go.Sh
def setL:List Value->Nat->List Value->List Value
  | cells,_,[]=>cells
  | cells,off,v::vs=>setL (cells.set off v) (off+1) vs
def Zhr (place:Nat->Option (Nat×Nat)):List Value->List (Nat×Value)->Option (List Value)
  | cells,[]=>some cells
  | cells,(i,v)::rest=>match place i with
    | none=>none
    | some (off,size)=>match Nat.beq v.cells.toList.length size&&Nat.ble (off+v.cells.toList.length) cells.length with
      | true=>Zhr place (setL cells off v.cells.toList) rest
      | false=>none
theorem Zcgu: ∀(vs:List Value) (k off:Nat) (cells:Array Value),
    ((vs.zipIdx k).foldl (fun (cs:Array Value) (p:Value×Nat)=>cs.setIfInBounds (off+p.2) p.1) cells).toList=setL cells.toList (off+k) vs:=by
  intro vs;induction vs with
  | nil=>intro k off cells;rfl
  | cons v vs ih=>
    intro k off cells;simp only [List.zipIdx_cons,List.foldl_cons,setL];rw [ih (k+1) off];simp [Nat.add_assoc]
theorem Zyd (place:Nat->Option (Nat×Nat)): ∀(parts:List (Nat×Value)) (cells:Array Value) (out:List Value),
    Zhr place cells.toList parts=some out->Instr.fill place cells parts=some ⟨out⟩:=by
  intro parts;induction parts with
  | nil=>intro cells out h;simp only [Zhr,Option.some.injEq] at h;subst h;rfl
  | cons p rest ih=>
    obtain ⟨i,v⟩:=p;intro cells out h;simp only [Zhr] at h;unfold Instr.fill;cases hp:place i with
    | none=>rw [hp] at h;cases h
    | some os=>
      obtain ⟨off,size⟩:=os;rw [hp] at h;simp only at h ⊢;split at h
      . rename_i hc;simp only [Bool.and_eq_true] at hc;have h1:=Nat.eq_of_beq_eq_true hc.1;have h2:=Nat.le_of_ble_eq_true hc.2;have hcond:(decide (v.cells.size≠size)||decide (off+v.cells.size>cells.size))=false:=by simp at h1 h2;simp [h1];omega
        rw [if_neg (by rw [hcond];simp)]
        apply ih;have:=Zcgu v.cells.toList 0 off cells;rw [← Array.foldl_toList,Array.toList_zipIdx,this];exact h
      cases h
def Zcx (P:Program) (t:TypeId):Option (List Value):=match P.info? t with
  | some i=>match i.zero with
    | some v=>some v.cells.toList
    | none=>none
  | none=>none
theorem Zhq {P:Program} {t:TypeId} {l:List Value} {H:Heap} {K:Value->Heap->Prop} (h:Zcx P t=some l) (hk: ∀v:Value,v.cells=⟨l⟩->K v H):SemW P (zeroValue t) H K:=by
  unfold Zcx at h;unfold zeroValue typeInfo;cases hi:P.info? t with
  | none=>rw [hi] at h;cases h
  | some i=>
    rw [hi] at h;simp only at h;cases hz:i.zero with
    | none=>rw [hz] at h;cases h
    | some v=>
      rw [hz] at h;simp only [Option.some.injEq] at h;refine (SemW.bind _ _ _ _).2 ?_;refine (SemW.bind _ _ _ _).2 ?_;change SemW P (match P.info? t with | some i=>pure i | none=>stuck "no such type") H _
      rw [hi];change SemW P (match i.zero with | some v=>pure v | none=>_) H K
      rw [hz];exact hk v (by rw [← h])
def Zol (P:Program):List Field->Option (List (Nat×Nat))
  | []=>some []
  | f::fs=>match szOf P f.type,Zol P fs with
    | some s,some r=>some ((f.offset,s)::r)
    | _,_=>none
theorem Zcln {P:Program} {H:Heap}: ∀(fs:List Field) (pl:List (Nat×Nat)) (K:List (Nat×Nat)->Heap->Prop),Zol P fs=some pl->K pl H->
    SemW P (fs.mapM fun f=>do pure (f.offset,← sizeOf f.type)) H K:=by
  intro fs;induction fs with
  | nil=>intro pl K h hk;cases h;simpa [pure,SemW] using hk
  | cons f fs ih=>
    intro pl K h hk;simp only [Zol] at h;split at h;rename_i s r hs hr;cases h;rw [List.mapM_cons];refine (SemW.bind _ _ _ _).2 ?_;refine (SemW.bind _ _ _ _).2 (Zdi hs ?_);change SemW P (List.mapM _ fs>>= _) H K;exact (SemW.bind _ _ _ _).2 (ih r _ hr hk);cases h
def Zrx (P:Program) (t:TypeId) (parts:List (Nat×Value)):Option (List Value):=
  match P.underlying t with
  | some (.struct fs)=>match Zcx P t,Zol P fs.toList with
    | some z,some pl=>Zhr (pl[·]?) z parts
    | _,_=>none
  | some (.array _ e)=>match Zcx P t,szOf P e with
    | some z,some s=>Zhr (fun i=>some (i*s,s)) z parts
    | _,_=>none
  | _=>none
theorem Zcis {P:Program} {t:TypeId} {parts:Array (Nat×Value)} {l:List Value} {H:Heap} {K:Value->Heap->Prop} (h:Zrx P t parts.toList=some l) (hk:K (.agg ⟨l⟩) H):
    SemW P (Instr.build t parts) H K:=by
  unfold Zrx at h;unfold Instr.build;split at h
  . rename_i fs hu;split at h
    . rename_i z pl hz hp;refine (SemW.bind _ _ _ _).2 ?_;refine Zhq hz fun v hv=>?_;refine (SemW.bind _ _ _ _).2 (Zq hu ?_);simp only [Array.mapM_eq_mapM_toList];refine (SemW.bind _ _ _ _).2 ?_;rw [map_eq_pure_bind];refine (SemW.bind _ _ _ _).2 ?_;refine Zcln _ pl _ hp ?_;have:Instr.fill (fun x=>pl.toArray[x]?) v.cells parts.toList=some ⟨l⟩:=by rw [hv];refine Zyd _ _ _ _ ?_;simpa using h
      change SemW P (match Instr.fill (fun x=>pl.toArray[x]?) v.cells parts.toList with | some cells=>pure (Value.agg cells) | _=>_) H K
      rw [this];exact hk
    cases h
  . rename_i n e hu;split at h
    . rename_i z s hz hs;refine (SemW.bind _ _ _ _).2 ?_;refine Zhq hz fun v hv=>?_;refine (SemW.bind _ _ _ _).2 (Zq hu ?_);refine (SemW.bind _ _ _ _).2 (Zdi hs ?_);have:Instr.fill (fun i=>some (i*s,s)) v.cells parts.toList=some ⟨l⟩:=by rw [hv];exact Zyd _ _ _ _ h
      change SemW P (match Instr.fill (fun i=>some (i*s,s)) v.cells parts.toList with | some cells=>pure (Value.agg cells) | _=>_) H K
      rw [this];exact hk
    cases h
  cases h
def repL:Nat->List Value->List Value
  | 0,_=>[]
  | n+1,z=>z++repL n z
def rowL (P:Program) (e:TypeId) (len:Nat) (parts:List (Nat×Value)):Option (List Value):=
  match szOf P e with
  | some s=>match len with
    | 0=>Zhr (fun i=>some (i*s,s)) [] parts
    | len+1=>match Zcx P e with
      | some z=>match Nat.beq z.length s&&Nat.ble ((len+1)*s) 16777216 with
        | true=>Zhr (fun i=>some (i*s,s)) (repL (len+1) z) parts
        | false=>none
      | none=>none
  | none=>none
theorem Zgm (n:Nat) (z:List Value):(repL n z).length=n*z.length:=by
  induction n with
  | zero=>simp [repL]
  | succ n ih=>simp [repL,ih,Nat.succ_mul,Nat.add_comm]
theorem Zbhe (z:List Value) (hz:0<z.length): ∀(n i:Nat),i<n*z.length->(repL n z)[i]? =z[i%z.length]? :=by
  intro n;induction n with
  | zero=>intro i h;simp at h
  | succ n ih=>
    intro i h;simp only [repL,List.getElem?_append];by_cases hi:i<z.length;rw [if_pos hi,Nat.mod_eq_of_lt hi]
    . rw [if_neg hi,ih (i - z.length) (by rw [Nat.succ_mul] at h;omega)]
      rw [Nat.mod_eq_sub_mod (a:=i) (by omega)]
theorem Zbet (n:Nat) (z:Array Value):((Array.range (n*z.size)).map fun i=>z[i%z.size]!)=⟨repL n z.toList⟩:=by
  apply Array.ext;simp [Zgm]
  . intro i h1 h2;simp at h1;have hz:0<z.size:=by rcases Nat.eq_zero_or_pos z.size with h | h;rw [h] at h1;simp at h1;exact h
    have h3:=Zbhe z.toList (by simpa using hz) n i (by simpa using h1)
    have hlt:i%z.size<z.size:=Nat.mod_lt _ hz;simp only [Array.getElem_map,Array.getElem_range];rw [getElem!_pos z _ hlt];simp at h3;have h4:(repL n z.toList)[i]? =some (repL n z.toList)[i]:=by rw [List.getElem?_eq_getElem]
    rw [h4,Array.getElem?_eq_getElem hlt] at h3;exact (Option.some.inj h3).symm
theorem Zjd {P:Program} {e:TypeId} {cells:Array Value} {H:Heap} {K:Addr->Heap->Prop} (h: ∀n,H n=none->K ⟨n,0,none⟩ (H.upd n (.cells cells e))):SemW P (newRow e cells) H K:=
  (SemW.bind _ _ _ _).2 fun n hn=>h n hn
theorem Zcgo {P:Program} {t e:TypeId} {len:Nat} {parts:Array (Nat×Value)} {l:List Value} {H:Heap} {K:Value->Heap->Prop}
    (hu:P.underlying t=some (.slice e)) (h:rowL P e len parts.toList=some l) (hk: ∀n,H n=none->K (.slice (some ⟨n,0,none⟩) len len) (H.upd n (.cells ⟨l⟩ e))):
    SemW P (Instr.buildSlice t len parts) H K:=by
  unfold rowL at h;unfold Instr.buildSlice;refine (SemW.bind _ _ _ _).2 (Zq hu ?_);simp only;split at h
  . rename_i s hs;refine (SemW.bind _ _ _ _).2 (Zdi hs ?_);cases len with
    | zero=>
      simp only at h;have hf:Instr.fill (fun i=>some (i*s,s)) #[] parts.toList=some ⟨l⟩:=Zyd _ _ _ _ h;simp only [Nat.zero_mul];rw [if_neg (by simp)]
      change SemW P (match Instr.fill (fun i=>some (i*s,s)) ((Array.range 0).map fun i=>(#[]:Array Value)[i%0]!) parts.toList with | some cells=>_ | _=>_) H K
      have h0:((Array.range 0).map fun i=>(#[]:Array Value)[i%0]!)= #[]:=by simp
      rw [h0,hf];exact (SemW.bind _ _ _ _).2 (Zjd hk)
    | succ len=>
      simp only at h;split at h
      . rename_i z hz;split at h
        . rename_i hc;simp only [Bool.and_eq_true] at hc;have h1:=Nat.eq_of_beq_eq_true hc.1;have h2:=Nat.le_of_ble_eq_true hc.2;rw [if_neg (by simpa using h2)]
          have goal: ∀zero:Array Value,zero=⟨z⟩∨((len+1)*s=0∧zero= #[])->SemW P (do
              let some cells:=Instr.fill (fun i=>some (i*s,s)) ((Array.range ((len+1)*s)).map (zero[· %zero.size]!)) parts.toList
                | stuck "buildSlice: a part of the wrong size"
              pure (.slice (some (← newRow e cells)) (len+1) (len+1))) H K:=by
            intro zero hzero;have hrep:((Array.range ((len+1)*s)).map fun i=>zero[i%zero.size]!)=⟨repL (len+1) z⟩:=by
              rcases hzero with rfl | ⟨h0,rfl⟩;rw [← h1];exact Zbet (len+1) ⟨z⟩
              . rw [h0];have hs0:s=0:=by rcases Nat.mul_eq_zero.1 h0 with h | h;omega;exact h
                have hz0:z= []:=by apply List.eq_nil_of_length_eq_zero;omega
                subst hz0;have: ∀n,repL n ([]:List Value)= []:=by intro n;induction n with | zero=>rfl | succ n ih=>simp [repL,ih]
                rw [this];simp
            change SemW P (match Instr.fill (fun i=>some (i*s,s)) ((Array.range ((len+1)*s)).map fun i=>zero[i%zero.size]!) parts.toList with | some cells=>_ | _=>_) H K
            rw [hrep,Zyd (fun i=>some (i*s,s)) parts.toList ⟨repL (len+1) z⟩ l h];exact (SemW.bind _ _ _ _).2 (Zjd hk)
          by_cases h0:(len+1)*s=0;rw [if_pos h0];exact goal #[] (.inr ⟨h0,rfl⟩);rw [if_neg h0];refine (SemW.bind _ _ _ _).2 (Zhq hz fun v hv=>?_);have:=goal ⟨z⟩ (.inl rfl);rw [← hv] at this;exact this
        cases h
      cases h
  cases h
end Go.Sh
end
section
namespace Go.Sh
def Zip:List Tmp->List Value->Array Value->Array Value
  | t::ts,v::vs,a=>Zip ts vs (a.setIfInBounds t v)
  | _,_,a=>a
theorem Zbtx: ∀(ts:List Tmp) (vs:List Value) (a:Array Value),ts.length=vs.length->(ts.zip vs).foldl (fun tmps (x:Tmp×Value)=>tmps.setIfInBounds x.1 x.2) a=Zip ts vs a
  | [],[],_,_=>rfl
  | [],_::_,_,h=>by simp at h
  | _::_,[],_,h=>by simp at h
  | t::ts,v::vs,a,h=>by simp only [List.zip_cons_cons,List.foldl_cons,Zip];exact Zbtx ts vs _ (by simpa using h)
def RndW (P:Program) (l:Nat) (fn:FuncId) (tmps:Array Value) (assign body:Code) (H:Heap) (R:Value->Heap->Prop):Prop:=
  ∀w,hp w=H->RoundIn Fence.wide 0 P l fn tmps assign body w fun e w'=>∃v,e= .returned v∧R v (hp w')∧Rest w w'
theorem RndW.mono {P:Program} {l:Nat} {fn:FuncId} {tmps:Array Value} {assign body:Code} {H:Heap} {R R':Value->Heap->Prop} (h:RndW P l fn tmps assign body H R) (hr: ∀v H',R v H'->R' v H'):RndW P l fn tmps assign body H R':=
  fun w hw=>(h w hw).mono fun _ _ ⟨v,he,hv,hrest⟩=>⟨v,he,hr _ _ hv,hrest⟩
def Zfq (P:Program) (l:Nat) (vs:List Value) (H:Heap) (K:Value->Heap->Prop):Prop:=
  ∃r:Loop,H l=some (.loop r)∧r.state= .ready∧vs.length=r.params.size∧RndW P l r.fn (Zip r.params.toList vs r.tmps) r.assign r.body H K
theorem Zfq.mono {P:Program} {l:Nat} {vs:List Value} {H:Heap} {R R':Value->Heap->Prop} (hr: ∀v H',R v H'->R' v H') (h:Zfq P l vs H R):Zfq P l vs H R':=by obtain ⟨r,h1,h2,h3,h4⟩:=h;exact ⟨r,h1,h2,h3,h4.mono hr⟩
inductive Cal where
  | yield (l:Nat) | fn (f:FuncId) (caps:List Value) | bnd (f:FuncId) (first caps:List Value) | other
def Ziy:Value->Cal
  | .func (.yield l) ⟨[]⟩ _=> .yield l
  | .func (.func f) ⟨[]⟩ ⟨caps⟩=> .fn f caps
  | .func (.func f) ⟨d::ds⟩ ⟨caps⟩=> .bnd f (d::ds) caps
  | _=> .other
def Zbt (P:Program) (K:Value->Heap->Prop):Next->Heap->Prop
  | .value v,H=>K v H
  | .skip,H=>K undef H
  | .enter f args,H=>FnW P f args H K
  | .round l fn tmps assign body,H=>RndW P l fn tmps assign body H K
  | _,_=>False
def eqFs (eq:TypeId->Value->Value->Option Bool) (isA:TypeId->Option Bool) (sz:TypeId->Option Nat):List Field->List Value->List Value->Option Bool
  | [],_,_=>some true
  | f::fs,xs,ys=>
    match isA f.type with
    | some false=>match xs[f.offset]?,ys[f.offset]? with
      | some x,some y=>match eq f.type x y,eqFs eq isA sz fs xs ys with
        | some b,some r=>some (b&&r)
        | _,_=>none
      | _,_=>none
    | some true=>match sz f.type with
      | some s=>match eq f.type (.agg ⟨(xs.drop f.offset).take s⟩) (.agg ⟨(ys.drop f.offset).take s⟩),eqFs eq isA sz fs xs ys with
        | some b,some r=>some (b&&r)
        | _,_=>none
      | none=>none
    | none=>none
def Zcr (P:Program):Nat->TypeId->Value->Value->Option Bool
  | 0,_,_,_=>none
  | d+1,t,x,y=>
    match P.underlying t,x,y with
    | some .bool,.bool a,.bool b=>some (a==b)
    | some (.int _),.int k a,.int k' b=>match decide (k=k') with | true=>some (a==b) | false=>none
    | some .string,.string a,.string b=>some (a==b)
    | some (.pointer _),.pointer p,.pointer none=>some p.isNone
    | some (.pointer _),.pointer none,.pointer p=>some p.isNone
    | some (.pointer e),.pointer (some a),.pointer (some b)=>match szOf P e,Nat.beq a.block b.block with
      | some (_+1),true=>some (a==b)
      | _,_=>none
    | some (.slice _),.slice p _ _,.slice none _ _=>some p.isNone
    | some (.interface _),.nilIface,.nilIface=>some true
    | some (.interface _),.iface _ _,.nilIface=>some false
    | some (.map _ _),.map p,.map none=>some p.isNone
    | some (.map _ _),.map none,.map p=>some p.isNone
    | some (.func _ _ _),.nilFunc,.nilFunc=>some true
    | some (.func _ _ _),.func _ _ _,.nilFunc=>some false
    | some (.struct fs),.agg xs,.agg ys=>
      match P.stoodInHeld t,fs.toList.all fun f=>f.name != "_" with
      | false,true=>eqFs (Zcr P d) (Zdp P) (szOf P) fs.toList xs.toList ys.toList
      | _,_=>none
    | _,_,_=>none
theorem Zcfy {P:Program} {d:Nat} {eq:TypeId->Value->Value->Option Bool} (heq: ∀t x y b (H:Heap) (K:Bool->Heap->Prop),eq t x y=some b->K b H->SemW P (Op.equalIn d t x y) H K) (xs ys:Array Value):
    ∀(fs:List Field),(fs.all fun f=>f.name != "_")=true->∀(b:Bool) (H:Heap) (K:Bool->Heap->Prop),eqFs eq (Zdp P) (szOf P) fs xs.toList ys.toList=some b->K b H->
    SemW P (do
      let r ← forIn fs ((none,()):Option Bool×Unit) fun f _=>do
        if f.name≠ "_" then
          if (!(← Op.equalIn d f.type (← part f.type xs f.offset) (← part f.type ys f.offset)))=true then pure (ForInStep.done (some false,())) else pure (ForInStep.yield (none,()))
        else pure (ForInStep.yield (none,()))
      match r.fst with
        | some a=>pure a
        | none=>pure true) H K:=by
  intro fs;induction fs with
  | nil=>intro _ b H K h hk;simp only [eqFs,Option.some.injEq] at h;subst h;exact hk
  | cons f fs ih=>
    intro hn b H K h hk;simp only [List.all_cons,Bool.and_eq_true] at hn;obtain ⟨hn1,hn2⟩:=hn;have hne:f.name≠ "_" :=by simpa using hn1
    have step: ∀x y b1 r,eq f.type x y=some b1->eqFs eq (Zdp P) (szOf P) fs xs.toList ys.toList=some r->b=(b1&&r)->
        (∀K':Value->Heap->Prop,K' x H->SemW P (part f.type xs f.offset) H K')->(∀K':Value->Heap->Prop,K' y H->SemW P (part f.type ys f.offset) H K')->
        SemW P (do
      let r ← forIn (f::fs) ((none,()):Option Bool×Unit) fun f _=>do
        if f.name≠ "_" then
          if (!(← Op.equalIn d f.type (← part f.type xs f.offset) (← part f.type ys f.offset)))=true then pure (ForInStep.done (some false,())) else pure (ForInStep.yield (none,()))
        else pure (ForInStep.yield (none,()))
      match r.fst with
        | some a=>pure a
        | none=>pure true) H K:=by
      intro x y b1 r h1 h2 hb hx hy;rw [List.forIn_cons];rw [if_pos hne];refine (SemW.bind _ _ _ _).2 ?_;refine (SemW.bind _ _ _ _).2 ?_;refine (SemW.bind _ _ _ _).2 (hx _ ?_);refine (SemW.bind _ _ _ _).2 (hy _ ?_);refine (SemW.bind _ _ _ _).2 (heq _ _ _ _ _ _ h1 ?_);cases b1 with
      | false=>
        simp only [Bool.not_false,if_true];subst hb;exact hk
      | true=>
        simp only [Bool.not_true,Bool.false_eq_true,if_false];have:=ih hn2 b H K (by rw [hb];simpa using h2) hk
        exact (SemW.bind (forIn fs _ _) _ _ _).1 this
    simp only [eqFs] at h;split at h;rename_i hA;split at h;rename_i x y hx hy;split at h;rename_i b1 r h1 h2;simp only [Option.some.injEq] at h;exact step x y b1 r h1 h2 h.symm (fun K' hk'=>Zjk (.inr ⟨x,hA,hx,hk'⟩)) (fun K' hk'=>Zjk (.inr ⟨y,hA,hy,hk'⟩));cases h;cases h;rename_i hA;split at h;rename_i s hs;split at h;rename_i b1 r h1 h2;simp only [Option.some.injEq] at h;exact step _ _ b1 r h1 h2 h.symm (fun K' hk'=>Zjk (.inl ⟨s,hA,hs,hk'⟩)) (fun K' hk'=>Zjk (.inl ⟨s,hA,hs,hk'⟩));cases h;cases h;cases h
theorem Zcbe {P:Program}: ∀(d d':Nat),d <= d'->∀(t:TypeId) (x y:Value) (b:Bool) (H:Heap) (K:Bool->Heap->Prop),Zcr P d t x y=some b->K b H->SemW P (Op.equalIn d' t x y) H K:=by
  intro d;induction d with
  | zero=>intro d' _ t x y b H K h;cases h
  | succ d ih=>
    intro d' hd t x y b H K h hk;obtain ⟨d',rfl⟩: ∃e,d'=e+1:=⟨d' - 1,by omega⟩
    simp only [Zcr] at h;unfold Op.equalIn;split at h;rename_i a c hu;refine (SemW.bind _ _ _ _).2 (Zq hu ?_);simp only [Option.some.injEq] at h;subst h;exact hk
    . rename_i k0 k a k' c hu;refine (SemW.bind _ _ _ _).2 (Zq hu ?_);by_cases e:k=k'
      . rw [decide_eq_true e] at h;simp only [Option.some.injEq] at h;subst h;change SemW P (if k=k' then pure (a==c) else _) H K
        rw [if_pos e];exact hk
      rw [decide_eq_false e] at h;cases h
    rename_i a c hu;refine (SemW.bind _ _ _ _).2 (Zq hu ?_);simp only [Option.some.injEq] at h;subst h;exact hk;rename_i e p hu;refine (SemW.bind _ _ _ _).2 (Zq hu ?_);simp only [Option.some.injEq] at h;subst h;cases p<;>exact hk;rename_i e p hu;refine (SemW.bind _ _ _ _).2 (Zq hu ?_);simp only [Option.some.injEq] at h;subst h;exact hk
    . rename_i e a c hu;refine (SemW.bind _ _ _ _).2 (Zq hu ?_);split at h
      . rename_i n hs hb;simp only [Option.some.injEq] at h;subst h;show SemW P (sizeOf e>>= _) H K;refine (SemW.bind _ _ _ _).2 (Zdi hs ?_);show SemW P (if n+1≠0 then sameAddr a c else _) H K
        rw [if_pos (by omega)]
        unfold sameAddr;show SemW P (if (a.block==c.block)=true then _ else _) H K
        rw [if_pos (by rw [Nat.eq_of_beq_eq_true hb];simp)]
        exact hk
      cases h
    rename_i e p _ _ _ _ hu;refine (SemW.bind _ _ _ _).2 (Zq hu ?_);simp only [Option.some.injEq] at h;subst h;cases p<;>exact hk;rename_i ms hu;refine (SemW.bind _ _ _ _).2 (Zq hu ?_);simp only [Option.some.injEq] at h;subst h;exact hk;rename_i ms _ _ hu;refine (SemW.bind _ _ _ _).2 (Zq hu ?_);simp only [Option.some.injEq] at h;subst h;exact hk;rename_i p hu;refine (SemW.bind _ _ _ _).2 (Zq hu ?_);simp only [Option.some.injEq] at h;subst h;cases p<;>exact hk;rename_i p _ hu;refine (SemW.bind _ _ _ _).2 (Zq hu ?_);simp only [Option.some.injEq] at h;subst h;exact hk;rename_i hu;refine (SemW.bind _ _ _ _).2 (Zq hu ?_);simp only [Option.some.injEq] at h;subst h;exact hk;rename_i hu;refine (SemW.bind _ _ _ _).2 (Zq hu ?_);simp only [Option.some.injEq] at h;subst h;exact hk
    . rename_i fs xs ys hu;refine (SemW.bind _ _ _ _).2 (Zq hu ?_);split at h
      . rename_i hst hall;refine (SemW.bind _ _ _ _).2 ?_;change SemW P (if P.stoodInHeld t=true then _ else _) H K
        rw [hst,if_neg (by simp)]
        have:=Zcfy (d:=d') (eq:=Zcr P d) (fun t x y b H K h hk=>ih d' (by omega) t x y b H K h hk) xs ys fs.toList hall b H K h hk
        simp only [← Array.forIn_toList];refine (SemW.bind _ _ _ _).2 (SemW.mono _ _ _ _ (fun a H' h=>?_) ((SemW.bind _ _ _ _).1 this));obtain ⟨a,u⟩:=a;cases a<;>exact h
      cases h
    cases h
end Go.Sh
end
section
namespace Go.Sh
def Zb (H:Heap) (a:Addr) (v:Value) (K:Heap->Prop):Prop:=
  match Zbl v,a.spot with
  | true,none=>∃c T lo hi,H a.block=some (.cells c T (lo,hi))∧a.off<c.size∧(decide (lo <= a.off)&&decide (a.off<hi))=false∧K (H.upd a.block (.cells (c.setIfInBounds a.off v) T (lo,hi)))
  | _,_=>False
def Zfg (a:Addr):Nat->List Value->Heap->(Heap->Prop)->Prop
  | _,[],H,K=>K H
  | i,v::vs,H,K=>Zb H (padd a i) v fun H'=>Zfg a (i+1) vs H' K
theorem Zb.elim {H:Heap} {a:Addr} {v:Value} {K:Heap->Prop} (h:Zb H a v K):Zbl v=true∧(∃u,H.cell a=some u)∧H.frozen a=false∧K (H.set a v):=by
  unfold Zb at h;split at h
  . rename_i hp hs;obtain ⟨c,T,lo,hi,hb,hlt,hf,hk⟩:=h;refine ⟨hp,⟨c[a.off],?_⟩,?_,?_⟩;simp only [Heap.cell,hb,hs];simp [hlt];simp only [Heap.frozen,hb];exact hf
    . have:H.set a v=H.upd a.block (.cells (c.setIfInBounds a.off v) T (lo,hi)):=by refine Heap.ext fun b=>?_;simp only [Heap.set,Heap.alter,Heap.upd];by_cases e:b=a.block;subst e;simp only [if_true,hb,Option.map_some,Heap.setO,hs];rfl;rw [if_neg e,if_neg e]
      rw [this];exact hk
  exact h.elim
theorem Zfg.sem {P:Program} {a:Addr} {K:Unit->Heap->Prop}: ∀(vs:List Value) (i:Nat) (H:Heap),Zfg a i vs H (K ())->SemW P (storeCells a vs i) H K:=by
  intro vs;induction vs with
  | nil=>intro i H h;exact h
  | cons v vs ih=>
    intro i H h;obtain ⟨h1,h2,h3,h4⟩:=Zb.elim h;unfold storeCells;refine (SemW.bind _ _ _ _).2 ?_;rw [Zmp] at h2 h3 h4;exact ⟨h1,h2,h3,ih (i+1) _ h4⟩
def Zdv (P:Program) (t:TypeId) (a v:Value) (H:Heap) (K:Value->Heap->Prop):Prop:=
  match a with
  | .pointer (some a)=>Zz P t fun s=>match Nat.beq v.cells.toList.length s with
    | true=>Zfg a 0 v.cells.toList H fun H'=>K undef H'
    | false=>False
  | _=>False
theorem Zdv.sem {P:Program} {t:TypeId} {a v:Value} {H:Heap} {K:Value->Heap->Prop} (h:Zdv P t a v H K):SemW P (Instr.storeAt t a v) H (fun _ H'=>K undef H'):=by
  unfold Zdv at h;split at h
  . rename_i a;obtain ⟨s,hs,h⟩:=Zz.elim h;split at h
    . rename_i hl;have hl':=Nat.eq_of_beq_eq_true hl;change SemW P (storeVar t a v) H _;unfold storeVar;refine (SemW.bind _ _ _ _).2 (Zdi hs ?_);rw [if_neg (by simpa using hl')]
      exact Zfg.sem _ _ _ h
    exact h.elim
  exact h.elim
def Zhc (P:Program) (s:TypeId) (x:Value) (f:Nat) (H:Heap) (K:Value->Heap->Prop):Prop:=
  match P.underlying s,x with
  | some (.struct fs),.pointer (some a)=>match fs.toList[f]? with
    | some f=>Zz P f.type fun n=>match n with
      | 0=>False
      | _+1=>K (.pointer (some (padd a f.offset))) H
    | none=>False
  | _,_=>False
theorem Zhc.sem {P:Program} {s:TypeId} {x:Value} {f:Nat} {H:Heap} {K:Value->Heap->Prop} (h:Zhc P s x f H K):SemW P (Instr.fieldAt s x f) H K:=by
  unfold Zhc at h;split at h
  . rename_i fs a hu;split at h
    . rename_i fl hf;obtain ⟨n,hn,h⟩:=Zz.elim h;have hf':fs[f]? =some fl:=by simpa using hf
      unfold Instr.fieldAt;refine (SemW.bind _ _ _ _).2 (Zq hu ?_);change SemW P (match fs[f]? with | some f=>_ | _=>_) H K
      rw [hf'];change SemW P (fieldPlace a fl>>= fun p=>pure (.pointer (some p))) H K;refine (SemW.bind _ _ _ _).2 ?_;unfold fieldPlace;refine (SemW.bind _ _ _ _).2 (Zdi hn ?_);cases n with
      | zero=>exact h.elim
      | succ n=>
        rw [if_neg (by simp)]
        rw [Zmp] at h;exact h
    exact h.elim
  exact h.elim
def Zie (P:Program) (t:TypeId) (x:Value) (f:Nat) (H:Heap) (K:Value->Heap->Prop):Prop:=
  match P.underlying t,x with
  | some (.struct fs),.agg cs=>match fs.toList[f]? with
    | some f=>match Zdp P f.type with
      | some true=>Zz P f.type fun s=>K (.agg ⟨(cs.toList.drop f.offset).take s⟩) H
      | some false=>match cs.toList[f.offset]? with
        | some v=>K v H
        | none=>False
      | none=>False
    | none=>False
  | _,_=>False
theorem Zie.sem {P:Program} {t:TypeId} {x:Value} {f:Nat} {H:Heap} {K:Value->Heap->Prop} (h:Zie P t x f H K):SemW P (Instr.field t x f) H K:=by
  unfold Zie at h;split at h
  . rename_i fs cs hu;split at h
    . rename_i fl hf;have hf':fs[f]? =some fl:=by simpa using hf
      unfold Instr.field;refine (SemW.bind _ _ _ _).2 (Zq hu ?_);change SemW P (match fs[f]? with | some f=>_ | none=>_) H K
      rw [hf'];change SemW P (part fl.type cs fl.offset) H K;split at h;rename_i hA;obtain ⟨s,hs,h⟩:=Zz.elim h;exact Zjk (.inl ⟨s,hA,hs,h⟩);rename_i hA;split at h;rename_i v hv;exact Zjk (.inr ⟨v,hA,hv,h⟩);exact h.elim;exact h.elim
    exact h.elim
  exact h.elim
def Zpn:BinOp->Bool | .quo | .rem=>true | _=>false
def Zkg:BinOp->Bool | .shl | .shr=>true | _=>false
def isEq:BinOp->Bool | .eql | .neq=>true | _=>false
def EqW (P:Program) (op:BinOp) (t:TypeId) (x y:Value) (H:Heap) (K:Value->Heap->Prop):Prop:=
  match Zcr P 6 t x y with
  | some b=>match op with
    | .eql=>K (.bool b) H
    | _=>K (.bool (!b)) H
  | none=>False
def CatK (a b:ByteArray) (k:ByteArray->Prop):Prop:=((a.size+b.size:Nat):Int) <= IntKind.i64.max∧k (a++b)
def isLit:Operand->Bool
  | .const _=>true
  | _=>false
def BinW (P:Program) (lit:Bool) (op:BinOp) (t:TypeId) (x y:Value) (H:Heap) (K:Value->Heap->Prop):Prop:=
  match x,y with
  | .int k a,.int k' b=>match decide (k=k'),Zkg op with
    | _,true=>0 <= b∧SemW P (match op with | .shl=>pure (.int k (k.wrap (a*2^(min b.toNat k.bits)))) | _=>pure (.int k (a.fdiv (2^(min b.toNat k.bits))))) H K
    | true,false=>match Zpn op with
      | true=>b≠0∧SemW P (match op with | .quo=>pure (.int k (k.wrap (a.tdiv b))) | _=>pure (.int k (a.tmod b))) H K
      | false=>SemW P (match op with | .add | .sub | .mul=>Op.intArith op k a b | .and | .or | .xor | .andNot=>Op.intBits op k a b | _=>Op.intCmp op a b) H K
    | false,false=>False
  | .string a,.string b=>match op with
    | .add=>CatK a b fun s=>K (.string s) H
    | _=>SemW P (Op.stringOp op a b) H K
  | .agg _,.agg _=>match isEq op with
    | true=>P.eqGuardType P.depth t=false∧EqW P op t x y H K
    | false=>False
  | .pointer _,.pointer _=>match isEq op with
    | true=>EqW P op t x y H K
    | false=>False
  | .slice _ _ _,.slice _ _ _=>match isEq op with
    | true=>EqW P op t x y H K
    | false=>False
  | .bool _,.bool _=>match isEq op with
    | true=>EqW P op t x y H K
    | false=>False
  | .iface _ _,.nilIface=>match isEq op with
    | true=>EqW P op t x y H K
    | false=>False
  | .map _,.map _=>match isEq op with
    | true=>EqW P op t x y H K
    | false=>False
  | .nilFunc,.nilFunc=>match isEq op with
    | true=>EqW P op t x y H K
    | false=>False
  | .func _ _ _,.nilFunc=>match isEq op with
    | true=>EqW P op t x y H K
    | false=>False
  | .nilIface,.nilIface=>match isEq op with
    | true=>lit=true∧EqW P op t x y H K
    | false=>False
  | _,_=>False
theorem EqW.sem {P:Program} {op:BinOp} {t:TypeId} {x y:Value} {H:Heap} {K:Value->Heap->Prop} (he:isEq op=true) (h:EqW P op t x y H K):
    SemW P (match op with | .eql=>do pure (.bool (← Op.equal t x y)) | _=>do pure (.bool (!(← Op.equal t x y)))) H K:=by
  unfold EqW at h;split at h
  . rename_i b hb;have key: ∀K':Bool->Heap->Prop,K' b H->SemW P (Op.equal t x y) H K':=fun K' hk=>Zcbe 6 Op.maxDepth (by unfold Op.maxDepth;omega) t x y b H K' hb hk
    cases op<;>simp [isEq] at he;exact (SemW.bind _ _ _ _).2 (key _ h);exact (SemW.bind _ _ _ _).2 (key _ h)
  exact h.elim
def Zbnr:Value->Value->Bool
  | .nilIface,.nilIface=>false
  | .agg _,.agg _=>false
  | _,_=>true
theorem Zcma {P:Program} {op:BinOp} {t:TypeId} {ox oy:Operand} {x y:Value} {H:Heap} {K:Value->Heap->Prop} {s:Sem Value} (hm:Zbnr x y=true) (hs:SemW P s H K):
    SemW P (do eqGuard op t ox oy x y;s) H K:=by
  unfold eqGuard;cases op<;>first | exact hs | (cases x<;>cases y<;>first | exact hs | cases hm)
theorem BinW.sem {P:Program} {op:BinOp} {t:TypeId} {ox oy:Operand} {x y:Value} {H:Heap} {K:Value->Heap->Prop} (h:BinW P (isLit oy) op t x y H K):
    SemW P (do eqGuard op t ox oy x y;binOp op t x y) H K:=by
  have guard: ∀(s:Sem Value),Zbnr x y=true->SemW P s H K->SemW P (do eqGuard op t ox oy x y;s) H K:=fun s hm hs=>Zcma hm hs
  unfold BinW at h;split at h
  . rename_i k a k' b;refine guard _ rfl ?_;split at h
    . rename_i hs;obtain ⟨h0,h⟩:=h;cases op<;>simp [Zkg] at hs
      . change SemW P (if b<0 then _ else _) H K
        rw [if_neg (by omega)];exact h
      . change SemW P (if b<0 then _ else _) H K
        rw [if_neg (by omega)];exact h
    . rename_i hk hs;have hkk:k=k':=of_decide_eq_true hk;subst hkk;split at h
      . rename_i hd;obtain ⟨h0,h⟩:=h;cases op<;>simp [Zpn] at hd
        . change SemW P (if k≠k then _ else (if b=0 then _ else _)) H K
          rw [if_neg (by simp),if_neg h0];exact h
        . change SemW P (if k≠k then _ else (if b=0 then _ else _)) H K
          rw [if_neg (by simp),if_neg h0];exact h
      . rename_i hd;cases op<;>first | (simp [Zkg] at hs;done) | (simp [Zpn] at hd;done) | (change SemW P (if k≠k then _ else _) H K;rw [if_neg (by simp)];exact h)
    exact h.elim
  . refine guard _ rfl ?_;cases op<;>first | exact h | skip
    rename_i a b;change SemW P (if ((a.size+b.size:Nat):Int)>IntKind.i64.max then _ else _) H K
    rw [if_neg (by have:=h.1;omega)]
    exact h.2
  . rename_i xs ys;split at h
    . rename_i he;obtain ⟨hg,h⟩:=h;have h2:=EqW.sem he h;have: ∀s,SemW P s H K->SemW P (do eqGuard op t ox oy (.agg xs) (.agg ys);s) H K:=by
        intro s hs;unfold eqGuard;cases op<;>simp [isEq] at he
        . refine (SemW.bind _ _ _ _).2 ?_;change SemW P (if (!P.eqGuardType P.depth t)=true then _ else _) H _
          rw [hg];exact hs
        . refine (SemW.bind _ _ _ _).2 ?_;change SemW P (if (!P.eqGuardType P.depth t)=true then _ else _) H _
          rw [hg];exact hs
      refine this _ ?_;cases op<;>simp [isEq] at he<;>exact h2
    exact h.elim
  split at h;rename_i he;have h2:=EqW.sem he h;refine guard _ rfl ?_;cases op<;>simp [isEq] at he<;>exact h2;exact h.elim;split at h;rename_i he;have h2:=EqW.sem he h;refine guard _ rfl ?_;cases op<;>simp [isEq] at he<;>exact h2;exact h.elim;split at h;rename_i he;have h2:=EqW.sem he h;refine guard _ rfl ?_;cases op<;>simp [isEq] at he<;>exact h2;exact h.elim;split at h;rename_i he;have h2:=EqW.sem he h;refine guard _ rfl ?_;cases op<;>simp [isEq] at he<;>exact h2;exact h.elim;split at h;rename_i he;have h2:=EqW.sem he h;refine guard _ rfl ?_;cases op<;>simp [isEq] at he<;>exact h2;exact h.elim;split at h;rename_i he;have h2:=EqW.sem he h;refine guard _ rfl ?_;cases op<;>simp [isEq] at he<;>exact h2;exact h.elim;split at h;rename_i he;have h2:=EqW.sem he h;refine guard _ rfl ?_;cases op<;>simp [isEq] at he<;>exact h2;exact h.elim
  . split at h
    . rename_i he;obtain ⟨hl,h⟩:=h;have h2:=EqW.sem he h;cases oy with
      | tmp _=>simp [isLit] at hl
      | global _=>simp [isLit] at hl
      | func _=>simp [isLit] at hl
      | const v=>
        have: ∀s,SemW P s H K->SemW P (do eqGuard op t ox (.const v) .nilIface .nilIface;s) H K:=by intro s hs;unfold eqGuard;cases op<;>simp [isEq] at he;cases ox<;>exact hs;cases ox<;>exact hs
        refine this _ ?_;cases op<;>simp [isEq] at he<;>exact h2
    exact h.elim
  exact h.elim
def Zgh:List Leaf->List Value->(List Value->Prop)->Prop
  | [],acc,r=>r acc
  | l::ls,acc,r=>Zco l fun v=>Zgh ls (acc++[v]) r
theorem Zgh.elim {r:List Value->Prop}: ∀(ls:List Leaf) (acc:List Value),Zgh ls acc r->∃vs,r vs
  | [],acc,h=>⟨acc,h⟩
  | l::ls,acc,h=>by obtain ⟨v,h⟩:=Zco.elim h;exact Zgh.elim ls _ h
theorem Zgh.mono {r r':List Value->Prop} (hr: ∀v,r v->r' v): ∀(ls:List Leaf) (acc:List Value),Zgh ls acc r->Zgh ls acc r'
  | [],_,h=>hr _ h
  | _::ls,_,h=>Zco.mono (fun _ h=>Zgh.mono hr ls _ h) h
def Zet (P:Program) (t:TypeId) (r:Value->Prop):Prop:=
  match Zdp P t with
  | some true=>match Nat.ble (P.cellsOf t) 24 with
    | true=>Zgh (leaves P 6 t) [] fun vs=>r (.agg ⟨vs⟩)
    | false=>∃cs:List Value,r (.agg ⟨cs⟩)
  | _=>Zco (Zmm P t) r
def Zge (P:Program):List TypeId->List Value->(List Value->Prop)->Prop
  | [],acc,r=>r acc
  | t::ts,acc,r=>Zet P t fun v=>Zge P ts (acc++[v]) r
def tyEx (P:Program) (t:TypeId) (r:Value->Prop):Prop:=
  match P.underlying t with
  | some (.tuple ts)=>Zge P ts.toList [] fun vs=>r (.tuple ⟨vs⟩)
  | _=>Zet P t r
theorem Zet.elim {P:Program} {t:TypeId} {r:Value->Prop} (h:Zet P t r): ∃v,r v:=by unfold Zet at h;split at h;split at h;obtain ⟨vs,h⟩:=Zgh.elim _ _ h;exact ⟨_,h⟩;obtain ⟨cs,h⟩:=h;exact ⟨_,h⟩;exact Zco.elim h
theorem Zet.mono {P:Program} {t:TypeId} {r r':Value->Prop} (hr: ∀v,r v->r' v) (h:Zet P t r):Zet P t r':=by unfold Zet at*;split at h;split at h;exact Zgh.mono (fun _ h=>hr _ h) _ _ h;obtain ⟨cs,h⟩:=h;exact ⟨cs,hr _ h⟩;exact Zco.mono hr h
theorem Zge.elim {P:Program} {r:List Value->Prop}: ∀(ts:List TypeId) (acc:List Value),Zge P ts acc r->∃vs,r vs
  | [],acc,h=>⟨acc,h⟩
  | t::ts,acc,h=>by obtain ⟨v,h⟩:=Zet.elim h;exact Zge.elim ts _ h
theorem Zge.mono {P:Program} {r r':List Value->Prop} (hr: ∀v,r v->r' v): ∀(ts:List TypeId) (acc:List Value),Zge P ts acc r->Zge P ts acc r'
  | [],_,h=>hr _ h
  | _::ts,_,h=>Zet.mono (fun _ h=>Zge.mono hr ts _ h) h
theorem tyEx.elim {P:Program} {t:TypeId} {r:Value->Prop} (h:tyEx P t r): ∃v,r v:=by unfold tyEx at h;split at h;obtain ⟨vs,h⟩:=Zge.elim _ _ h;exact ⟨_,h⟩;exact Zet.elim h
theorem tyEx.mono {P:Program} {t:TypeId} {r r':Value->Prop} (hr: ∀v,r v->r' v) (h:tyEx P t r):tyEx P t r':=by unfold tyEx at*;split at h;exact Zge.mono (fun _ h=>hr _ h) _ _ h;exact Zet.mono hr h
def ofTy (P:Program) (t:TypeId) (K:Value->Heap->Prop) (v:Value) (H:Heap):Prop:=tyEx P t fun u=>v=u∧K u H
theorem ofTy.elim {P:Program} {t:TypeId} {K:Value->Heap->Prop} {v:Value} {H:Heap} (h:ofTy P t K v H):K v H:=by obtain ⟨u,rfl,h⟩:=tyEx.elim h;exact h
theorem ofTy.mono {P:Program} {t:TypeId} {K K':Value->Heap->Prop} (hk: ∀v H,K v H->K' v H) {v:Value} {H:Heap} (h:ofTy P t K v H):ofTy P t K' v H:=
  tyEx.mono (fun _ h=>⟨h.1,hk _ _ h.2⟩) h
def Zhe (P:Program) (t:TypeId):Bool:=match P.underlying t with | some (.int _)=>true | _=>false
def Zfj (P:Program) (s d ot:TypeId) (x:Value) (H:Heap) (K:Value->Heap->Prop):Prop:=
  match Zhe P s with
  | true=>match P.underlying d,x with
    | some (.int k),.int _ n=>K (.int k (k.wrap n)) H
    | _,_=>False
  | false=>SemW P (convert s d x) H (ofTy P ot K)
theorem Zfj.sem {P:Program} {s d ot:TypeId} {x:Value} {H:Heap} {K:Value->Heap->Prop} (h:Zfj P s d ot x H K):SemW P (convert s d x) H K:=by unfold Zfj at h;split at h;rename_i hs;split at h;rename_i k k' n h2;unfold Zhe at hs;split at hs;rename_i h1;unfold convert;refine (SemW.bind _ _ _ _).2 (Zq h1 ?_);exact (SemW.bind _ _ _ _).2 (Zq h2 h);cases hs;exact h.elim;exact SemW.mono _ _ _ _ (fun _ _ h=>ofTy.elim h) h
def AppW (P:Program) (ats:Array TypeId) (t:TypeId) (args:List Value) (H:Heap) (K:Value->Heap->Prop):Prop:=SemW P (Builtin.append_ ats t ⟨args⟩) H K
def Zgf (P:Program) (ats:Array TypeId) (t:TypeId) (args:List Value) (H:Heap) (K:Value->Heap->Prop):Prop:=SemW P (Builtin.copy_ ats t ⟨args⟩) H K
def Zij (P:Program) (t:TypeId) (l c:Value) (H:Heap) (K:Value->Heap->Prop):Prop:=SemW P (Instr.makeSlice t l c) H K
def LenW (P:Program) (t:Option TypeId) (x:Option Value) (H:Heap) (K:Value->Heap->Prop):Prop:=
  match t,x with
  | some t,some x=>match P.underlying t,x with
    | some .string,.string s=>K (goInt s.size) H
    | some (.array n _),_=>K (goInt n) H
    | some (.slice _),.slice _ n _=>K (goInt n) H
    | _,_=>False
  | _,_=>False
theorem LenW.sem {P:Program} {ats:Array TypeId} {t:TypeId} {args:List Value} {H:Heap} {K:Value->Heap->Prop} (h:LenW P ats.toList[0]? args[0]? H K):SemW P (Builtin.len_ ats t ⟨args⟩) H K:=by
  unfold LenW at h;split at h
  . rename_i t' x h1 h2;have h1':ats[0]? =some t':=by simpa using h1
    have h2':(⟨args⟩:Array Value)[0]? =some x:=by simpa using h2
    unfold Builtin.len_;rw [h1',h2'];split at h;rename_i s hu;exact (SemW.bind _ _ _ _).2 (Zq hu h);rename_i n e _ hu;exact (SemW.bind _ _ _ _).2 (Zq hu h);rename_i e a n c hu;exact (SemW.bind _ _ _ _).2 (Zq hu h);exact h.elim
  exact h.elim
def CapW (P:Program) (t:Option TypeId) (x:Option Value) (H:Heap) (K:Value->Heap->Prop):Prop:=
  match t,x with
  | some t,some x=>match P.underlying t,x with
    | some (.array n _),_=>K (goInt n) H
    | some (.slice _),.slice _ _ n=>K (goInt n) H
    | _,_=>False
  | _,_=>False
theorem CapW.sem {P:Program} {ats:Array TypeId} {t:TypeId} {args:List Value} {H:Heap} {K:Value->Heap->Prop} (h:CapW P ats.toList[0]? args[0]? H K):SemW P (Builtin.cap_ ats t ⟨args⟩) H K:=by
  unfold CapW at h;split at h
  . rename_i t' x h1 h2;have h1':ats[0]? =some t':=by simpa using h1
    have h2':(⟨args⟩:Array Value)[0]? =some x:=by simpa using h2
    unfold Builtin.cap_;rw [h1',h2'];split at h;rename_i n e _ hu;exact (SemW.bind _ _ _ _).2 (Zq hu h);rename_i e a n c hu;exact (SemW.bind _ _ _ _).2 (Zq hu h);exact h.elim
  exact h.elim
def Zgt (mx:Bool) (args:List Value) (H:Heap) (K:Value->Heap->Prop):Prop:=
  match args with
  | [.int k x,.int _ y]=>K (.int k (match mx with | true=>max x y | false=>min x y)) H
  | [.int k x,.int _ y,.int _ z]=>K (.int k (match mx with | true=>max (max x y) z | false=>min (min x y) z)) H
  | _=>False
theorem Zbht (x y:Int):(if y<x then y else x)=min x y:=by rw [Int.min_def];split<;>split<;>omega
theorem Zbaz (x y:Int):(if x<y then y else x)=max x y:=by rw [Int.max_def];split<;>split<;>omega
theorem Zgt.sem_min {P:Program} {ats:Array TypeId} {t:TypeId} {args:List Value} {H:Heap} {K:Value->Heap->Prop} (h:Zgt false args H K):SemW P (Builtin.min_ ats t ⟨args⟩) H K:=by
  unfold Zgt at h;split at h
  . rename_i k x _ y;change K (.int k (if y<x then y else x)) H
    rw [Zbht];exact h
  . rename_i k x _ y _ z;change K (.int k (if z<(if y<x then y else x) then z else (if y<x then y else x))) H
    rw [Zbht,Zbht];exact h
  exact h.elim
theorem Zgt.sem_max {P:Program} {ats:Array TypeId} {t:TypeId} {args:List Value} {H:Heap} {K:Value->Heap->Prop} (h:Zgt true args H K):SemW P (Builtin.max_ ats t ⟨args⟩) H K:=by
  unfold Zgt at h;split at h
  . rename_i k x _ y;change K (.int k (if x<y then y else x)) H
    rw [Zbaz];exact h
  . rename_i k x _ y _ z;change K (.int k (if (if x<y then y else x)<z then z else (if x<y then y else x))) H
    rw [Zbaz,Zbaz];exact h
  exact h.elim
def Zbcg (P:Program) (f:FuncId):Bool:=match P.funcs[f]? with
  | some fn=>fn.body.isNone
  | none=>false
def Zfx (P:Program) (f:FuncId) (t:TypeId) (args:Array Value) (H:Heap) (K:Value->Heap->Prop):Prop:=match Zbcg P f with
  | true=>SemW P (callFunc f args) H (Zbt P (ofTy P t K))
  | false=>FnW P f args H (ofTy P t K)
theorem Zfx.of_fn {P:Program} {f:FuncId} {t:TypeId} {args:Array Value} {H:Heap} {K:Value->Heap->Prop} (h:FnW P f args H (ofTy P t K)):Zfx P f t args H K:=by
  obtain ⟨fn,hf,_,hb⟩:=h.1;have e:Zbcg P f=false:=by unfold Zbcg;rw [hf];exact hb
  unfold Zfx;rw [e];exact h
theorem Zfx.sem {P:Program} {f:FuncId} {t:TypeId} {args:Array Value} {H:Heap} {K:Value->Heap->Prop} (h:Zfx P f t args H K):SemW P (callFunc f args) H (Zbt P K):=by
  unfold Zfx at h;split at h
  . refine SemW.mono _ _ _ _ (fun n H' hn=>?_) h;cases n<;>simp only [Zbt] at hn ⊢ <;>first | exact ofTy.elim hn | exact FnW.mono hn (fun _ _ h=>ofTy.elim h) | exact hn.mono (fun _ _ h=>ofTy.elim h) | exact hn.elim
  exact Zbgu h.1 (h.mono fun _ _ h=>h.elim)
def ExtW (P:Program) (f:FuncId) (args:Array Value) (H:Heap) (K:Value->Heap->Prop):Prop:=SemW P (callFunc f args) H (Zbt P K)
def Zhm (P:Program):Option TypeId->Bool
  | some t=>(match P.underlying t with
    | some (.map _ _)=>true
    | _=>false)
  | none=>false
def Zgb (P:Program) (o:Oper) (c:Call) (ρ:Env) (H:Heap) (K:Value->Heap->Prop):Prop:=
  match c.callee with
  | .value (.func f)=>Zfx P f o.type ⟨c.args.toList.map (ev ρ)⟩ H K
  | .builtin .len=>match Zhm P c.argTypes.toList[0]? with
    | false=>LenW P c.argTypes.toList[0]? (c.args.toList.map (ev ρ))[0]? H K
    | true=>SemW P (Builtin.len_ c.argTypes o.type ⟨c.args.toList.map (ev ρ)⟩) H (ofTy P o.type K)
  | .builtin .delete=>SemW P (Builtin.delete_ c.argTypes o.type ⟨c.args.toList.map (ev ρ)⟩) H K
  | .builtin .clear=>SemW P (Builtin.clear_ c.argTypes o.type ⟨c.args.toList.map (ev ρ)⟩) H K
  | .builtin .unsafeString=>SemW P (Builtin.unsafeString_ c.argTypes o.type ⟨c.args.toList.map (ev ρ)⟩) H (ofTy P o.type K)
  | .builtin .unsafeSliceData=>SemW P (Builtin.unsafeSliceData_ c.argTypes o.type ⟨c.args.toList.map (ev ρ)⟩) H (ofTy P o.type K)
  | .builtin .cap=>CapW P c.argTypes.toList[0]? (c.args.toList.map (ev ρ))[0]? H K
  | .builtin .append=>AppW P c.argTypes o.type (c.args.toList.map (ev ρ)) H (ofTy P o.type K)
  | .builtin .copy=>Zgf P c.argTypes o.type (c.args.toList.map (ev ρ)) H (ofTy P o.type K)
  | .builtin .min=>Zgt false (c.args.toList.map (ev ρ)) H K
  | .builtin .max=>Zgt true (c.args.toList.map (ev ρ)) H K
  | .value (.tmp t)=>match Ziy (ρ t) with
    | .yield l=>Zfq P l (c.args.toList.map (ev ρ)) H (ofTy P o.type K)
    | .fn f caps=>FnW P f ⟨c.args.toList.map (ev ρ)++caps⟩ H (ofTy P o.type K)
    | .bnd f first caps=>FnW P f ⟨first++(c.args.toList.map (ev ρ)++caps)⟩ H (ofTy P o.type K)
    | .other=>SemW P (do let d ← resolve (ev ρ) c o.type;invoke d.target d.args) H (Zbt P K)
  | _=>SemW P (do let d ← resolve (ev ρ) c o.type;invoke d.target d.args) H (Zbt P K)
theorem Zced {v:Value} {l:Nat} (h:Ziy v= .yield l): ∃caps,v= .func (.yield l) #[] caps:=by unfold Ziy at h;split at h;cases h;exact ⟨_,rfl⟩;cases h;cases h;cases h
theorem Zcub {v:Value} {f:FuncId} {caps:List Value} (h:Ziy v= .fn f caps):v= .func (.func f) #[] ⟨caps⟩:=by unfold Ziy at h;split at h;cases h;cases h;rfl;cases h;cases h
theorem Zcir {v:Value} {f:FuncId} {first caps:List Value} (h:Ziy v= .bnd f first caps):v= .func (.func f) ⟨first⟩ ⟨caps⟩:=by unfold Ziy at h;split at h;cases h;cases h;cases h;rfl;cases h
theorem Zfl (ρ:Env) (l:Array Operand):l.map (ev ρ)=⟨l.toList.map (ev ρ)⟩:=by apply Array.ext';simp
theorem Zgb.sem {P:Program} {o:Oper} {c:Call} {ρ:Env} {H:Heap} {K:Value->Heap->Prop} (h:Zgb P o c ρ H K):
    SemW P (do let d ← resolve (ev ρ) c o.type;invoke d.target d.args) H (Zbt P K):=by
  unfold Zgb at h;split at h
  . rename_i f hc;unfold resolve;simp only [hc,Zfl];change SemW P (callFunc f (#[]++⟨c.args.toList.map (ev ρ)⟩++#[])) H _;have:(#[]++(⟨c.args.toList.map (ev ρ)⟩:Array Value)++#[])=⟨c.args.toList.map (ev ρ)⟩:=by simp
    rw [this];exact h.sem
  rename_i hc;unfold resolve;simp only [hc,Zfl];split at h;change SemW P (Builtin.len_ c.argTypes o.type ⟨c.args.toList.map (ev ρ)⟩>>= fun v=>pure (Next.value v)) H _;exact (SemW.bind _ _ _ _).2 (LenW.sem h);change SemW P (Builtin.len_ c.argTypes o.type ⟨c.args.toList.map (ev ρ)⟩>>= fun v=>pure (Next.value v)) H _;exact (SemW.bind _ _ _ _).2 (SemW.mono _ _ _ _ (fun _ _ h=>ofTy.elim h) h);rename_i hc;unfold resolve;simp only [hc,Zfl];change SemW P (Builtin.delete_ c.argTypes o.type ⟨c.args.toList.map (ev ρ)⟩>>= fun v=>pure (Next.value v)) H _;exact (SemW.bind _ _ _ _).2 h;rename_i hc;unfold resolve;simp only [hc,Zfl];change SemW P (Builtin.clear_ c.argTypes o.type ⟨c.args.toList.map (ev ρ)⟩>>= fun v=>pure (Next.value v)) H _;exact (SemW.bind _ _ _ _).2 h;rename_i hc;unfold resolve;simp only [hc,Zfl];change SemW P (Builtin.unsafeString_ c.argTypes o.type ⟨c.args.toList.map (ev ρ)⟩>>= fun v=>pure (Next.value v)) H _;exact (SemW.bind _ _ _ _).2 (SemW.mono _ _ _ _ (fun _ _ h=>ofTy.elim h) h);rename_i hc;unfold resolve;simp only [hc,Zfl];change SemW P (Builtin.unsafeSliceData_ c.argTypes o.type ⟨c.args.toList.map (ev ρ)⟩>>= fun v=>pure (Next.value v)) H _;exact (SemW.bind _ _ _ _).2 (SemW.mono _ _ _ _ (fun _ _ h=>ofTy.elim h) h);rename_i hc;unfold resolve;simp only [hc,Zfl];change SemW P (Builtin.cap_ c.argTypes o.type ⟨c.args.toList.map (ev ρ)⟩>>= fun v=>pure (Next.value v)) H _;exact (SemW.bind _ _ _ _).2 (CapW.sem h);rename_i hc;unfold resolve;simp only [hc,Zfl];change SemW P (Builtin.append_ c.argTypes o.type ⟨c.args.toList.map (ev ρ)⟩>>= fun v=>pure (Next.value v)) H _;exact (SemW.bind _ _ _ _).2 (SemW.mono _ _ _ _ (fun _ _ h=>ofTy.elim h) h);rename_i hc;unfold resolve;simp only [hc,Zfl];change SemW P (Builtin.copy_ c.argTypes o.type ⟨c.args.toList.map (ev ρ)⟩>>= fun v=>pure (Next.value v)) H _;exact (SemW.bind _ _ _ _).2 (SemW.mono _ _ _ _ (fun _ _ h=>ofTy.elim h) h);rename_i hc;unfold resolve;simp only [hc,Zfl];change SemW P (Builtin.min_ c.argTypes o.type ⟨c.args.toList.map (ev ρ)⟩>>= fun v=>pure (Next.value v)) H _;exact (SemW.bind _ _ _ _).2 (Zgt.sem_min h);rename_i hc;unfold resolve;simp only [hc,Zfl];change SemW P (Builtin.max_ c.argTypes o.type ⟨c.args.toList.map (ev ρ)⟩>>= fun v=>pure (Next.value v)) H _;exact (SemW.bind _ _ _ _).2 (Zgt.sem_max h)
  . rename_i t hc;split at h
    . rename_i l hy;obtain ⟨caps,hv⟩:=Zced hy;obtain ⟨r,h1,h2,h3,h4⟩:=h;unfold resolve;simp only [hc,Zfl];change SemW P (do let d ← Deferred.ofValue (ρ t) ⟨c.args.toList.map (ev ρ)⟩;invoke d.target d.args) H _
      rw [hv];change SemW P (Instr.yield l (#[]++⟨c.args.toList.map (ev ρ)⟩)) H _;have:(#[]++(⟨c.args.toList.map (ev ρ)⟩:Array Value))=⟨c.args.toList.map (ev ρ)⟩:=by simp
      rw [this];unfold Instr.yield;refine (SemW.bind _ _ _ _).2 ?_;unfold Instr.getLoop;refine (SemW.bind _ _ _ _).2 ?_;refine ⟨_,h1,rfl,?_⟩;have hsz:(⟨c.args.toList.map (ev ρ)⟩:Array Value).size=r.params.size:=h3;change SemW P (if (⟨c.args.toList.map (ev ρ)⟩:Array Value).size≠r.params.size then _ else _) H _
      rw [if_neg (by rw [hsz];simp)]
      change RndW P l r.fn ((r.params.zip ⟨c.args.toList.map (ev ρ)⟩).foldl (fun tmps (x:Tmp×Value)=>tmps.setIfInBounds x.1 x.2) r.tmps) r.assign r.body H K;have e:(r.params.zip ⟨c.args.toList.map (ev ρ)⟩).foldl (fun tmps (x:Tmp×Value)=>tmps.setIfInBounds x.1 x.2) r.tmps=Zip r.params.toList (c.args.toList.map (ev ρ)) r.tmps:=by
        rw [← Zbtx _ _ _ (by rw [h3];simp),← Array.foldl_toList]
        simp
      rw [e];exact h4.mono fun _ _ h=>ofTy.elim h
    . rename_i f caps hy;have hv:=Zcub hy;unfold resolve;simp only [hc,Zfl];change SemW P (do let d ← Deferred.ofValue (ρ t) ⟨c.args.toList.map (ev ρ)⟩;invoke d.target d.args) H _
      rw [hv];change SemW P (callFunc f (#[]++⟨c.args.toList.map (ev ρ)⟩++⟨caps⟩)) H _;have:(#[]++(⟨c.args.toList.map (ev ρ)⟩:Array Value)++⟨caps⟩)=⟨c.args.toList.map (ev ρ)++caps⟩:=by simp
      rw [this];exact Zbgu h.1 (h.mono fun _ _ h=>h.elim)
    . rename_i f first caps hy
      have hv:=Zcir hy;unfold resolve;simp only [hc,Zfl];change SemW P (do let d ← Deferred.ofValue (ρ t) ⟨c.args.toList.map (ev ρ)⟩;invoke d.target d.args) H _
      rw [hv];change SemW P (callFunc f (⟨first⟩++⟨c.args.toList.map (ev ρ)⟩++⟨caps⟩)) H _
      have:((⟨first⟩:Array Value)++(⟨c.args.toList.map (ev ρ)⟩:Array Value)++⟨caps⟩)=⟨first++(c.args.toList.map (ev ρ)++caps)⟩:=by simp
      rw [this];exact Zbgu h.1 (h.mono fun _ _ h=>h.elim)
    exact h
  exact h
def UnW (P:Program) (op:UnOp) (x:Value) (H:Heap) (K:Value->Heap->Prop):Prop:=
  match x with
  | .bool _ | .int _ _=>SemW P (Op.unary op x) H K
  | _=>False
theorem UnW.sem {P:Program} {op:UnOp} {x:Value} {H:Heap} {K:Value->Heap->Prop} (h:UnW P op x H K):SemW P (Op.unary op x) H K:=by unfold UnW at h;split at h;exact h;exact h;exact h.elim
def Zgq (P:Program) (o:Oper) (ρ:Env) (H:Heap) (K:Value->Heap->Prop):Prop:=match o.op with
  | .makeFunc (.func f) ⟨[]⟩ captured=>K (.func (.func f) #[] ⟨captured.toList.map (ev ρ)⟩) H
  | .makeFunc (.func f) ⟨d::ds⟩ ⟨captured⟩=>K (.func (.func f) ⟨(d::ds).map (ev ρ)⟩ ⟨captured.map (ev ρ)⟩) H
  | _=>SemW P (execOp (ev ρ) o) H (Zbt P K)
theorem Zgq.sem {P:Program} {o:Oper} {ρ:Env} {H:Heap} {K:Value->Heap->Prop} (h:Zgq P o ρ H K):SemW P (execOp (ev ρ) o) H (Zbt P K):=by
  unfold Zgq at h;split at h
  . rename_i f captured ho;unfold execOp;simp only [ho];have e0:Array.map (ev ρ) (⟨[]⟩:Array Operand)= #[]:=by apply Array.ext';simp
    have key:K (.func (.func f) (Array.map (ev ρ) ⟨[]⟩) (Array.map (ev ρ) captured)) H:=by
      have e:captured.map (ev ρ)=⟨captured.toList.map (ev ρ)⟩:=by apply Array.ext';simp
      rw [e,e0];exact h
    exact key
  . rename_i f d ds captured ho;unfold execOp;simp only [ho];have key:K (.func (.func f) (Array.map (ev ρ) ⟨d::ds⟩) (Array.map (ev ρ) ⟨captured⟩)) H:=by
      have e0:Array.map (ev ρ) (⟨d::ds⟩:Array Operand)=⟨(d::ds).map (ev ρ)⟩:=by apply Array.ext';simp
      have e:Array.map (ev ρ) (⟨captured⟩:Array Operand)=⟨captured.map (ev ρ)⟩:=by apply Array.ext';simp
      rw [e,e0];exact h
    exact key
  exact h
def NxW (P:Program) (it:Value) (s:Bool) (t:TypeId) (H:Heap) (K:Value->Heap->Prop):Prop:=
  SemW P (Instr.next it s t) H fun v H'=>∃(b:Bool) (vs:List Value),v= .tuple ⟨.bool b::vs⟩∧K (.tuple ⟨.bool b::vs⟩) H'
theorem NxW.sem {P:Program} {it:Value} {s:Bool} {t:TypeId} {H:Heap} {K:Value->Heap->Prop} (h:NxW P it s t H K):SemW P (Instr.next it s t) H K:=
  SemW.mono _ _ _ _ (fun _ _ ⟨_,_,e,h⟩=>by rw [e];exact h) h
theorem NxW.mono {P:Program} {it:Value} {s:Bool} {t:TypeId} {H:Heap} {K K':Value->Heap->Prop} (hk: ∀v H,K v H->K' v H) (h:NxW P it s t H K):NxW P it s t H K':=
  SemW.mono _ _ _ _ (fun _ _ ⟨b,vs,e,h⟩=>⟨b,vs,e,hk _ _ h⟩) h
def Zclw (P:Program):Bool:=(List.range P.types.size).all fun t=>match P.underlying t with
  | some (.map k e)=>(match P.underlying k,P.underlying e with
    | some (.int .i64),some (.int .i64)=>true
    | _,_=>false)
  | _=>true
def EnW (P:Program) (it:Value) (H:Heap) (K:Value->Heap->Prop):Prop:=match Zclw P with
  | true=>SemW P (Instr.entry it) H fun v H'=>∃k x:Int,v= .tuple ⟨[.int .i64 k,.int .i64 x]⟩∧K (.tuple ⟨[.int .i64 k,.int .i64 x]⟩) H'
  | false=>SemW P (Instr.entry it) H fun v H'=>∃k x:Value,v= .tuple ⟨[k,x]⟩∧K (.tuple ⟨[k,x]⟩) H'
theorem EnW.sem {P:Program} {it:Value} {H:Heap} {K:Value->Heap->Prop} (h:EnW P it H K):SemW P (Instr.entry it) H K:=by
  unfold EnW at h;split at h;exact SemW.mono _ _ _ _ (fun _ _ ⟨_,_,e,h⟩=>by rw [e];exact h) h
  exact SemW.mono _ _ _ _ (fun _ _ ⟨_,_,e,h⟩=>by rw [e];exact h) h
theorem EnW.mono {P:Program} {it:Value} {H:Heap} {K K':Value->Heap->Prop} (hk: ∀v H,K v H->K' v H) (h:EnW P it H K):EnW P it H K':=by unfold EnW at h ⊢;split at h;exact SemW.mono _ _ _ _ (fun _ _ ⟨k,x,e,h⟩=>⟨k,x,e,hk _ _ h⟩) h;exact SemW.mono _ _ _ _ (fun _ _ ⟨k,x,e,h⟩=>⟨k,x,e,hk _ _ h⟩) h
def OpW (P:Program) (o:Oper) (ρ:Env) (H:Heap) (K:Value->Heap->Prop):Prop:=
  match o.op with
  | .move x=>K (ev ρ x) H
  | .assign x=>K (ev ρ x) H
  | .pick c a b=>match ev ρ c with
    | .bool t=>K (match t with | true=>ev ρ a | false=>ev ρ b) H
    | _=>False
  | .load t a=>Zbh P t (ev ρ a) H K
  | .store t a v=>Zdv P t (ev ρ a) (ev ρ v) H K
  | .nilCheck x=>match ev ρ x with
    | .pointer p=>NilP p fun a=>K (.pointer (some a)) H
    | _=>False
  | .indexAddr t x i=>Zfd P t (ev ρ x) (ev ρ i) H K
  | .index t x i=>IdxW P t (ev ρ x) (ev ρ i) H K
  | .slice t x lo hi mx=>Zem P t (ev ρ x) (lo.map (ev ρ)) (hi.map (ev ρ)) (mx.map (ev ρ)) H K
  | .build t parts=>match Zrx P t (parts.toList.map fun p=>(p.1,ev ρ p.2)) with
    | some l=>K (.agg ⟨l⟩) H
    | none=>False
  | .buildSlice t len parts=>match P.underlying t with
    | some (.slice e)=>match rowL P e len (parts.toList.map fun p=>(p.1,ev ρ p.2)) with
      | some l=>∀n,H n=none->K (.slice (some ⟨n,0,none⟩) len len) (H.upd n (.cells ⟨l⟩ e))
      | none=>False
    | _=>False
  | .alloc t=>match Zcx P t with
    | some l=>∀n,H n=none->K (.pointer (some ⟨n,0,none⟩)) (H.upd n (.cells ⟨l⟩ t))
    | none=>False
  | .box t v=>∀n,H n=none->K (.pointer (some ⟨n,0,none⟩)) (H.upd n (.cells (ev ρ v).cells t))
  | .binOp op t x y _=>BinW P (isLit y) op t (ev ρ x) (ev ρ y) H K
  | .convert s d x=>Zfj P s d o.type (ev ρ x) H K
  | .makeSlice t l c=>Zij P t (ev ρ l) (ev ρ c) H (ofTy P o.type K)
  | .fieldAddr s x f=>Zhc P s (ev ρ x) f H K
  | .field t x f=>Zie P t (ev ρ x) f H K
  | .extract t ix=>match ev ρ t with
    | .tuple vs=>match vs.toList[ix]? with
      | some v=>K v H
      | none=>False
    | _=>False
  | .call c=>Zgb P o c ρ H K
  | .unOp op _ x=>UnW P op (ev ρ x) H K
  | .makeFunc _ _ _=>Zgq P o ρ H K
  | .lookup t x i ok=>SemW P (Instr.lookup t (ev ρ x) (ev ρ i) ok) H (ofTy P o.type K)
  | .next it s=>NxW P (ev ρ it) s o.type H K
  | .entry it=>EnW P (ev ρ it) H K
  | .select _ _=>False
  | _=>SemW P (execOp (ev ρ) o) H (Zbt P K)
theorem parts_eq (ρ:Env) (l:Array (Nat×Operand)):(l.map fun (i,x)=>(i,ev ρ x)).toList=l.toList.map fun p=>(p.1,ev ρ p.2):=by simp
theorem OpW.sem {P:Program} {o:Oper} {ρ:Env} {H:Heap} {K:Value->Heap->Prop} (h:OpW P o ρ H K):SemW P (execOp (ev ρ) o) H (Zbt P K):=by
  unfold OpW at h;unfold execOp;split at h<;>rename_i ho<;>simp only [ho];exact h;exact h
  . split at h
    . rename_i t ht;rw [ht];change K (if t=true then _ else _) H
      cases t<;>exact h
    exact h.elim
  exact (SemW.bind _ _ _ _).2 (Zbh.sem h);exact (SemW.bind _ _ _ _).2 (Zdv.sem h);split at h;rename_i p hp;rw [hp];obtain ⟨a,rfl,h⟩:=NilP.elim h;exact h;exact h.elim;exact (SemW.bind _ _ _ _).2 (Zfd.sem h);exact (SemW.bind _ _ _ _).2 (IdxW.sem h);exact (SemW.bind _ _ _ _).2 (Zem.sem h)
  . split at h;rename_i l hl;exact (SemW.bind _ _ _ _).2 (Zcis (by rw [parts_eq];exact hl) h)
    exact h.elim
  . split at h
    . rename_i e hu;split at h;rename_i l hl;exact (SemW.bind _ _ _ _).2 (Zcgo hu (by rw [parts_eq];exact hl) h)
      exact h.elim
    exact h.elim
  split at h;rename_i l hl;refine (SemW.bind _ _ _ _).2 ?_;unfold Instr.alloc;refine (SemW.bind _ _ _ _).2 (Zhq hl fun v hv=>?_);refine (SemW.bind _ _ _ _).2 ?_;unfold newVar;rw [hv];exact Zjd h;exact h.elim;refine (SemW.bind _ _ _ _).2 ?_;exact (SemW.bind _ _ _ _).2 (Zjd h);exact (SemW.bind _ _ _ _).2 (BinW.sem h);exact (SemW.bind _ _ _ _).2 (Zfj.sem h);exact (SemW.bind _ _ _ _).2 (SemW.mono _ _ _ _ (fun _ _ h=>ofTy.elim h) h);exact (SemW.bind _ _ _ _).2 (Zhc.sem h);exact (SemW.bind _ _ _ _).2 (Zie.sem h);split at h;rename_i vs hv;rw [hv];refine (SemW.bind _ _ _ _).2 ?_;unfold Instr.extract;split at h;rename_i v hx;simp only [Array.getElem?_toList] at hx;simp only [hx];exact h;exact h.elim;exact h.elim;exact Zgb.sem h;exact (SemW.bind _ _ _ _).2 (UnW.sem h);have:=Zgq.sem h;unfold execOp at this;simp only [ho] at this;exact this;exact (SemW.bind _ _ _ _).2 (SemW.mono _ _ _ _ (fun _ _ h=>ofTy.elim h) h);exact (SemW.bind _ _ _ _).2 (NxW.sem h);exact (SemW.bind _ _ _ _).2 (EnW.sem h);exact h.elim;unfold execOp at h;exact h
end Go.Sh
end
section
namespace Go.Sh
def Zhu (o:Oper):List Tmp:=o.op.operands.toList.filterMap fun x=>match x with | .tmp t=>some t | _=>none
def gdst (all:Array Oper) (j:Nat):Option Tmp:=match all.toList[j]? with | some o=>o.dst | none=>none
def looks (all:Array Oper) (o:Oper):List Tmp:=match o.guard with
  | some (j,_)=>match gdst all j with
    | some d=>d::Zhu o
    | none=>Zhu o
  | none=>Zhu o
def Zey (all:Array Oper) (o:Oper) (ρ:Env):Bool:=match o.guard with
  | none=>true
  | some (j,want)=>match gdst all j with
    | some d=>match ρ d with
      | .bool b=>b==want
      | _=>false
    | none=>false
def GW (all:Array Oper) (S:Oper->Env->Heap->(Value->Heap->Prop)->Prop) (o:Oper) (ρ:Env) (H:Heap) (K:Env->Heap->Prop):Prop:=
  match Zey all o ρ with
  | true=>S o ρ H fun v H'=>K (put ρ o.dst v) H'
  | false=>K (put ρ o.dst undef) H
def GWs (all:Array Oper) (S:Oper->Env->Heap->(Value->Heap->Prop)->Prop):List Oper->Env->Heap->(Env->Heap->Prop)->Prop
  | [],ρ,H,K=>K ρ H
  | o::os,ρ,H,K=>GW all S o ρ H fun ρ' H'=>GWs all S os ρ' H' K
def OpG (all:Array Oper) (S:Oper->Env->Heap->(Value->Heap->Prop)->Prop) (o:Oper) (ρ:Env) (H:Heap) (K:Env->Heap->Prop):Prop:=
  match o.guard with
  | none=>S o ρ H fun v H'=>K (put ρ o.dst v) H'
  | some (j,want)=>match gdst all j with
    | some d=>match ρ d with
      | .bool b=>IfB b
          (match want with
            | true=>S o (put ρ (some d) (.bool true)) H fun v H'=>K (put (put ρ (some d) (.bool true)) o.dst v) H'
            | false=>K (put (put ρ (some d) (.bool true)) o.dst undef) H)
          (match want with
            | false=>S o (put ρ (some d) (.bool false)) H fun v H'=>K (put (put ρ (some d) (.bool false)) o.dst v) H'
            | true=>K (put (put ρ (some d) (.bool false)) o.dst undef) H)
      | _=>K (put ρ o.dst undef) H
    | none=>K (put ρ o.dst undef) H
def OpsL (all:Array Oper) (S:Oper->Env->Heap->(Value->Heap->Prop)->Prop):List Oper->Env->Heap->(Env->Heap->Prop)->Prop
  | [],ρ,H,K=>K ρ H
  | o::os,ρ,H,K=>OpG all S o ρ H fun ρ' H'=>OpsL all S os ρ' H' K
theorem Ziw {ρ:Env} {d:Tmp} {v:Value} (h:ρ d=v):put ρ (some d) v=ρ:=by
  funext i;simp only [put];cases hb:Nat.beq i d with
  | false=>rfl
  | true=>rw [Nat.eq_of_beq_eq_true hb,h]
theorem OpG.plain {all:Array Oper} {S:Oper->Env->Heap->(Value->Heap->Prop)->Prop} {o:Oper} {ρ:Env} {H:Heap} {K:Env->Heap->Prop} (h:OpG all S o ρ H K):GW all S o ρ H K:=by
  unfold OpG at h;unfold GW Zey;cases hg:o.guard with
  | none=>rw [hg] at h;exact h
  | some g=>
    obtain ⟨j,want⟩:=g;rw [hg] at h;simp only at h ⊢;cases hd:gdst all j with
    | none=>rw [hd] at h;exact h
    | some d=>
      rw [hd] at h;simp only at h ⊢;cases hr:ρ d<;>rw [hr] at h<;>simp only at h ⊢ <;>try exact h
      rename_i b;rcases IfB.elim h with ⟨rfl,h⟩ | ⟨rfl,h⟩;rw [Ziw hr] at h;cases want<;>exact h;rw [Ziw hr] at h;cases want<;>exact h
structure Nice (S:Oper->Env->Heap->(Value->Heap->Prop)->Prop):Prop where
  mono: ∀o ρ H K K',(∀v H',K v H'->K' v H')->S o ρ H K->S o ρ H K'
  congr: ∀o ρ ρ' H K,(∀t∈Zhu o,ρ t=ρ' t)->S o ρ H K->S o ρ' H K
theorem GW.mono {all:Array Oper} {S} (N:Nice S) {o:Oper} {ρ:Env} {H:Heap} {K K':Env->Heap->Prop} (hk: ∀ρ H,K ρ H->K' ρ H) (h:GW all S o ρ H K):GW all S o ρ H K':=by unfold GW at*;split at h;exact N.mono _ _ _ _ _ (fun _ _ h=>hk _ _ h) h;exact hk _ _ h
theorem GWs.mono {all:Array Oper} {S} (N:Nice S) {K K':Env->Heap->Prop} (hk: ∀ρ H,K ρ H->K' ρ H): ∀(l:List Oper) (ρ:Env) (H:Heap),GWs all S l ρ H K->GWs all S l ρ H K':=by
  intro l;induction l with
  | nil=>exact fun ρ H h=>hk _ _ h
  | cons o os ih=>exact fun ρ H h=>GW.mono N (fun ρ H h=>ih ρ H h) h
theorem OpsL.plain {all:Array Oper} {S} (N:Nice S) {K:Env->Heap->Prop}: ∀(l:List Oper) (ρ:Env) (H:Heap),OpsL all S l ρ H K->GWs all S l ρ H K:=by
  intro l;induction l with
  | nil=>exact fun ρ H h=>h
  | cons o os ih=>exact fun ρ H h=>GW.mono N (fun ρ H h=>ih ρ H h) (OpG.plain h)
def Zxw (S:Oper->Env->Heap->(Value->Heap->Prop)->Prop) (x y:Oper):Prop:=
  ∀(ρ:Env) (H:Heap) (K:Value->Value->Heap->Prop),S x ρ H (fun v H1=>S y ρ H1 (fun u H2=>K v u H2))->S y ρ H (fun u H1=>S x ρ H1 (fun v H2=>K v u H2))
def Znb (all:Array Oper) (x y:Oper):Bool:=
  (match x.dst with
   | some d=>!(looks all y).contains d&& !(match y.dst with | some e=>Nat.beq e d | none=>false)
   | none=>true)&&
  (match y.dst with
   | some d=>!(looks all x).contains d
   | none=>true)
theorem Zlc {ρ:Env} {d:Option Tmp} {v:Value} {t:Tmp} (h: ∀e,d=some e->e≠t):put ρ d v t=ρ t:=by
  cases d with
  | none=>rfl
  | some d=>
    simp only [put];have:Nat.beq t d=false:=by
      cases hb:Nat.beq t d with
      | false=>rfl
      | true=>exact absurd (Nat.eq_of_beq_eq_true hb).symm (h d rfl)
    rw [this]
theorem put_comm {ρ:Env} {x y:Option Tmp} {v u:Value} (h: ∀d,x=some d->y≠some d):put (put ρ x v) y u=put (put ρ y u) x v:=by
  cases x with
  | none=>rfl
  | some d=>
    cases y with
    | none=>rfl
    | some e=>
      have hne:e≠d:=fun he=>h d rfl (by rw [he])
      funext i;simp only [put];cases h1:Nat.beq i e with
      | false=>rfl
      | true=>
        have hie:=Nat.eq_of_beq_eq_true h1;have:Nat.beq i d=false:=by
          cases hb:Nat.beq i d with
          | false=>rfl
          | true=>exact absurd (hie.symm.trans (Nat.eq_of_beq_eq_true hb)) hne
        rw [this]
theorem Zctm {all:Array Oper} {x y:Oper} (h:Znb all x y=true):
    (∀d,x.dst=some d->d∉looks all y)∧(∀d,x.dst=some d->y.dst≠some d)∧(∀d,y.dst=some d->d∉looks all x):=by
  simp only [Znb,Bool.and_eq_true] at h;obtain ⟨h1,h2⟩:=h;refine ⟨fun d hd=>?_,fun d hd he=>?_,fun d hd=>?_⟩;rw [hd] at h1;simp only [Bool.and_eq_true] at h1;simpa using h1.1;rw [hd,he] at h1;simp only [Bool.and_eq_true] at h1;have:=h1.2;simp at this;rw [hd] at h2;simpa using h2
theorem Zvc {all:Array Oper} {o:Oper} {t:Tmp} (h:t∈Zhu o):t∈looks all o:=by unfold looks;split;split;exact List.mem_cons_of_mem _ h;exact h;exact h
theorem wanted_put {all:Array Oper} {o:Oper} {ρ:Env} {d:Option Tmp} {v:Value} (h: ∀e,d=some e->e∉looks all o):Zey all o (put ρ d v)=Zey all o ρ:=by
  unfold Zey;unfold looks at h;cases hg:o.guard with
  | none=>rfl
  | some g=>
    obtain ⟨j,want⟩:=g;rw [hg] at h;simp only at h ⊢;cases hd:gdst all j with
    | none=>rfl
    | some e=>
      rw [hd] at h;simp only at h ⊢;rw [Zlc (fun e' he'=>fun heq=>h e' he' (by rw [heq];exact List.mem_cons_self))]
theorem GW.swap {all:Array Oper} {S} (N:Nice S) {x y:Oper} (ha:Znb all x y=true) (hs:Zxw S x y) {ρ:Env} {H:Heap} {K:Env->Heap->Prop}
    (h:GW all S x ρ H fun ρ' H'=>GW all S y ρ' H' K):GW all S y ρ H fun ρ' H'=>GW all S x ρ' H' K:=by
  obtain ⟨a1,a2,a3⟩:=Zctm ha;have wy: ∀v,Zey all y (put ρ x.dst v)=Zey all y ρ:=fun v=>wanted_put a1;have wx: ∀v,Zey all x (put ρ y.dst v)=Zey all x ρ:=fun v=>wanted_put a3;have cy: ∀v H K,S y (put ρ x.dst v) H K->S y ρ H K:=fun v H K h=>N.congr _ _ _ _ _ (fun t ht=>Zlc fun e he heq=>a1 e he (heq▸Zvc ht)) h;have cx: ∀v H K,S x ρ H K->S x (put ρ y.dst v) H K:=fun v H K h=>N.congr _ _ _ _ _ (fun t ht=>(Zlc fun e he heq=>a3 e he (heq▸Zvc ht)).symm) h;have pc: ∀v u,put (put ρ x.dst v) y.dst u=put (put ρ y.dst u) x.dst v:=fun v u=>put_comm a2;unfold GW at h ⊢;cases hx:Zey all x ρ with
  | true=>
    rw [hx] at h;simp only [wy] at h;cases hy:Zey all y ρ with
    | true=>
      rw [hy] at h;simp only at h ⊢;have h1:S x ρ H fun v H1=>S y ρ H1 fun u H2=>K (put (put ρ x.dst v) y.dst u) H2:=N.mono _ _ _ _ _ (fun v H1 h=>cy v _ _ h) h;have h2:=hs ρ H (fun v u H2=>K (put (put ρ x.dst v) y.dst u) H2) h1;refine N.mono _ _ _ _ _ (fun u H1 h=>?_) h2;rw [wx,hx];simp only;refine cx u _ _ (N.mono _ _ _ _ _ (fun v H2 h=>?_) h);rw [← pc];exact h
    | false=>
      rw [hy] at h;simp only at h ⊢;rw [wx,hx];simp only;refine cx _ _ _ (N.mono _ _ _ _ _ (fun v H2 h=>?_) h);rw [← pc];exact h
  | false=>
    rw [hx] at h;simp only [wy] at h;cases hy:Zey all y ρ with
    | true=>
      rw [hy] at h;simp only at h ⊢;refine N.mono _ _ _ _ _ (fun u H1 h=>?_) (cy _ _ _ h);rw [wx,hx];simp only;rw [← pc];exact h
    | false=>
      rw [hy] at h;simp only at h ⊢;rw [wx,hx];simp only;rw [← pc];exact h
theorem GWs.front {all:Array Oper} {S} (N:Nice S) {y:Oper} {K:Env->Heap->Prop} (l2:List Oper): ∀(l1:List Oper),(∀x∈l1,Znb all x y=true∧Zxw S x y)->∀(ρ:Env) (H:Heap),
    GWs all S (l1++y::l2) ρ H K->GWs all S (y::(l1++l2)) ρ H K:=by
  intro l1;induction l1 with
  | nil=>exact fun _ ρ H h=>h
  | cons x l1 ih=>
    intro hl ρ H h;have h1:GW all S x ρ H fun ρ' H'=>GW all S y ρ' H' fun ρ'' H''=>GWs all S (l1++l2) ρ'' H'' K:=
      GW.mono N (fun ρ' H' h=>ih (fun x hx=>hl x (List.mem_cons_of_mem _ hx)) ρ' H' h) h
    exact GW.swap N (hl x List.mem_cons_self).1 (hl x List.mem_cons_self).2 h1
def Zcs (o:Oper):List Nat:=o.after.toList.filterMap fun e=>match Region.binds .any e with | true=>some e.on | false=>none
def masks:List Oper->List Nat->List Nat
  | [],acc=>acc
  | o::os,acc=>masks os (acc++[(Zcs o).foldl (fun s p=>s||| 2^p||| acc.getD p 0) 0])
def Zpr (P:Program) (s d:TypeId):Bool:=match P.underlying s,P.underlying d with
  | some (.slice e),some .string=>(match P.underlying e with | some (.int .u8)=>true | _=>false)
  | _,_=>false
def rank (P:Program) (o:Oper):Nat:=match o.op with
  | .move _ | .assign _ | .pick _ _ _ | .nilCheck _ | .indexAddr _ _ _ | .index _ _ _ | .slice _ _ _ _ _ | .build _ _ | .fieldAddr _ _ _ | .field _ _ _ | .extract _ _ | .binOp _ _ _ _ _ | .unOp _ _ _=>0
  | .load t _=>match szOf P t with | some (_+1)=>1 | _=>4
  | .alloc _ | .box _ _ | .buildSlice _ _ _ | .makeSlice _ _ _=>2
  | .convert s d _=>match Zhe P s with | true=>0 | false=>match Zpr P s d with | true=>5 | false=>3
  | .store _ _ _=>3
  | .call c=>match c.callee with
    | .builtin .len=>(match Zhm P c.argTypes.toList[0]? with | false=>0 | true=>4)
    | .builtin .cap | .builtin .min | .builtin .max=>0
    | .builtin .append | .builtin .copy=>3
    | _=>4
  | _=>4
end Go.Sh
end
section
namespace Go.Sh
theorem Zbxn {l:Leaf} {r:Value->Prop} (h:Zco l r): ∃v,r v∧∀r':Value->Prop,r' v->Zco l r':=by
  cases l with
  | int k=>obtain ⟨n,h⟩:=h;exact ⟨_,h,fun r' h'=>⟨_,h'⟩⟩
  | bool=>obtain ⟨n,h⟩:=h;exact ⟨_,h,fun r' h'=>⟨_,h'⟩⟩
  | str=>obtain ⟨n,h⟩:=h;exact ⟨_,h,fun r' h'=>⟨_,h'⟩⟩
  | ptr=>obtain ⟨n,h⟩:=h;exact ⟨_,h,fun r' h'=>⟨_,h'⟩⟩
  | slice=>obtain ⟨a,b,c,h⟩:=h;exact ⟨_,h,fun r' h'=>⟨_,_,_,h'⟩⟩
  | any=>obtain ⟨v,h⟩:=h;exact ⟨_,h,fun r' h'=>⟨_,h'⟩⟩
theorem Zcel {H:Heap} {a:Addr} {K:List Value->Prop}: ∀(ls:List Leaf) (i:Nat) (acc:List Value),Zgr H a i ls acc K->
    ∃vs,K vs∧∀(H':Heap) (K':List Value->Prop),(∀p:Addr,p.block=a.block->∀v,H.cell p=some v->H'.cell p=some v)->K' vs->Zgr H' a i ls acc K':=by
  intro ls;induction ls with
  | nil=>exact fun i acc h=>⟨acc,h,fun _ _ _ h'=>h'⟩
  | cons l ls ih=>
    intro i acc h;obtain ⟨v,⟨hv,h⟩,hl⟩:=Zbxn h;obtain ⟨vs,hk,hr⟩:=ih _ _ h;refine ⟨vs,hk,fun H' K' hb hk'=>hl _ ⟨hb _ ?_ _ hv,hr H' K' hb hk'⟩⟩;cases i<;>rfl
theorem Zbh.read {P:Program} {t:TypeId} {x:Value} {H:Heap} {K:Value->Heap->Prop} (h:Zbh P t x H K):
    ∃v,K v H∧∀(H':Heap) (K':Value->Heap->Prop),(∀q,x= .pointer (some q)->∀p:Addr,p.block=q.block->∀v,H.cell p=some v->H'.cell p=some v)->K' v H'->Zbh P t x H' K':=by
  unfold Zbh at h;split at h;rename_i a;split at h;rename_i hb;obtain ⟨v,⟨hv,hk⟩,hl⟩:=Zbxn h;refine ⟨v,hk,fun H' K' hs hk'=>?_⟩;simp only [Zbh,hb];exact hl _ ⟨hs a rfl _ rfl _ hv,hk'⟩;rename_i hb;split at h;rename_i hc;obtain ⟨vs,hk,hr⟩:=Zcel _ _ _ h;refine ⟨_,hk,fun H' K' hs hk'=>?_⟩;simp only [Zbh,hb,hc];exact hr H' _ (hs a rfl) hk';rename_i hc;obtain ⟨cs,hl,hcs,hk⟩:=h;refine ⟨_,hk,fun H' K' hs hk'=>?_⟩;simp only [Zbh,hb,hc];refine ⟨cs,hl,fun j hj=>?_,hk'⟩;have:=hcs j hj;rw [List.getElem?_eq_getElem hj] at this ⊢;refine hs a rfl _ ?_ _ this;unfold Addr.add;split<;>rfl;exact h.elim;exact h.elim
theorem Zbtd {l:Leaf} {o:Option Value} {r r':Value->Prop} (h:Zco l fun v=>o=some v∧r v) (h':Zco l fun v=>o=some v∧r' v): ∃v,o=some v∧r v∧r' v:=by obtain ⟨v,hv,hr⟩:=Zco.elim h;obtain ⟨v',hv',hr'⟩:=Zco.elim h';rw [hv] at hv';cases hv';exact ⟨v,hv,hr,hr'⟩
theorem Zcor {H:Heap} {a:Addr} {K K':List Value->Prop}: ∀(ls:List Leaf) (i:Nat) (acc:List Value),Zgr H a i ls acc K->Zgr H a i ls acc K'->∃vs,K vs∧K' vs:=by
  intro ls;induction ls with
  | nil=>exact fun i acc h h'=>⟨acc,h,h'⟩
  | cons l ls ih=>
    intro i acc h h';obtain ⟨v,_,hr,hr'⟩:=Zbtd h h';exact ih _ _ hr hr'
theorem Zbh.det {P:Program} {t:TypeId} {x:Value} {H:Heap} {K K':Value->Heap->Prop} (h:Zbh P t x H K) (h':Zbh P t x H K'): ∃v,K v H∧K' v H:=by
  unfold Zbh at h h';cases x<;>first | exact h.elim | skip
  rename_i a;cases a with
  | none=>exact h.elim
  | some a=>
    simp only at h h';split at h;rename_i hb;rw [hb] at h';obtain ⟨v,_,hr,hr'⟩:=Zbtd h h';exact ⟨v,hr,hr'⟩
    . rename_i hb;rw [hb] at h';simp only at h';split at h;rename_i hc;rw [hc] at h';obtain ⟨vs,hr,hr'⟩:=Zcor _ _ _ h h';exact ⟨_,hr,hr'⟩
      . rename_i hc;rw [hc] at h';obtain ⟨cs,hl,hcs,hk⟩:=h;obtain ⟨cs',hl',hcs',hk'⟩:=h';have:cs=cs':=by
          apply List.ext_getElem?
          intro j;by_cases hj:j<cs.length;rw [← hcs j hj,← hcs' j (by omega)]
          rw [List.getElem?_eq_none (by omega),List.getElem?_eq_none (by omega)]
        subst this;exact ⟨_,hk,hk'⟩
    exact h.elim
theorem Zbh.there {P:Program} {t:TypeId} {p:Addr} {H:Heap} {K:Value->Heap->Prop} {n:Nat} (hs:szOf P t=some (n+1)) (h:Zbh P t (.pointer (some p)) H K):H p.block≠none:=by
  have some_of: ∀(q:Addr) (v:Value),q.block=p.block->H.cell q=some v->H p.block≠none:=by intro q v hq hv e;simp only [Heap.cell,hq,e] at hv;cases hv
  unfold Zbh at h;simp only at h;have hc:P.cellsOf t=n+1:=by
    unfold szOf at hs;cases hi:P.info? t with
    | none=>rw [hi] at hs;cases hs
    | some i=>rw [hi] at hs;simp only [Option.some.injEq] at hs;simp [Program.cellsOf,hi,hs]
  split at h;obtain ⟨v,hv,_⟩:=Zco.elim h;exact some_of _ _ rfl hv
  . split at h
    . rename_i hb;simp only [Bool.and_eq_true] at hb;have hl:=Nat.eq_of_beq_eq_true hb.2;rw [hc] at hl;cases hls:leaves P 6 t with
      | nil=>rw [hls] at hl;simp at hl
      | cons l ls=>
        rw [hls] at h;obtain ⟨v,hv,_⟩:=Zco.elim h;exact some_of _ _ rfl hv
    . obtain ⟨cs,hl,hcs,_⟩:=h;have h0:=hcs 0 (by omega)
      rw [List.getElem?_eq_getElem (by omega)] at h0
      exact some_of _ _ (by unfold Addr.add;rfl) h0
  exact h.elim
theorem cell_some {H:Heap} {a:Addr} {v:Value} (h:H.cell a=some v):H a.block≠none:=by intro e;simp only [Heap.cell,e] at h;cases h
def Zby (W:Heap->(Value->Heap->Prop)->Prop):Prop:=∃(ok:Prop) (v:Value),∀H K,W H K↔(ok∧K v H)
def ReadW (W:Heap->(Value->Heap->Prop)->Prop):Prop:=∃blk:Nat,∀H K,W H K->H blk≠none∧∃v,∀H' K',H' blk=H blk->(W H' K'↔K' v H')
theorem Zbx {v:Value}:Zby (fun H K=>K v H):=⟨True,v,fun _ _=>⟨fun h=>⟨trivial,h⟩,fun h=>h.2⟩⟩
theorem Zbd:Zby (fun _ _=>False):=⟨False,undef,fun _ _=>⟨fun h=>h.elim,fun h=>h.1.elim⟩⟩
theorem Zir {c:Prop} {W:Heap->(Value->Heap->Prop)->Prop} (h:Zby W):Zby (fun H K=>c∧W H K):=by obtain ⟨ok,v,h⟩:=h;exact ⟨c∧ok,v,fun H K=>by show (c∧W H K)↔_;rw [h];exact ⟨fun h=>⟨⟨h.1,h.2.1⟩,h.2.2⟩,fun h=>⟨h.1.1,h.1.2,h.2⟩⟩⟩
theorem Zbez {P:Program} {op:BinOp} {t:TypeId} {x y:Value}:Zby (EqW P op t x y):=by
  unfold EqW;cases Zcr P 6 t x y with
  | none=>exact Zbd
  | some b=>cases op<;>exact Zbx
theorem Zks {P:Program} {lit:Bool} {op:BinOp} {t:TypeId} {x y:Value} (h: ∀H K,BinW P lit op t x y H K=EqW P op t x y H K):Zby (BinW P lit op t x y):=by
  have:BinW P lit op t x y=EqW P op t x y:=by funext H K;exact h H K
  rw [this];exact Zbez
theorem Zcdn {P:Program} {lit:Bool} {op:BinOp} {t:TypeId} {x y:Value}:Zby (BinW P lit op t x y):=by
  cases x<;>cases y
  case int.int k a k' b=>
    unfold BinW;simp only;cases hs:Zkg op with
    | true=>
      cases hk:decide (k=k')<;>simp only<;>(cases op<;>first | (cases hs;done) | exact Zir Zbx)
    | false=>
      cases hk:decide (k=k')<;>simp only;exact Zbd
      . cases hd:Zpn op with
        | true=>cases op<;>first | (cases hd;done) | exact Zir Zbx
        | false=>cases op<;>first | (cases hs;done) | (cases hd;done) | exact Zbx
  case string.string a b=>
    unfold BinW;cases op<;>simp only [Op.stringOp]<;>first | exact Zbx | exact Zbd | exact Zir Zbx
  case agg.agg=>cases op<;>first | exact Zbd | exact Zir Zbez
  case bool.bool=>cases op<;>first | exact Zbd | exact Zks fun _ _=>rfl
  case pointer.pointer=>cases op<;>first | exact Zbd | exact Zks fun _ _=>rfl
  case slice.slice=>cases op<;>first | exact Zbd | exact Zks fun _ _=>rfl
  case iface.nilIface=>cases op<;>first | exact Zbd | exact Zks fun _ _=>rfl
  case nilIface.nilIface=>cases op<;>first | exact Zbd | exact Zir Zbez
  case map.map=>cases op<;>first | exact Zbd | exact Zks fun _ _=>rfl
  case nilFunc.nilFunc=>cases op<;>first | exact Zbd | exact Zks fun _ _=>rfl
  case func.nilFunc=>cases op<;>first | exact Zbd | exact Zks fun _ _=>rfl
  all_goals exact Zbd
theorem Zbvx {p:Option Addr} {W:Addr->Heap->(Value->Heap->Prop)->Prop} (h: ∀a,Zby (W a)):Zby (fun H K=>NilP p fun a=>W a H K):=by
  cases p with
  | none=>exact Zbd
  | some a=>exact h a
theorem Zsr {n:Int} {len:Nat} {W:Nat->Heap->(Value->Heap->Prop)->Prop} (h: ∀a,Zby (W a)):Zby (fun H K=>InB n len fun a=>W a H K):=
  Zir (Zir (h _))
theorem Zbyt {n:Int} {len:Nat} {W:Nat->Heap->(Value->Heap->Prop)->Prop} (h: ∀a,Zby (W a)):Zby (fun H K=>InC n len fun a=>W a H K):=
  Zir (Zir (h _))
theorem Zig {hi:Option Value} {len cap:Nat} {W:Nat->Heap->(Value->Heap->Prop)->Prop} (h: ∀a,Zby (W a)):Zby (fun H K=>slHi hi len cap fun a=>W a H K):=by
  cases hi with
  | none=>exact h _
  | some v=>cases v<;>first | exact Zbd | exact Zbyt h
theorem Zix {P:Program} {t:TypeId} {W:Nat->Heap->(Value->Heap->Prop)->Prop} (h: ∀a,Zby (W a)):Zby (fun H K=>Zz P t fun a=>W a H K):=by
  unfold Zz;cases szOf P t with
  | none=>exact Zbd
  | some s=>exact h s
theorem Zblf {a:Addr} {m s:Nat} {W:Addr->Heap->(Value->Heap->Prop)->Prop} (h: ∀a,Zby (W a)):Zby (fun H K=>elemAt a m s fun a=>W a H K):=by
  unfold elemAt;cases a.spot with
  | none=>exact h _
  | some s=>exact Zbd
theorem Zctz {P:Program} {t:TypeId} {x i:Value}:Zby (Zfd P t x i):=by unfold Zfd;split;exact Zix fun s=>Zsr fun m=>Zblf fun a=>Zbx;exact Zix fun s=>Zbvx fun a=>Zsr fun m=>Zblf fun a=>Zbx;exact Zbd
theorem Zcjl {P:Program} {t:TypeId} {x i:Value}:Zby (IdxW P t x i):=by unfold IdxW;split;exact Zsr fun m=>Zbx;refine Zix fun s=>Zsr fun m=>?_;split;exact Zbx;split;exact Zbx;exact Zbd;exact Zbd;exact Zbd
theorem Zcrk {P:Program} {t:TypeId} {x:Value} {lo hi mx:Option Value}:Zby (Zem P t x lo hi mx):=by
  unfold Zem;split;exact Zig fun h=>Zig fun l=>Zbx
  . refine Zix fun s=>Zig fun h=>?_;cases lo with
    | none=>exact Zbx
    | some v=>exact Zig fun l=>Zbx
  . refine Zix fun s=>Zig fun h=>?_;cases lo with
    | none=>exact Zbx
    | some v=>exact Zig fun l=>Zbx
  . refine Zix fun s=>?_;cases hi with
    | none=>exact Zbd
    | some hv=>exact Zig fun m=>Zig fun h=>Zig fun l=>Zbx
  exact Zbd
theorem Zcon {P:Program} {s:TypeId} {x:Value} {f:Nat}:Zby (Zhc P s x f):=by
  unfold Zhc;split
  . split
    . refine Zix fun n=>?_;cases n with
      | zero=>exact Zbd
      | succ n=>exact Zbx
    exact Zbd
  exact Zbd
theorem Zchg {P:Program} {s:TypeId} {x:Value} {f:Nat}:Zby (Zie P s x f):=by unfold Zie;split;split;split;exact Zix fun n=>Zbx;split;exact Zbx;exact Zbd;exact Zbd;exact Zbd;exact Zbd
theorem Zcid {P:Program} {t:Option TypeId} {x:Option Value}:Zby (LenW P t x):=by
  unfold LenW;split
  . split<;>first | exact Zbx | exact Zbd
  exact Zbd
theorem Zcsd {P:Program} {t:Option TypeId} {x:Option Value}:Zby (CapW P t x):=by
  unfold CapW;split
  . split<;>first | exact Zbx | exact Zbd
  exact Zbd
theorem Zcpj {b:Bool} {args:List Value}:Zby (Zgt b args):=by unfold Zgt;split;exact Zbx;exact Zbx;exact Zbd
theorem Zcou {P:Program} {op:UnOp} {x:Value}:Zby (UnW P op x):=by
  cases x<;>first | exact Zbd | skip
  . cases op<;>first | exact Zbx | exact Zbd
  . cases op<;>first | exact Zbx | exact Zbd
theorem Zbyu {P:Program} {s d ot:TypeId} {x:Value} (hs:Zhe P s=true):Zby (Zfj P s d ot x):=by unfold Zfj;rw [hs];simp only;split;exact Zbx;exact Zbd
theorem OpW.pure0 {P:Program} {o:Oper} (hr:rank P o=0) (ρ:Env):Zby (OpW P o ρ):=by
  unfold rank at hr;unfold OpW;cases ho:o.op<;>rw [ho] at hr<;>simp only at hr ⊢ <;>first | (cases hr;done) | skip
  case load t a=>split at hr<;>cases hr
  case move=>exact Zbx
  case assign=>exact Zbx
  case pick c a b=>
    split;exact Zbx;exact Zbd
  case nilCheck=>
    split;exact Zbvx fun a=>Zbx;exact Zbd
  case binOp=>exact Zcdn
  case unOp=>exact Zcou
  case convert s d x=>
    cases hs:Zhe P s with
    | true=>exact Zbyu hs
    | false=>rw [hs] at hr;cases hb:Zpr P s d<;>rw [hb] at hr<;>cases hr
  case slice=>exact Zcrk
  case fieldAddr=>exact Zcon
  case field=>exact Zchg
  case indexAddr=>exact Zctz
  case index=>exact Zcjl
  case build=>
    split;exact Zbx;exact Zbd
  case extract=>
    split;split;exact Zbx;exact Zbd;exact Zbd
  case call c=>
    unfold Zgb;cases hc:c.callee with
    | value f=>rw [hc] at hr;cases hr
    | invoke r m=>rw [hc] at hr;cases hr
    | builtin b=>
      rw [hc] at hr;cases b<;>simp only at hr ⊢ <;>first | (cases hr;done) | exact Zcsd | exact Zcpj | skip
      cases hm:Zhm P c.argTypes.toList[0]? with
      | false=>exact Zcid
      | true=>rw [hm] at hr;cases hr
theorem OpW.read1 {P:Program} {o:Oper} (hr:rank P o=1) (ρ:Env):ReadW (OpW P o ρ):=by
  unfold rank at hr;unfold OpW;cases ho:o.op<;>rw [ho] at hr<;>simp only at hr ⊢ <;>first | (cases hr;done) | skip
  case load t a=>
    generalize ev ρ a=x;refine ⟨match x with | .pointer (some p)=>p.block | _=>0,fun H K h=>?_⟩
    have hx: ∃p,x= .pointer (some p):=by unfold Zbh at h;split at h;exact ⟨_,rfl⟩;exact h.elim
    obtain ⟨p,rfl⟩:=hx;simp only;obtain ⟨v,hk,hl⟩:=Zbh.read h;have blockOf: ∀{H H':Heap},H' p.block=H p.block->∀q,(Value.pointer (some p))= .pointer (some q)->∀p':Addr,p'.block=q.block->∀v,H.cell p'=some v->H'.cell p'=some v:=by intro H H' hb q hq p' hp' v hv;cases hq;simp only [Heap.cell,hp',hb] at hv ⊢;exact hv
    cases hsz:szOf P t with
    | none=>rw [hsz] at hr;cases hr
    | some n=>
      cases n with
      | zero=>rw [hsz] at hr;cases hr
      | succ n=>
      refine ⟨Zbh.there hsz h,v,fun H' K' hb=>⟨fun h'=>?_,fun hk'=>hl H' K' (blockOf hb) hk'⟩⟩;obtain ⟨v',hv',hl'⟩:=Zbh.read h';have h2:=hl' H (fun u _=>u=v') (blockOf hb.symm) rfl;have h3:=hl H (fun u _=>u=v) (blockOf rfl) rfl;obtain ⟨u,h4,h5⟩:=Zbh.det h2 h3;subst h4;subst h5;exact hv'
  case convert s d x=>cases hs:Zhe P s<;>rw [hs] at hr<;>first | (cases hr;done) | (cases hb:Zpr P s d<;>rw [hb] at hr<;>cases hr)
  case call c=>
    exfalso;cases hc:c.callee with
    | value f=>rw [hc] at hr;cases hr
    | invoke r m=>rw [hc] at hr;cases hr
    | builtin b=>rw [hc] at hr;cases b<;>first | (cases hr;done) | (cases hm:Zhm P c.argTypes.toList[0]? <;>simp only [hm] at hr<;>cases hr)
def Zgp (P:Program) {α:Type}:Sem α->Prop
  | .halt _=>True
  | .program k=>Zgp P (k P)
  | .mark _ k=>Zgp P k
  | .choose _ k=>∀t,Zgp P (k t)
  | _=>False
def Zcn (P:Program):Sem Value->Prop
  | .new _ k=>∃l c:Nat,∀n,k n= .pure (.slice (some ⟨n,0,none⟩) l c)
  | .program k=>Zcn P (k P)
  | .mark _ k=>Zcn P k
  | .choose _ k=>∀t,Zgp P (k t)
  | .halt _=>True
  | _=>False
theorem Zgp.no {P:Program} {α:Type} {K:α->Heap->Prop}: ∀(s:Sem α) (H:Heap),Zgp P s->¬SemW P s H K
  | .halt _,_,_,h=>h
  | .program k,H,d,h=>Zgp.no (k P) H d h
  | .mark _ k,H,d,h=>Zgp.no k H d h
  | .choose q k,H,d,h=>by
    cases hq:q.forced with
    | true=>exact Zgp.no (k 0) H (d 0) (h.1 hq)
    | false=>exact Zgp.no (k (q.cut 0)) H (d _) (h.2 hq 0)
theorem Zcn.iff {P:Program}: ∀(s:Sem Value),Zcn P s->∃(ok:Prop) (l c:Nat) (obj:Obj),∀(H:Heap) (K:Value->Heap->Prop),SemW P s H K↔(ok∧∀n,H n=none->K (.slice (some ⟨n,0,none⟩) l c) (H.upd n obj))
  | .new o k,⟨l,c,hv⟩=>⟨True,l,c,o,fun H K=>⟨fun h=>⟨trivial,fun n hn=>by have:=h n hn;rw [hv n] at this;exact this⟩,fun h n hn=>by rw [hv n];exact h.2 n hn⟩⟩
  | .program k,h=>Zcn.iff (k P) h
  | .mark _ k,h=>Zcn.iff k h
  | .choose q k,h=>⟨False,0,0,default,fun H K=>⟨fun h'=>by
      cases hq:q.forced with
      | true=>exact (Zgp.no (k 0) H (h 0) (h'.1 hq)).elim
      | false=>exact (Zgp.no (k (q.cut 0)) H (h _) (h'.2 hq 0)).elim,fun h'=>h'.1.elim⟩⟩
  | .halt _,_=>⟨False,0,0,default,fun H K=>⟨fun h=>h.elim,fun h=>h.1.elim⟩⟩
theorem Zcrc {P:Program} {t:TypeId} {f:TypeDesc->Sem Value} (h: ∀d,P.underlying t=some d->Zcn P (f d)):Zcn P (underlying t>>= f):=by
  unfold underlying;show Zcn P ((match P.underlying t with | some d=>pure d | none=>stuck "no such type")>>= f)
  cases hu:P.underlying t with
  | none=>trivial
  | some d=>exact h d hu
theorem Zcpo {P:Program} {t:TypeId} {f:TypeInfo->Sem Value} (h: ∀i,P.info? t=some i->Zcn P (f i)):Zcn P (typeInfo t>>= f):=by
  unfold typeInfo;show Zcn P ((match P.info? t with | some d=>pure d | none=>stuck "no such type")>>= f)
  cases hu:P.info? t with
  | none=>trivial
  | some d=>exact h d hu
theorem Zbsi {P:Program} {t:TypeId} {f:Value->Sem Value} (h: ∀v,Zcn P (f v)):Zcn P (zeroValue t>>= f):=by
  unfold zeroValue typeInfo;show Zcn P (((match P.info? t with | some d=>pure d | none=>stuck "no such type")>>= fun i=>match i.zero with | some v=>pure v | none=>unsupported (.resourceLimit "a value of more than 2^22 cells"))>>= f)
  cases hu:P.info? t with
  | none=>trivial
  | some d=>
    show Zcn P ((match d.zero with | some v=>pure v | none=>unsupported (.resourceLimit "a value of more than 2^22 cells"))>>= f)
    cases hz:d.zero with
    | none=>trivial
    | some v=>exact h v
theorem Zbmy {P:Program} {t:TypeId} {f:Nat->Sem Value} (h: ∀v,Zcn P (f v)):Zcn P (sizeOf t>>= f):=by
  unfold sizeOf typeInfo;show Zcn P (((match P.info? t with | some d=>pure d | none=>stuck "no such type")>>= fun i=>pure i.size)>>= f)
  cases hu:P.info? t with
  | none=>trivial
  | some d=>exact h d.size
theorem Zbqg {P:Program} {v:Value} {f:Int->Sem Value} (h: ∀n,Zcn P (f n)):Zcn P (asInt v>>= f):=by
  unfold asInt asIntOf;cases v with
  | int k n=>exact h n
  | pointer a=>cases a<;>trivial
  | _=>trivial
theorem Zcho (P:Program) (t:TypeId) (l c:Value):Zcn P (Instr.makeSlice t l c):=by
  unfold Instr.makeSlice;refine Zcrc fun d _=>?_;cases d<;>first | trivial | skip
  refine Zbqg fun len=>Zbqg fun cap=>Zcpo fun i hi=>?_;simp only;split;split;trivial;split;trivial;exact fun _=>trivial
  . unfold askRoom
    have key: ∀(n:Nat) (z:Array Value) (len cap:Nat) (e:TypeId),Zcn P (newRow e ((Array.range n).map (z[· %z.size]!))>>= fun a=>pure (Value.slice (some a) len cap)):=by intro n z len cap e;exact ⟨len,cap,fun n=>rfl⟩
    split;show Zcn P (sizeOf _>>= _);refine Zbmy fun s=>?_;split;exact key _ _ _ _ _;exact Zbsi fun z=>key _ _ _ _ _;show Zcn P (sizeOf _>>= _);refine Zbmy fun s=>?_;split;exact key _ _ _ _ _;exact Zbsi fun z=>key _ _ _ _ _
theorem Zbua {P:Program} {t:TypeId} {a a':Option Addr} {l c:Nat} (h:tyEx P t fun u=>Value.slice a l c=u):tyEx P t fun u=>Value.slice a' l c=u:=by
  unfold tyEx at h ⊢;split;rename_i hu;rw [hu] at h;obtain ⟨vs,h⟩:=Zge.elim _ _ h;cases h
  . rename_i hu;split at h;rename_i ts hu';exact absurd hu' (hu ts)
    . unfold Zet at h ⊢;split at h;split at h;obtain ⟨vs,h⟩:=Zgh.elim _ _ h;cases h;obtain ⟨vs,h⟩:=h;cases h
      . cases hl:Zmm P t<;>rw [hl] at h<;>simp only [Zco] at h ⊢
        case slice=>exact ⟨_,_,_,rfl⟩
        case any=>exact ⟨_,rfl⟩
        case str=>obtain ⟨_,h⟩:=h;cases h
        case int=>obtain ⟨_,h⟩:=h;cases h
        case bool=>obtain ⟨_,h⟩:=h;cases h
        case ptr=>obtain ⟨_,h⟩:=h;cases h
theorem Zcsz (P:Program) (t ot:TypeId) (l c:Value): ∃(ok:Prop) (val:Nat->Value) (obj:Obj),∀(H:Heap) (K:Value->Heap->Prop),Zij P t l c H (ofTy P ot K)↔(ok∧∀n,H n=none->K (val n) (H.upd n obj)):=by
  obtain ⟨ok,l',c',obj,h⟩:=Zcn.iff (Instr.makeSlice t l c) (Zcho P t l c);by_cases hv:tyEx P ot fun u=>Value.slice (some ⟨0,0,none⟩) l' c'=u;refine ⟨ok,fun n=> .slice (some ⟨n,0,none⟩) l' c',obj,fun H K=>?_⟩;unfold Zij;rw [h];refine ⟨fun ⟨h1,h2⟩=>⟨h1,fun n hn=>ofTy.elim (h2 n hn)⟩,fun ⟨h1,h2⟩=>⟨h1,fun n hn=>?_⟩⟩;exact tyEx.mono (fun u hu=>⟨hu,by rw [← hu];exact h2 n hn⟩) (Zbua hv)
  refine ⟨False,fun _=>undef,default,fun H K=>⟨fun h'=>?_,fun h=>h.1.elim⟩⟩;unfold Zij at h';rw [h] at h';obtain ⟨n0,hf⟩:=H.fin;exact absurd (Zbua (tyEx.mono (fun u hu=>hu.1) (h'.2 n0 (hf n0 (Nat.le_refl _))))) hv
theorem OpW.new2 {P:Program} {o:Oper} (hr:rank P o=2) (ρ:Env):
    ∃(ok:Prop) (val:Nat->Value) (obj:Obj),∀H K,OpW P o ρ H K↔(ok∧∀n,H n=none->K (val n) (H.upd n obj)):=by
  unfold rank at hr;unfold OpW;cases ho:o.op<;>rw [ho] at hr<;>simp only at hr ⊢ <;>first | (cases hr;done) | skip
  case load t a=>split at hr<;>cases hr
  case alloc t=>
    cases hz:Zcx P t with
    | some l=>exact ⟨True,_,_,fun H K=>⟨fun h=>⟨trivial,h⟩,fun h=>h.2⟩⟩
    | none=>exact ⟨False,fun _=>undef,default,fun H K=>⟨fun h=>h.elim,fun h=>h.1.elim⟩⟩
  case makeSlice t l c=>exact Zcsz P t o.type _ _
  case box t v=>exact ⟨True,_,_,fun H K=>⟨fun h=>⟨trivial,h⟩,fun h=>h.2⟩⟩
  case buildSlice t len parts=>
    have no: ∃(ok:Prop) (val:Nat->Value) (obj:Obj),∀(H:Heap) (K:Value->Heap->Prop),False↔(ok∧∀n,H n=none->K (val n) (H.upd n obj)):=
      ⟨False,fun _=>undef,default,fun H K=>⟨fun h=>h.elim,fun h=>h.1.elim⟩⟩
    split;split;exact ⟨True,_,_,fun H K=>⟨fun h=>⟨trivial,h⟩,fun h=>h.2⟩⟩;exact no;exact no
  case convert s d x=>cases hs:Zhe P s<;>rw [hs] at hr<;>first | (cases hr;done) | (cases hb:Zpr P s d<;>rw [hb] at hr<;>cases hr)
  case call c=>
    exfalso;cases hc:c.callee with
    | value f=>rw [hc] at hr;cases hr
    | invoke r m=>rw [hc] at hr;cases hr
    | builtin b=>rw [hc] at hr;cases b<;>first | (cases hr;done) | (cases hm:Zhm P c.argTypes.toList[0]? <;>simp only [hm] at hr<;>cases hr)
end Go.Sh
end
section
namespace Go.Sh
theorem Zbpn {o:Oper} {ρ ρ':Env} (h: ∀t∈Zhu o,ρ t=ρ' t): ∀x∈o.op.operands,ev ρ x=ev ρ' x:=by
  intro x hx;cases x with
  | tmp t=>exact h t (List.mem_filterMap.2 ⟨.tmp t,by simpa using hx,rfl⟩)
  | const v=>rfl
  | global g=>rfl
  | func f=>rfl
theorem Zb.mono {H:Heap} {a:Addr} {v:Value} {K K':Heap->Prop} (hk: ∀H,K H->K' H) (h:Zb H a v K):Zb H a v K':=by unfold Zb at*;split at h;obtain ⟨c,T,lo,hi,h1,h2,h3,h4⟩:=h;exact ⟨c,T,lo,hi,h1,h2,h3,hk _ h4⟩;exact h.elim
theorem Zfg.mono {a:Addr} {K K':Heap->Prop} (hk: ∀H,K H->K' H): ∀(vs:List Value) (i:Nat) (H:Heap),Zfg a i vs H K->Zfg a i vs H K':=by
  intro vs;induction vs with
  | nil=>exact fun i H h=>hk _ h
  | cons v vs ih=>exact fun i H h=>Zb.mono (fun H h=>ih _ H h) h
theorem Zdv.mono {P:Program} {t:TypeId} {a v:Value} {H:Heap} {K K':Value->Heap->Prop} (hk: ∀v H,K v H->K' v H) (h:Zdv P t a v H K):Zdv P t a v H K':=by unfold Zdv at*;split at h;obtain ⟨s,hs,h⟩:=Zz.elim h;simp only [Zz,hs];split at h;rename_i hl;exact Zfg.mono (fun H h=>hk _ _ h) _ _ _ h;exact h.elim;exact h.elim
theorem Zbt.mono {P:Program} {K K':Value->Heap->Prop} (hk: ∀v H,K v H->K' v H) (n:Next) (H:Heap) (h:Zbt P K n H):Zbt P K' n H:=by
  cases n<;>first | exact hk _ _ h | exact FnW.mono h hk | exact RndW.mono h hk | exact h.elim
theorem Zfx.mono {P:Program} {f:FuncId} {t:TypeId} {args:Array Value} {H:Heap} {K K':Value->Heap->Prop} (hk: ∀v H,K v H->K' v H) (h:Zfx P f t args H K):Zfx P f t args H K':=by unfold Zfx at h ⊢;split at h;exact SemW.mono _ _ _ _ (fun n H h=>Zbt.mono (fun _ _ h=>ofTy.mono hk h) n H h) h;exact FnW.mono h (fun _ _ h=>ofTy.mono hk h)
theorem Zgq.mono {P:Program} {o:Oper} {ρ:Env} {H:Heap} {K K':Value->Heap->Prop} (hk: ∀v H,K v H->K' v H) (h:Zgq P o ρ H K):Zgq P o ρ H K':=by unfold Zgq at h ⊢;split at h;exact hk _ _ h;exact hk _ _ h;exact SemW.mono _ _ _ _ (fun n H h=>Zbt.mono hk n H h) h
theorem OpW.mono {P:Program} {o:Oper} {ρ:Env} {H:Heap} {K K':Value->Heap->Prop} (hk: ∀v H,K v H->K' v H) (h:OpW P o ρ H K):OpW P o ρ H K':=by
  by_cases h0:rank P o=0;obtain ⟨ok,v,hp⟩:=OpW.pure0 h0 ρ;obtain ⟨hok,hv⟩:=(hp _ _).1 h;exact (hp _ _).2 ⟨hok,hk _ _ hv⟩;by_cases h1:rank P o=1;obtain ⟨blk,hp⟩:=OpW.read1 h1 ρ;obtain ⟨_,v,hv⟩:=hp _ _ h;exact (hv _ _ rfl).2 (hk _ _ ((hv _ _ rfl).1 h));by_cases h2:rank P o=2;obtain ⟨ok,val,obj,hp⟩:=OpW.new2 h2 ρ;obtain ⟨hok,hv⟩:=(hp _ _).1 h;exact (hp _ _).2 ⟨hok,fun n hn=>hk _ _ (hv n hn)⟩;unfold rank at h0 h1 h2;unfold OpW at h ⊢;cases ho:o.op<;>rw [ho] at h0 h1 h2 h<;>simp only at h0 h1 h2 h ⊢ <;>first
    | exact absurd trivial h0
    | exact absurd trivial h1
    | exact absurd trivial h2
    | exact (h0 rfl).elim
    | exact (h1 rfl).elim
    | exact (h2 rfl).elim
    | exact SemW.mono _ _ _ _ (fun n H h=>Zbt.mono hk n H h) h
    | exact Zgq.mono hk h
    | exact NxW.mono hk h
    | exact EnW.mono hk h
    | exact SemW.mono _ _ _ _ hk h
    | exact SemW.mono _ _ _ _ (fun _ _ h=>ofTy.mono hk h) h
    | exact Zdv.mono hk h
    | skip
  case load t a=>
    obtain ⟨v,hv,hl⟩:=Zbh.read h;exact hl H _ (fun _ _ _ _ _ h=>h) (hk _ _ hv)
  case convert s d x=>
    unfold Zfj at h ⊢;cases hs:Zhe P s with
    | true=>rw [hs] at h0;exact (h0 rfl).elim
    | false=>rw [hs] at h;exact SemW.mono _ _ _ _ (fun _ _ h=>ofTy.mono hk h) h
  case call c=>
    unfold Zgb at h ⊢;cases hc:c.callee with
    | value f=>
      rw [hc] at h;cases f<;>simp only at h ⊢ <;>first | exact Zfx.mono hk h | exact SemW.mono _ _ _ _ (fun n H h=>Zbt.mono hk n H h) h | skip
      split at h;exact Zfq.mono (fun _ _ h=>ofTy.mono hk h) h;exact FnW.mono h (fun _ _ h=>ofTy.mono hk h);exact FnW.mono h (fun _ _ h=>ofTy.mono hk h)
      . exact SemW.mono _ _ _ _ (fun n H h=>Zbt.mono hk n H h) h
    | invoke r m=>rw [hc] at h;exact SemW.mono _ _ _ _ (fun n H h=>Zbt.mono hk n H h) h
    | builtin b=>
      rw [hc] at h0 h;cases b<;>first | exact (h0 rfl).elim | (cases hm:Zhm P c.argTypes.toList[0]? <;>simp only [hm] at h0 h ⊢ <;>first | exact (h0 rfl).elim | exact (h0 trivial).elim | exact SemW.mono _ _ _ _ (fun _ _ h=>ofTy.mono hk h) h | exact SemW.mono _ _ _ _ (fun n H h=>Zbt.mono hk n H h) h) | exact SemW.mono _ _ _ _ hk h | exact SemW.mono _ _ _ _ (fun _ _ h=>ofTy.mono hk h) h | exact SemW.mono _ _ _ _ (fun n H h=>Zbt.mono hk n H h) h
theorem Zbcm {ρ ρ':Env} {l:Option Operand} (h: ∀x,l=some x->ev ρ x=ev ρ' x):l.map (ev ρ)=l.map (ev ρ'):=by
  cases l with
  | none=>rfl
  | some x=>simp [h x rfl]
theorem OpW.congr {P:Program} {o:Oper} {ρ ρ':Env} {H:Heap} {K:Value->Heap->Prop} (hc: ∀t∈Zhu o,ρ t=ρ' t) (h:OpW P o ρ H K):OpW P o ρ' H K:=by
  have he:=Zbpn hc;unfold OpW at h ⊢;cases ho:o.op;all_goals
    rw [ho] at h he;simp only at h ⊢
  case move x=>rw [← he x (by simp [Op.operands])];exact h
  case assign x=>rw [← he x (by simp [Op.operands])];exact h
  case pick c a b=>rw [← he c (by simp [Op.operands]),← he a (by simp [Op.operands]),← he b (by simp [Op.operands])];exact h
  case alloc t=>exact h
  case box t v=>rw [← he v (by simp [Op.operands])];exact h
  case build t ps=>
    have:(ps.toList.map fun p=>(p.1,ev ρ' p.2))=ps.toList.map fun p=>(p.1,ev ρ p.2):=
      List.map_congr_left fun p hp=>by rw [he p.2 (by simp [Op.operands];exact ⟨p.1,by simpa using hp⟩)]
    rw [this];exact h
  case buildSlice t n ps=>
    have:(ps.toList.map fun p=>(p.1,ev ρ' p.2))=ps.toList.map fun p=>(p.1,ev ρ p.2):=
      List.map_congr_left fun p hp=>by rw [he p.2 (by simp [Op.operands];exact ⟨p.1,by simpa using hp⟩)]
    rw [this];exact h
  case load t a=>rw [← he a (by simp [Op.operands])];exact h
  case store t a v=>rw [← he a (by simp [Op.operands]),← he v (by simp [Op.operands])];exact h
  case nilCheck x=>rw [← he x (by simp [Op.operands])];exact h
  case binOp op t x y u=>rw [← he x (by simp [Op.operands]),← he y (by simp [Op.operands])];exact h
  case unOp op t x=>rw [← he x (by simp [Op.operands])];exact h
  case convert s d x=>rw [← he x (by simp [Op.operands])];exact h
  case makeSlice t l c=>rw [← he l (by simp [Op.operands]),← he c (by simp [Op.operands])];exact h
  case slice t x lo hi mx=>
    rw [← he x (by simp [Op.operands]),← Zbcm (fun y hy=>he y (by simp [Op.operands,hy])),← Zbcm (fun y hy=>he y (by simp [Op.operands,hy])),← Zbcm (fun y hy=>he y (by simp [Op.operands,hy]))]
    exact h
  case fieldAddr s x f=>rw [← he x (by simp [Op.operands])];exact h
  case field t x f=>rw [← he x (by simp [Op.operands])];exact h
  case indexAddr t x i=>rw [← he x (by simp [Op.operands]),← he i (by simp [Op.operands])];exact h
  case index t x i=>rw [← he x (by simp [Op.operands]),← he i (by simp [Op.operands])];exact h
  case extract t i=>rw [← he t (by simp [Op.operands])];exact h
  case lookup t x i ok=>rw [← he x (by simp [Op.operands]),← he i (by simp [Op.operands])];exact h
  case next it s=>rw [← he it (by simp [Op.operands])];exact h
  case entry it=>rw [← he it (by simp [Op.operands])];exact h
  case call c=>
    have ha:c.args.toList.map (ev ρ')=c.args.toList.map (ev ρ):=List.map_congr_left fun x hx=>(he x (by simp [Op.operands,Call.operands];exact .inr (by simpa using hx))).symm
    have hr:(resolve (ev ρ') c o.type)=resolve (ev ρ) c o.type:=resolve_congr c o.type fun x hx=>(he x (by simpa [Op.operands] using hx)).symm
    unfold Zgb at h ⊢;rw [ha,hr];cases hcc:c.callee with
    | value f=>
      cases f with
      | tmp t=>
        simp only [hcc] at h ⊢;rw [← hc t (by simp [Zhu,ho,Op.operands,Call.operands,hcc])]
        exact h
      | _=>simp only [hcc] at h ⊢;exact h
    | builtin b=>simp only [hcc] at h ⊢;cases b<;>exact h
    | invoke r m=>simp only [hcc] at h ⊢;exact h
  case makeFunc fn first captured=>
    have hx:execOp (ev ρ') o=execOp (ev ρ) o:=execOp_congr o (by simp [ho]) fun x hx=>(he x (by rw [ho] at hx;exact hx)).symm
    unfold Zgq at h ⊢;split at h
    . rename_i f cap ho2;rw [ho] at ho2;cases ho2;have hc:captured.toList.map (ev ρ')=captured.toList.map (ev ρ):=List.map_congr_left fun x hx=>(he x (by simp [Op.operands];simpa using hx)).symm
      rw [hc];exact h
    . rename_i f d ds cap ho2;rw [ho] at ho2;cases ho2;have hc:cap.map (ev ρ')=cap.map (ev ρ):=List.map_congr_left fun x hx=>(he x (by simp [Op.operands];exact .inr (.inr (by simpa using hx)))).symm
      have hd:(d::ds).map (ev ρ')=(d::ds).map (ev ρ):=List.map_congr_left fun x hx=>(he x (by simp only [Op.operands];simp at hx ⊢;rcases hx with h | h;exact .inl h;exact .inr (.inl h))).symm
      rw [hc,hd];exact h
    rw [hx];exact h
  all_goals
    have hx:execOp (ev ρ') o=execOp (ev ρ) o:=execOp_congr o (by simp [ho]) fun x hx=>(he x (by rw [ho] at hx;exact hx)).symm
    rw [hx];exact h
theorem Zbm (P:Program):Nice (OpW P) where
  mono:=fun _ _ _ _ _ hk h=>OpW.mono hk h
  congr:=fun _ _ _ _ _ hc h=>OpW.congr hc h
theorem Ztw (H:Heap) {n m:Nat} (o p:Obj) (h:n≠m):(H.upd n o).upd m p=(H.upd m p).upd n o:=by refine Heap.ext fun b=>?_;simp only [Heap.upd];by_cases h1:b=m;subst h1;rw [if_pos rfl,if_neg (fun e=>h e.symm),if_pos rfl];rw [if_neg h1,if_neg h1]
theorem upd_ne {H:Heap} {n b:Nat} {o:Obj} (h:b≠n):(H.upd n o) b=H b:=by simp [Heap.upd,h]
theorem upd_eq {H:Heap} {n:Nat} {o:Obj}:(H.upd n o) n=some o:=by simp [Heap.upd]
theorem Zbnm: ∀l:List Nat,∃M,∀b∈l,b<M
  | []=>⟨0,by simp⟩
  | b::l=>by obtain ⟨M,h⟩:=Zbnm l;refine ⟨max M (b+1),fun c hc=>?_⟩;rcases List.mem_cons.1 hc with rfl | hc;omega;have:=h c hc;omega
theorem Heap.free (H:Heap) (l:List Nat): ∃n,n∉l∧H n=none:=by obtain ⟨N,h⟩:=H.fin;obtain ⟨M,hM⟩:=Zbnm l;exact ⟨max N M,fun hc=>by have:=hM _ hc;omega,h _ (by omega)⟩
theorem Heap.alter_none {H:Heap} {n b:Nat} {f:Obj->Obj}:(H.alter n f) b=none↔H b=none:=by simp only [Heap.alter];split;cases H b<;>simp;rfl
theorem Heap.alter_upd {H:Heap} {n m:Nat} {f:Obj->Obj} {o:Obj} (h:n≠m):(H.upd n o).alter m f=(H.alter m f).upd n o:=by refine Heap.ext fun b=>?_;simp only [Heap.alter,Heap.upd];by_cases h1:b=m;subst h1;rw [if_pos rfl,if_neg (fun e=>h e.symm),if_pos rfl,if_neg (fun e=>h e.symm)];rw [if_neg h1,if_neg h1]
theorem Heap.cell_upd {H:Heap} {n:Nat} {o:Obj} {a:Addr} (h:a.block≠n):(H.upd n o).cell a=H.cell a:=by simp only [Heap.cell,upd_ne h]
theorem Heap.frozen_upd {H:Heap} {n:Nat} {o:Obj} {a:Addr} (h:a.block≠n):(H.upd n o).frozen a=H.frozen a:=by simp only [Heap.frozen,upd_ne h]
theorem Heap.shape_upd {H:Heap} {n:Nat} {o:Obj} {r:Nat} (h:r≠n):(H.upd n o).shape r=H.shape r:=by simp only [Heap.shape,upd_ne h]
theorem Heap.cell_some {H:Heap} {a:Addr} {v:Value} (h:H.cell a=some v):H a.block≠none:=by intro e;simp only [Heap.cell,e] at h;cases h
theorem SemW.later {P:Program} {α:Type} (obj:Obj) (s:Sem α): ∀(H:Heap) (K:Nat->α->Heap->Prop),(∀n,H n=none->SemW P s (H.upd n obj) (K n))->
    SemW P s H fun x H1=>∀n,H1 n=none->K n x (H1.upd n obj):=by
  induction s with
  | pure a=>exact fun H K h=>h
  | load m a k ih=>
    intro H K h;obtain ⟨n0,hn0,hf⟩:=H.free [a.block];obtain ⟨v,hv,_⟩:=h n0 hf;rw [Heap.cell_upd (fun e=>hn0 (by simp [e]))] at hv
    refine ⟨v,hv,ih v H K fun n hn=>?_⟩;obtain ⟨v',hv',hk⟩:=h n hn;rw [Heap.cell_upd (fun e=>Heap.cell_some hv (by rw [e];exact hn))] at hv'
    rw [hv] at hv';cases hv';exact hk
  | store m a v k ih=>
    intro H K h;obtain ⟨n0,hn0,hf⟩:=H.free [a.block];obtain ⟨h1,⟨u,hu⟩,h3,_⟩:=h n0 hf;have hne:a.block≠n0:=fun e=>hn0 (by simp [e])
    rw [Heap.cell_upd hne] at hu;rw [Heap.frozen_upd hne] at h3;refine ⟨h1,⟨u,hu⟩,h3,ih _ K fun n hn=>?_⟩;have hn':H n=none:=Heap.alter_none.1 hn;have hk:=(h n hn').2.2.2;have hne':n≠a.block:=fun e=>Heap.cell_some hu (by rw [← e];exact hn')
    unfold Heap.set at hk ⊢;rw [Heap.alter_upd hne'] at hk;exact hk
  | new o k ih=>
    intro H K h m hm;refine ih m _ K fun n hn=>?_;have hne:n≠m:=fun e=>by subst e;rw [upd_eq] at hn;cases hn
    rw [upd_ne hne] at hn;have:=h n hn m (by rw [upd_ne (fun e=>hne e.symm)];exact hm)
    rw [Ztw H obj o hne] at this;exact this
  | shape r k ih=>
    intro H K h;obtain ⟨n0,hn0,hf⟩:=H.free [r];have hne:r≠n0:=fun e=>hn0 (by simp [e])
    obtain ⟨⟨o,ho⟩,_⟩:=h n0 hf;rw [upd_ne hne] at ho;refine ⟨⟨o,ho⟩,ih _ H K fun n hn=>?_⟩;have hk:=(h n hn).2;rw [Heap.shape_upd (fun e=>by subst e;rw [ho] at hn;cases hn)] at hk
    exact hk
  | freeze a n k ih=>
    intro H K h;obtain ⟨n0,hn0,hf⟩:=H.free [a.block];have hne:a.block≠n0:=fun e=>hn0 (by simp [e])
    obtain ⟨⟨o,ho⟩,_⟩:=h n0 hf;rw [upd_ne hne] at ho;refine ⟨⟨o,ho⟩,ih _ K fun m hm=>?_⟩;by_cases hn:n=0
    . subst hn;have:=(h m (by simpa [Heap.frz] using hm)).2
      simpa [Heap.frz] using this
    . have hm':H m=none:=by simp only [Heap.frz,if_neg hn] at hm;exact Heap.alter_none.1 hm
      have hk:=(h m hm').2;simp only [Heap.frz,if_neg hn] at hk ⊢;rw [Heap.alter_upd (fun e=>by subst e;rw [ho] at hm';cases hm')] at hk
      exact hk
  | frozen a k ih=>
    intro H K h;obtain ⟨n0,hn0,hf⟩:=H.free [a.block];have hne:a.block≠n0:=fun e=>hn0 (by simp [e])
    obtain ⟨⟨o,ho⟩,_⟩:=h n0 hf;rw [upd_ne hne] at ho;refine ⟨⟨o,ho⟩,ih _ H K fun n hn=>?_⟩;have hk:=(h n hn).2;rw [Heap.frozen_upd (fun e=>by subst e;rw [ho] at hn;cases hn)] at hk
    exact hk
  | getObj r k ih=>
    intro H K h;obtain ⟨n0,hn0,hf⟩:=H.free [r];have hne:r≠n0:=fun e=>hn0 (by simp [e])
    obtain ⟨o,ho,hc,_⟩:=h n0 hf;rw [upd_ne hne] at ho;refine ⟨o,ho,hc,ih o H K fun n hn=>?_⟩;obtain ⟨o',ho',_,hk⟩:=h n hn;rw [upd_ne (fun e=>by subst e;rw [ho] at hn;cases hn)] at ho'
    rw [ho] at ho';cases ho';exact hk
  | setObj r o k ih=>
    intro H K h;obtain ⟨n0,hn0,hf⟩:=H.free [r];have hne:r≠n0:=fun e=>hn0 (by simp [e])
    obtain ⟨⟨o0,ho,hc,hd⟩,_⟩:=h n0 hf;rw [upd_ne hne] at ho;refine ⟨⟨o0,ho,hc,hd⟩,ih _ K fun n hn=>?_⟩;have hnr:n≠r:=fun e=>by subst e;rw [upd_eq] at hn;cases hn
    rw [upd_ne hnr] at hn;have hk:=(h n hn).2;rw [Ztw H _ _ hnr] at hk;exact hk
  | choose q k ih=>exact fun H K h=>⟨fun hq=>ih _ H K fun n hn=>(h n hn).1 hq,fun hq t=>ih _ H K fun n hn=>(h n hn).2 hq t⟩
  | sys c k ih=>intro H K h;obtain ⟨n0,_,hf⟩:=H.free [];exact (h n0 hf).elim
  | program k ih=>exact fun H K h=>ih _ H K h
  | mark m k ih=>exact fun H K h=>ih H K h
  | halt h=>intro H K h;obtain ⟨n0,_,hf⟩:=H.free [];exact (h n0 hf).elim
def RoW (W:Heap->(Value->Heap->Prop)->Prop):Prop:=∃R:Heap->Value->Prop,∀H K,W H K↔∃v,R H v∧K v H
theorem Zby.ro {W:Heap->(Value->Heap->Prop)->Prop} (h:Zby W):RoW W:=by obtain ⟨ok,v,h⟩:=h;exact ⟨fun _ u=>ok∧u=v,fun H K=>(h H K).trans ⟨fun ⟨h1,h2⟩=>⟨v,⟨h1,rfl⟩,h2⟩,fun ⟨u,⟨h1,e⟩,h2⟩=>⟨h1,e▸h2⟩⟩⟩
theorem ReadW.ro {W:Heap->(Value->Heap->Prop)->Prop} (h:ReadW W):RoW W:=by obtain ⟨blk,h⟩:=h;refine ⟨fun H v=>W H fun v' H'=>v'=v∧H'=H,fun H K=>⟨fun hw=>?_,fun ⟨v,hv,hk⟩=>?_⟩⟩;obtain ⟨_,v,hv⟩:=h H K hw;exact ⟨v,(hv H _ rfl).2 ⟨rfl,rfl⟩,(hv H K rfl).1 hw⟩;obtain ⟨_,u,hu⟩:=h H _ hv;obtain ⟨e,_⟩:=(hu H _ rfl).1 hv;exact (hu H K rfl).2 (e▸hk)
def isRO (P:Program) {α:Type}:Sem α->Prop
  | .pure _=>True
  | .load _ _ k=>∀v,isRO P (k v)
  | .shape _ k=>∀x,isRO P (k x)
  | .frozen _ k=>∀x,isRO P (k x)
  | .program k=>isRO P (k P)
  | .mark _ k=>isRO P k
  | .halt _=>True
  | _=>False
theorem isRO.out {P:Program} {α:Type} (s:Sem α): ∀(_:isRO P s) (H:Heap) (K:α->Heap->Prop),SemW P s H K->∃a,SemW P s H (fun a' H'=>a'=a∧H'=H)∧K a H:=by
  induction s with
  | pure a=>exact fun _ H K h=>⟨a,⟨rfl,rfl⟩,h⟩
  | load m a k ih=>intro hr H K ⟨v,hv,h⟩;obtain ⟨x,h1,h2⟩:=ih v (hr v) H K h;exact ⟨x,⟨v,hv,h1⟩,h2⟩
  | shape r k ih=>intro hr H K ⟨h0,h⟩;obtain ⟨x,h1,h2⟩:=ih _ (hr _) H K h;exact ⟨x,⟨h0,h1⟩,h2⟩
  | frozen a k ih=>intro hr H K ⟨h0,h⟩;obtain ⟨x,h1,h2⟩:=ih _ (hr _) H K h;exact ⟨x,⟨h0,h1⟩,h2⟩
  | program k ih=>intro hr H K h;exact ih P hr H K h
  | mark m k ih=>intro hr H K h;exact ih hr H K h
  | halt h=>intro _ H K h;exact h.elim
  | store m a v k ih=>intro hr;exact hr.elim
  | new o k ih=>intro hr;exact hr.elim
  | freeze a n k ih=>intro hr;exact hr.elim
  | getObj r k ih=>intro hr;exact hr.elim
  | setObj r o k ih=>intro hr;exact hr.elim
  | choose q k ih=>intro hr;exact hr.elim
  | sys c k ih=>intro hr;exact hr.elim
theorem isRO.bind {P:Program} {α β:Type} (s:Sem α) (f:α->Sem β): ∀(_:isRO P s) (_: ∀a,isRO P (f a)),isRO P (s>>= f):=by
  induction s with
  | pure a=>exact fun _ hf=>hf a
  | load m a k ih=>exact fun hr hf v=>ih v (hr v) hf
  | shape r k ih=>exact fun hr hf v=>ih v (hr v) hf
  | frozen a k ih=>exact fun hr hf v=>ih v (hr v) hf
  | program k ih=>exact fun hr hf=>ih P hr hf
  | mark m k ih=>exact fun hr hf=>ih hr hf
  | halt h=>exact fun _ _=>trivial
  | store m a v k ih=>intro hr;exact hr.elim
  | new o k ih=>intro hr;exact hr.elim
  | freeze a n k ih=>intro hr;exact hr.elim
  | getObj r k ih=>intro hr;exact hr.elim
  | setObj r o k ih=>intro hr;exact hr.elim
  | choose q k ih=>intro hr;exact hr.elim
  | sys c k ih=>intro hr;exact hr.elim
theorem Znp {P:Program} {α:Type} {t:TypeId} {d:TypeDesc} (h:P.underlying t=some d) {f:TypeDesc->Sem α} (hf:isRO P (f d)):isRO P (underlying t>>= f):=by
  have key:isRO P (underlying t)∧∀g:TypeDesc->Sem α,isRO P (g d)->isRO P (underlying t>>= g):=by
    unfold underlying;constructor
    . show isRO P (match P.underlying t with | some d=>pure d | none=>stuck "no such type")
      rw [h];trivial
    . intro g hg;show isRO P ((match P.underlying t with | some d=>pure d | none=>stuck "no such type")>>= g)
      rw [h];exact hg
  exact key.2 f hf
theorem Zbmd {P:Program} {a:Addr}: ∀(n i:Nat) (acc:Array Value),isRO P (loadCellsFrom a i n acc)
  | 0,_,_=>trivial
  | n+1,i,acc=>isRO.bind _ _ (fun _=>trivial) fun _=>Zbmd n _ _
theorem Zblu {P:Program}: ∀(l:List Value) (s:ByteArray),isRO P (forIn l s fun c r=>(match c with
        | .int .u8 n=>pure (ForInStep.yield (r.push (UInt8.ofNat n.toNat)))
        | _=>do
          stuck "bytesToString: byte expected"
          pure (ForInStep.yield r):Sem (ForInStep ByteArray)))
  | [],s=>trivial
  | c::l,s=>by
    rw [List.forIn_cons];refine isRO.bind _ _ ?_ fun r=>?_;split;trivial;exact isRO.bind _ _ trivial fun _=>trivial
    . cases r with
      | done s=>trivial
      | yield s=>exact Zblu l s
theorem Zcug {P:Program} {s d e:TypeId} (hs:P.underlying s=some (.slice e)) (hd:P.underlying d=some .string) (he:P.underlying e=some (.int .u8)) (a:Option Addr) (n c:Nat):isRO P (convert s d (.slice a n c)):=by
  unfold convert;refine Znp hs (Znp hd ?_);show isRO P (underlying e>>= _);refine Znp he ?_;show isRO P (Conv.bytesToString (.slice a n c));unfold Conv.bytesToString;cases a with
  | none=>trivial
  | some a=>
    show isRO P (loadCells a n>>= _);refine isRO.bind _ _ (Zbmd _ _ _) fun cells=>?_;simp only [← Array.forIn_toList];exact isRO.bind _ _ (Zblu _ _) fun _=>trivial
structure Ranked (S:Oper->Env->Heap->(Value->Heap->Prop)->Prop) (rk:Oper->Nat):Prop extends Nice S where
  pure0: ∀o ρ,rk o=0->Zby (S o ρ)
  read1: ∀o ρ,rk o=1->ReadW (S o ρ)
  mem3: ∀o ρ obj H (K:Nat->Value->Heap->Prop),rk o=3->(∀n,H n=none->S o ρ (H.upd n obj) (K n))->S o ρ H fun u H1=>∀n,H1 n=none->K n u (H1.upd n obj)
  ro5: ∀o ρ,rk o=5->RoW (S o ρ)
  new2: ∀o ρ,rk o=2->∃(ok:Prop) (val:Nat->Value) (obj:Obj),∀H K,S o ρ H K↔(ok∧∀n,H n=none->K (val n) (H.upd n obj))
theorem Zb.later {obj:Obj} {a:Addr} {v:Value} {H:Heap} {K:Nat->Heap->Prop} (h: ∀n,H n=none->Zb (H.upd n obj) a v (K n)):Zb H a v fun H1=>∀n,H1 n=none->K n (H1.upd n obj):=by
  obtain ⟨n0,hn0,hf⟩:=H.free [a.block];have hne:a.block≠n0:=fun e=>hn0 (by simp [e])
  unfold Zb at h ⊢;have h0:=h n0 hf;cases hp:Zbl v with
  | false=>rw [hp] at h0;exact h0.elim
  | true=>
    cases hs:a.spot with
    | some s=>rw [hp,hs] at h0;exact h0.elim
    | none=>
      rw [hp,hs] at h0 h;obtain ⟨c,T,lo,hi,h1,h2,h3,_⟩:=h0;rw [upd_ne hne] at h1;refine ⟨c,T,lo,hi,h1,h2,h3,fun n hn=>?_⟩;have hnb:n≠a.block:=fun e=>by subst e;rw [upd_eq] at hn;cases hn
      rw [upd_ne hnb] at hn;obtain ⟨c',T',lo',hi',h1',_,_,h4⟩:=h n hn;rw [upd_ne (fun e=>hnb e.symm),h1] at h1';cases h1';rw [Ztw _ _ _ hnb] at h4;exact h4
theorem Zfg.later {obj:Obj} {a:Addr}: ∀(vs:List Value) (i:Nat) (H:Heap) (K:Nat->Heap->Prop),(∀n,H n=none->Zfg a i vs (H.upd n obj) (K n))->Zfg a i vs H fun H1=>∀n,H1 n=none->K n (H1.upd n obj):=by
  intro vs;induction vs with
  | nil=>exact fun i H K h=>h
  | cons v vs ih=>
    intro i H K h;refine Zb.mono (fun H1 h1=>ih (i+1) H1 K h1) (Zb.later h)
theorem Zdv.later {P:Program} {obj:Obj} {t:TypeId} {a v:Value} {H:Heap} {K:Nat->Value->Heap->Prop} (h: ∀n,H n=none->Zdv P t a v (H.upd n obj) (K n)):
    Zdv P t a v H fun u H1=>∀n,H1 n=none->K n u (H1.upd n obj):=by
  obtain ⟨n0,_,hf⟩:=H.free [];have h0:=h n0 hf;unfold Zdv at h h0 ⊢;split at h0;rename_i a;obtain ⟨s,hs,h0⟩:=Zz.elim h0;simp only [Zz,hs] at h ⊢;split at h0;rename_i hl;rw [hl] at h;exact Zfg.later _ _ _ _ h;exact h0.elim;exact h0.elim
theorem ofTy.later {P:Program} {t:TypeId} {K:Nat->Value->Heap->Prop} {obj:Obj} {v:Value} {H1:Heap} (h: ∀n,H1 n=none->ofTy P t (K n) v (H1.upd n obj)):
    ofTy P t (fun u H1=>∀n,H1 n=none->K n u (H1.upd n obj)) v H1:=by
  obtain ⟨n0,_,hf⟩:=H1.free [];exact tyEx.mono (fun u ⟨he,_⟩=>⟨he,fun n hn=>by subst he;exact ofTy.elim (h n hn)⟩) (h n0 hf)
theorem OpW.mem3 {P:Program} {o:Oper} (hr:rank P o=3) (ρ:Env) (obj:Obj) (H:Heap) (K:Nat->Value->Heap->Prop) (h: ∀n,H n=none->OpW P o ρ (H.upd n obj) (K n)):
    OpW P o ρ H fun u H1=>∀n,H1 n=none->K n u (H1.upd n obj):=by
  unfold rank at hr;unfold OpW at h ⊢;cases ho:o.op<;>rw [ho] at hr<;>simp only [ho] at hr h ⊢ <;>first | (cases hr;done) | skip
  case load t a=>split at hr<;>cases hr
  case store=>exact Zdv.later h
  case convert s d x=>
    unfold Zfj at h ⊢;cases hs:Zhe P s with
    | true=>rw [hs] at hr;cases hr
    | false=>rw [hs] at h;exact SemW.mono _ _ _ _ (fun _ _ h=>ofTy.later h) (SemW.later obj _ H _ h)
  case call c=>
    unfold Zgb at h ⊢;cases hc:c.callee with
    | value f=>rw [hc] at hr;cases hr
    | invoke r m=>rw [hc] at hr;cases hr
    | builtin b=>
      rw [hc] at hr h;cases b<;>first | (cases hr;done) | (cases hm:Zhm P c.argTypes.toList[0]? <;>simp only [hm] at hr<;>cases hr;done) | exact SemW.mono _ _ _ _ (fun _ _ h=>ofTy.later h) (SemW.later obj _ H _ h)
theorem OpW.ro5 {P:Program} {o:Oper} (hr:rank P o=5) (ρ:Env):RoW (OpW P o ρ):=by
  unfold rank at hr;unfold OpW;cases ho:o.op<;>rw [ho] at hr<;>simp only at hr ⊢ <;>first | (cases hr;done) | skip
  case load t a=>split at hr<;>cases hr
  case call c=>
    cases hc:c.callee with
    | value f=>rw [hc] at hr;cases hr
    | invoke r m=>rw [hc] at hr;cases hr
    | builtin b=>rw [hc] at hr;cases b<;>first | (cases hr;done) | (cases hm:Zhm P c.argTypes.toList[0]? <;>simp only [hm] at hr<;>cases hr)
  case convert s d x=>
    split at hr;cases hr
    . rename_i hi;split at hr
      . rename_i hb;unfold Zpr at hb;split at hb
        . rename_i e hs hd;split at hb
          . rename_i he;have ro: ∀v:Value,(∃a n c,v= .slice a n c)->RoW fun H K=>Zfj P s d o.type v H K:=by rintro v ⟨a,n,c,rfl⟩;refine ⟨fun H v=>SemW P (convert s d (.slice a n c)) H fun v' H'=>v'=v∧H'=H∧tyEx P o.type (fun u=>v=u),fun H K=>?_⟩;unfold Zfj;rw [hi];simp only;constructor;intro h;obtain ⟨v,h1,h2⟩:=isRO.out _ (Zcug hs hd he a n c) _ _ h;refine ⟨v,SemW.mono _ _ _ _ (fun v' H' hh=>⟨hh.1,hh.2,tyEx.mono (fun u hu=>hu.1) h2⟩) h1,ofTy.elim h2⟩;rintro ⟨v,h1,h2⟩;refine SemW.mono _ _ _ _ (fun v' H' hh=>?_) h1;obtain ⟨rfl,rfl,h3⟩:=hh;exact tyEx.mono (fun u hu=>⟨hu,hu▸h2⟩) h3
            have other: ∀v:Value,(∀a n c,v≠ .slice a n c)->RoW fun H K=>Zfj P s d o.type v H K:=by
              intro v hv;have hro:isRO P (convert s d v):=by
                unfold convert;refine Znp hs (Znp hd ?_);cases v<;>first | exact absurd rfl (hv _ _ _) | exact trivial | (exact Znp he trivial) | skip
              refine ⟨fun H u=>SemW P (convert s d v) H fun v' H'=>v'=u∧H'=H∧tyEx P o.type (fun w=>u=w),fun H K=>?_⟩;unfold Zfj;rw [hi];simp only;constructor;intro h;obtain ⟨u,h1,h2⟩:=isRO.out _ hro _ _ h;refine ⟨u,SemW.mono _ _ _ _ (fun v' H' hh=>⟨hh.1,hh.2,tyEx.mono (fun u hu=>hu.1) h2⟩) h1,ofTy.elim h2⟩;rintro ⟨u,h1,h2⟩;refine SemW.mono _ _ _ _ (fun v' H' hh=>?_) h1;obtain ⟨rfl,rfl,h3⟩:=hh;exact tyEx.mono (fun u hu=>⟨hu,hu▸h2⟩) h3
            cases hx:ev ρ x<;>first | exact ro _ ⟨_,_,_,rfl⟩ | exact other _ (by intro a n c h;cases h)
          cases hb
        cases hb
      cases hr
theorem Zbcu (P:Program):Ranked (OpW P) (rank P) where
  ro5:=fun _ ρ h=>OpW.ro5 h ρ
  toNice:=Zbm P
  pure0:=fun _ ρ h=>OpW.pure0 h ρ
  read1:=fun _ ρ hr=>OpW.read1 hr ρ
  new2:=fun _ ρ h=>OpW.new2 h ρ
  mem3:=fun _ ρ obj H K hr h=>OpW.mem3 hr ρ obj H K h
theorem Ranked.swaps {S:Oper->Env->Heap->(Value->Heap->Prop)->Prop} {rk:Oper->Nat} (R:Ranked S rk) {x y:Oper} (h:rk x=0∨(rk x <= 2∧rk y <= 2)∨(rk x=2∧rk y=3)∨((rk x=1∨rk x=5)∧(rk y <= 1∨rk y=5))):Zxw S x y:=by
  have hro: ∀o ρ,(rk o <= 1∨rk o=5)->RoW (S o ρ):=fun o ρ ho=>by rcases ho with h | h;rcases Nat.le_one_iff_eq_zero_or_eq_one.1 h with h | h;exact (R.pure0 o ρ h).ro;exact (R.read1 o ρ h).ro;exact R.ro5 o ρ h
  by_cases hr:(rk x <= 1∨rk x=5)∧(rk y <= 1∨rk y=5);intro ρ H K hh;obtain ⟨R1,h1⟩:=hro x ρ hr.1;obtain ⟨R2,h2⟩:=hro y ρ hr.2;obtain ⟨v,hv,hk⟩:=(h1 _ _).1 hh;obtain ⟨u,hu,hk⟩:=(h2 _ _).1 hk;exact (h2 _ _).2 ⟨u,hu,(h1 _ _).2 ⟨v,hv,hk⟩⟩;replace h:rk x=0∨(rk x <= 2∧rk y <= 2)∨(rk x=2∧rk y=3):=by rcases h with h | h | h | h;exact .inl h;exact .inr (.inl h);exact .inr (.inr h);exact absurd ⟨by omega,h.2⟩ hr
  intro ρ H K hh;by_cases h0:rk x=0;obtain ⟨ok,v,hp⟩:=R.pure0 x ρ h0;obtain ⟨hok,hv⟩:=(hp _ _).1 hh;exact R.mono _ _ _ _ _ (fun u H1 hk=>(hp _ _).2 ⟨hok,hk⟩) hv;rcases h.resolve_left h0 with ⟨h1,h2⟩ | ⟨h2,h3⟩
  case inr=>
    obtain ⟨ok1,val1,obj1,hp⟩:=R.new2 x ρ h2;obtain ⟨hok1,hn⟩:=(hp _ _).1 hh;exact R.mono _ _ _ _ _ (fun u H1 hk=>(hp _ _).2 ⟨hok1,hk⟩) (R.mem3 y ρ obj1 H (fun n u H2=>K (val1 n) u H2) h3 hn)
  by_cases hx1:rk x=1
  . obtain ⟨blk,hp⟩:=R.read1 x ρ hx1;obtain ⟨hblk,v,hv⟩:=hp _ _ hh;have h3:=(hv H _ rfl).1 hh;by_cases hy0:rk y=0;obtain ⟨ok,u,hq⟩:=R.pure0 y ρ hy0;obtain ⟨hok,hu⟩:=(hq _ _).1 h3;exact (hq _ _).2 ⟨hok,(hv _ _ rfl).2 hu⟩;by_cases hy1:rk y=1;obtain ⟨blk2,hq⟩:=R.read1 y ρ hy1;obtain ⟨_,u,hu⟩:=hq _ _ h3;exact (hu _ _ rfl).2 ((hv _ _ rfl).2 ((hu _ _ rfl).1 h3))
    . have hy2:rk y=2:=by omega
      obtain ⟨ok,val,obj,hq⟩:=R.new2 y ρ hy2;obtain ⟨hok,hn⟩:=(hq _ _).1 h3;exact (hq _ _).2 ⟨hok,fun n hn'=>(hv _ _ (upd_ne fun e=>hblk (by rw [e];exact hn'))).2 (hn n hn')⟩
  . have hx2:rk x=2:=by omega
    obtain ⟨ok1,val1,obj1,hp⟩:=R.new2 x ρ hx2;obtain ⟨hok1,h3⟩:=(hp _ _).1 hh;by_cases hy0:rk y=0;obtain ⟨ok,u,hq⟩:=R.pure0 y ρ hy0;obtain ⟨n0,_,hn0⟩:=H.free [];exact (hq _ _).2 ⟨((hq _ _).1 (h3 n0 hn0)).1,(hp _ _).2 ⟨hok1,fun n hn=>((hq _ _).1 (h3 n hn)).2⟩⟩;by_cases hy1:rk y=1
    . obtain ⟨blk,hq⟩:=R.read1 y ρ hy1;obtain ⟨n0,hn,hn0⟩:=H.free [blk];have hne:blk≠n0:=fun e=>hn (by simp [e])
      obtain ⟨hblk,u,hu⟩:=hq _ _ (h3 n0 hn0);rw [upd_ne hne] at hblk;refine (hu H _ (upd_ne hne).symm).2 ((hp _ _).2 ⟨hok1,fun n hn=>?_⟩);have hne':blk≠n:=fun e=>hblk (by rw [e];exact hn)
      exact (hu _ _ (by rw [upd_ne hne,upd_ne hne'])).1 (h3 n hn)
    have hy2:rk y=2:=by omega
    obtain ⟨ok2,val2,obj2,hq⟩:=R.new2 y ρ hy2;obtain ⟨n0,_,hn0⟩:=H.free [];have hok2:=((hq _ _).1 (h3 n0 hn0)).1;refine (hq _ _).2 ⟨hok2,fun m hm=>(hp _ _).2 ⟨hok1,fun n hn=>?_⟩⟩;have hne:n≠m:=fun e=>by subst e;rw [upd_eq] at hn;cases hn
    rw [upd_ne hne] at hn;have h4:=((hq _ _).1 (h3 n hn)).2 m (by rw [upd_ne (fun e=>hne e.symm)];exact hm)
    rw [Ztw H obj1 obj2 hne] at h4;exact h4
end Go.Sh
end
section
namespace Go.Sh
def memB (n:Nat):List Nat->Bool
  | []=>false
  | m::l=>match Nat.beq n m with | true=>true | false=>memB n l
theorem Zca {n:Nat}: ∀{l:List Nat},memB n l=true↔n∈l
  | []=>by simp [memB]
  | m::l=>by
    simp only [memB,List.mem_cons];cases h:Nat.beq n m with
    | true=>simp [Nat.eq_of_beq_eq_true h]
    | false=>
      have hne:n≠m:=fun e=>by subst e;rw [Nat.beq_refl] at h;cases h
      simp [hne,Zca (l:=l)]
def inC (C:List Tmp) (o:Oper):Bool:=match o.dst with
  | some d=>memB d C
  | none=>false
def Zcl (bs:List Nat) (H0 H:Heap):Prop:=∀b,b∈bs->(∃o,H0 b=some o)∧H b=H0 b
def Zcq (P:Program) (C:List Tmp) (bs:List Nat) (H0:Heap) (o:Oper) (ρ:Env) (H:Heap) (K:Value->Heap->Prop):Prop:=
  match inC C o with
  | true=>match o.op with
    | .load t a=>match ev ρ a with
      | .pointer (some p)=>p.block∈bs∧Zbh P t (.pointer (some p)) H0 fun v _=>K v H
      | _=>False
    | _=>False
  | false=>match Nat.ble 3 (rank P o) with
    | true=>OpW P o ρ H fun v H'=>Zcl bs H0 H'∧K v H'
    | false=>OpW P o ρ H K
def Zbq (P:Program) (C:List Tmp) (o:Oper):Nat:=match inC C o with
  | true=>match o.op with | .load _ _=>0 | _=>4
  | false=>rank P o
theorem Zek (P:Program) (C:List Tmp) (bs:List Nat) (H0:Heap):Ranked (Zcq P C bs H0) (Zbq P C) where
  mono:=by
    intro o ρ H K K' hk h;unfold Zcq at*;cases hC:inC C o with
    | true=>
      rw [hC] at h;simp only at h ⊢;split at h;split at h;rename_i p hp;obtain ⟨hb,h⟩:=h;obtain ⟨v,hv,hl⟩:=Zbh.read h;exact ⟨hb,hl H0 _ (fun _ _ _ _ _ h=>h) (hk _ _ hv)⟩;exact h.elim
      . exact h.elim
    | false=>
      rw [hC] at h;simp only at h ⊢;split at h;exact OpW.mono (fun v H h=>⟨h.1,hk _ _ h.2⟩) h;exact OpW.mono hk h
  congr:=by
    intro o ρ ρ' H K hc h;unfold Zcq at*;cases hC:inC C o with
    | true=>
      rw [hC] at h;simp only at h ⊢;cases ho:o.op<;>rw [ho] at h<;>simp only at h ⊢;rename_i t a;have he:ev ρ a=ev ρ' a:=Zbpn hc a (by simp [ho,Op.operands])
      rw [← he];exact h
    | false=>
      rw [hC] at h;simp only at h ⊢;split at h;exact OpW.congr hc h;exact OpW.congr hc h
  pure0:=by
    intro o ρ hr;unfold Zcq Zbq at*;cases hC:inC C o with
    | true=>
      rw [hC] at hr;simp only at hr ⊢;cases ho:o.op<;>rw [ho] at hr<;>simp only at hr ⊢ <;>first | (cases hr;done) | skip
      rename_i t ad;split;rename_i p hp;by_cases hc: ∃K0,Zbh P t (.pointer (some p)) H0 K0;obtain ⟨K0,h0⟩:=hc;obtain ⟨v,hv,hl⟩:=Zbh.read h0;refine ⟨p.block∈bs,v,fun H K=>⟨fun h=>⟨h.1,?_⟩,fun h=>⟨h.1,hl H0 _ (fun _ _ _ _ _ h=>h) h.2⟩⟩⟩;have h3:=hl H0 (fun u _=>u=v) (fun _ _ _ _ _ h=>h) rfl;obtain ⟨u,h4,h5⟩:=Zbh.det h.2 h3;subst h5;exact h4;exact ⟨False,undef,fun H K=>⟨fun h=>(hc ⟨_,h.2⟩).elim,fun h=>h.1.elim⟩⟩
      . exact Zbd
    | false=>
      rw [hC] at hr;simp only at hr ⊢;rw [hr];exact OpW.pure0 hr ρ
  read1:=by
    intro o ρ hr;unfold Zcq Zbq at*;cases hC:inC C o with
    | true=>
      rw [hC] at hr;simp only at hr;cases ho:o.op<;>rw [ho] at hr<;>cases hr
    | false=>
      rw [hC] at hr;simp only at hr ⊢;rw [hr];exact OpW.read1 hr ρ
  ro5:=by
    intro o ρ hr;unfold Zcq Zbq at*;cases hC:inC C o with
    | true=>
      rw [hC] at hr;simp only at hr;cases ho:o.op<;>rw [ho] at hr<;>cases hr
    | false=>
      rw [hC] at hr;simp only at hr ⊢;rw [hr];obtain ⟨R,h⟩:=OpW.ro5 hr ρ;exact ⟨fun H v=>Zcl bs H0 H∧R H v,fun H K=>(h H _).trans ⟨fun ⟨v,h1,h2,h3⟩=>⟨v,⟨h2,h1⟩,h3⟩,fun ⟨v,⟨h1,h2⟩,h3⟩=>⟨v,h2,h1,h3⟩⟩⟩
  new2:=by
    intro o ρ hr;unfold Zcq Zbq at*;cases hC:inC C o with
    | true=>
      rw [hC] at hr;simp only at hr;cases ho:o.op<;>rw [ho] at hr<;>cases hr
    | false=>
      rw [hC] at hr;simp only at hr ⊢;rw [hr];exact OpW.new2 hr ρ
  mem3:=by
    intro o ρ obj H K hr h;unfold Zcq Zbq at*;cases hC:inC C o with
    | true=>
      rw [hC] at hr;simp only at hr;cases ho:o.op<;>rw [ho] at hr<;>cases hr
    | false=>
      rw [hC] at h hr;simp only at h hr ⊢;rw [hr] at h ⊢;refine OpW.mono (fun v H1 h1=>⟨?_,fun n hn=>(h1 n hn).2⟩) (OpW.mem3 hr ρ obj H (fun n v H'=>Zcl bs H0 H'∧K n v H') h);obtain ⟨n,hn,hf⟩:=H1.free bs;have:=(h1 n hf).1;intro b hb;have hb':=this b hb;rw [upd_ne (fun e=>hn (by rw [← e];exact hb))] at hb'
      exact hb'
def Zhn (P:Program) (S:Oper->Env->Heap->(Value->Heap->Prop)->Prop) (I:Heap->Prop):Prop:=
  ∀o ρ H K,I H->S o ρ H K->SemW P (execOp (ev ρ) o) H (Zbt P fun v H'=>I H'∧K v H')
theorem Zns (P:Program):Zhn P (OpW P) fun _=>True:=
  fun _ _ _ _ _ h=>SemW.mono _ _ _ _ (fun n H h=>Zbt.mono (fun _ _ h=>⟨trivial,h⟩) n H h) (OpW.sem h)
theorem Zbhb (P:Program) (C:List Tmp) (bs:List Nat) (H0:Heap):Zhn P (Zcq P C bs H0) (Zcl bs H0):=by
  intro o ρ H K hI h;unfold Zcq at h;cases hC:inC C o with
  | true=>
    rw [hC] at h;simp only at h;cases ho:o.op<;>rw [ho] at h<;>simp only at h;rename_i t a;split at h;rename_i p hp;obtain ⟨hb,h⟩:=h;obtain ⟨v,hv,hl⟩:=Zbh.read h;refine OpW.sem ?_;unfold OpW;rw [ho];simp only;rw [hp];refine hl H _ (fun q hq p' hp' v hv=>?_) ⟨hI,hv⟩;cases hq;have hbl:=(hI _ hb).2;simp only [Heap.cell,hp',hbl] at hv ⊢;exact hv
    . exact h.elim
  | false=>
    rw [hC] at h;simp only at h;refine OpW.sem ?_;by_cases h3:Nat.ble 3 (rank P o)=true;rw [h3] at h;exact h
    . have h3':Nat.ble 3 (rank P o)=false:=Bool.eq_false_iff.2 h3;rw [h3'] at h;simp only at h;have hr:rank P o=0∨rank P o=1∨rank P o=2:=by have: ¬3 <= rank P o:=fun hle=>h3 (Nat.ble_eq_true_of_le hle);omega
      rcases hr with hr | hr | hr;obtain ⟨ok,v,hp⟩:=OpW.pure0 hr ρ;obtain ⟨hok,hv⟩:=(hp _ _).1 h;exact (hp _ _).2 ⟨hok,hI,hv⟩;obtain ⟨blk,hp⟩:=OpW.read1 hr ρ;obtain ⟨_,v,hv⟩:=hp _ _ h;exact (hv _ _ rfl).2 ⟨hI,(hv _ _ rfl).1 h⟩
      . obtain ⟨ok,val,obj,hp⟩:=OpW.new2 hr ρ;obtain ⟨hok,hn⟩:=(hp _ _).1 h;refine (hp _ _).2 ⟨hok,fun n hf=>⟨fun b hb=>?_,hn n hf⟩⟩;obtain ⟨⟨o',ho'⟩,hb2⟩:=hI b hb;refine ⟨⟨o',ho'⟩,?_⟩;rw [upd_ne (fun e=>by subst e;rw [hf] at hb2;rw [← hb2] at ho';cases ho')]
        exact hb2
def opIn (n:Nat) (all:Array Oper) (o:Oper):Bool:=
  (looks all o).all (Nat.blt · n)&&Zqa n o.dst&&(match o.guard with | some (j,_)=>(match gdst all j with | some d=>Nat.blt d n | none=>true) | none=>true)&&
  (match o.op with | .select _ _=>false | .defer _=>false | _=>true)
variable {D:List Deferred} {r:Option Nat}
theorem Zxh {n:Nat} {ρ:Env} {a:Act} (hf:Fits n D ρ a) (x:Operand) (hx: ∀t,x= .tmp t->t<n):a.eval x=ev ρ x:=by
  cases x with
  | tmp t=>exact hf.tmp t (hx t rfl)
  | _=>rfl
theorem Zcnf {P:Program} {S} {I:Heap->Prop} (hS:Zhn P S I) {n:Nat} {all:Array Oper} {o:Oper} {ρ:Env} {a:Act} {w:World} {K:Value->Heap->Prop} {next:Act->World->Prop} {Q:Exit->Act->World->Prop}
    (hin:opIn n all o=true) (hf:Fits n D ρ a) (hI:I (hp w)) (h:S o ρ (hp w) K) (hn: ∀v w',I (hp w')->K v (hp w')->Rest w w'->next (a.put o.dst v) w'):o.wpIn (Fw r) 0 P a w next Q:=by
  simp only [opIn,Bool.and_eq_true] at hin;obtain ⟨⟨⟨h1,h2⟩,h3⟩,h4⟩:=hin;have hsem:=hS o ρ (hp w) K hI h;have hx:execOp a.eval o=execOp (ev ρ) o:=by
    refine execOp_congr o (fun cs b e=>by rw [e] at h4;cases h4) fun x hx=>Zxh hf x fun t ht=>?_
    have:t∈Zhu o:=List.mem_filterMap.2 ⟨x,by simpa using hx,by rw [ht]⟩
    have:=(List.all_eq_true.1 h1) t (Zvc this);simpa using this
  unfold Oper.wpIn;refine ⟨fun f _=>Zvt r f,?_⟩;rw [Oper.semAt_eq _ _ _ (fun c e=>by rw [e] at h4;cases h4),hx]
  obtain ⟨nx,w',hr,hk,hrest⟩:=SemW.sound _ w _ hsem;rw [hr];cases nx<;>simp only [Zbt] at hk
  case value v=>exact hn v w' hk.1 hk.2 hrest
  case skip=>exact hn undef w' hk.1 hk.2 hrest
  case enter f args=>
    rw [Oper.uponIn_enter];refine ⟨(fun h=>by cases h),(Zbat r (hk.2 w' rfl)).mono ?_⟩
    rintro e w'' ⟨v,rfl,hv,hrest'⟩;exact hn v w'' hv.1 hv.2 (hrest.trans hrest')
  case round l fn tmps assign body=>
    rw [Oper.uponIn_round];have h1:RoundIn (Fw r) (0 - 1) P l fn tmps assign body w' _:=hk w' rfl;refine ⟨(fun h=>by cases h),h1.mono ?_⟩
    rintro e w'' ⟨v,rfl,hv,hrest'⟩;exact hn v w'' hv.1 hv.2 (hrest.trans hrest')
theorem Zbna {n:Nat} {all:Array Oper} {o:Oper} {ρ:Env} {a:Act} (hin:opIn n all o=true) (hf:Fits n D ρ a):Region.wanted o (yielded all a.tmps)=Zey all o ρ:=by
  simp only [opIn,Bool.and_eq_true] at hin;obtain ⟨⟨⟨h1,h2⟩,h3⟩,h4⟩:=hin;unfold Region.wanted Zey;cases hg:o.guard with
  | none=>rfl
  | some g=>
    obtain ⟨j,want⟩:=g;rw [hg] at h3;simp only at h3 ⊢;have hy:yielded all a.tmps j=match gdst all j with | some d=>(match ρ d with | .bool b=>some b | _=>none) | none=>none:=by
      unfold yielded gdst at*;have e:all.toList[j]? =all[j]? :=by simp
      rw [e] at h3 ⊢;cases hj:all[j]? with
      | none=>rfl
      | some oj=>
        rw [hj] at h3;simp only at h3;simp only [Option.bind_some];cases hd:oj.dst with
        | none=>rfl
        | some d=>
          rw [hd] at h3;simp only at h3;have hd':d<n:=by simpa using h3
          have ht:=hf.tmp d hd';have hsz:=hf.size;have hlt:d<a.tmps.size:=by rw [hsz];exact hd'
          rw [Array.getD_eq_getD_getElem?,Array.getElem?_eq_getElem hlt] at ht;simp only [Option.getD_some] at ht;simp only [Option.bind_some];rw [Array.getElem?_eq_getElem hlt,ht];cases ρ d<;>rfl
    rw [hy];cases gdst all j with
    | none=>rfl
    | some d=>
      simp only;cases ρ d<;>rfl
theorem Znf {P:Program} {S} {I:Heap->Prop} (hS:Zhn P S I) {n:Nat} {all:Array Oper} {i:Nat} {o:Oper} (hi:all[i]? =some o) {ρ:Env} {a:Act} {w:World} {K:Env->Heap->Prop} {next:Act->World->Prop} {Q:Exit->Act->World->Prop}
    (hin:opIn n all o=true) (hf:Fits n D ρ a) (hI:I (hp w)) (h:GW all S o ρ (hp w) K)
    (hn: ∀ρ' a' w',Fits n D ρ' a'->I (hp w')->K ρ' (hp w')->Rest w w'->next a' w'):wpOpIn (Fw r) 0 P all Q i next a w:=by
  have hd:Zqa n o.dst=true:=by simp only [opIn,Bool.and_eq_true] at hin;exact hin.1.1.2
  unfold wpOpIn;rw [hi];simp only;rw [Zbna hin hf];unfold GW at h;cases hw:Zey all o ρ with
  | true=>
    rw [hw] at h;simp only [if_true];exact (Zcnf hS hin hf hI h fun v w' hI' hk hr=>hn _ _ _ (hf.put o.dst v hd) hI' hk hr)
  | false=>
    rw [hw] at h;simp only [Bool.false_eq_true,if_false];exact ⟨fun f _=>Zvt r f,hn _ _ _ (hf.put o.dst undef hd) hI h (.refl w)⟩
theorem Zcqa {P:Program} {S} {I:Heap->Prop} (hS:Zhn P S I) {n:Nat} {all:Array Oper} {Q:Exit->Act->World->Prop} {K:Env->Heap->Prop} {w0:World}
    (hin:all.toList.all (opIn n all)=true) (hQ: ∀ρ a w,Fits n D ρ a->I (hp w)->K ρ (hp w)->Rest w0 w->Q .normal a w):
    ∀(l:List Nat) (ops:List Oper),(∀k:Nat,(l[k]?).bind (fun i=>all[i]?)=ops[k]?)->l.length=ops.length->∀(ρ:Env) (a:Act) (w:World),Fits n D ρ a->I (hp w)->Rest w0 w->GWs all S ops ρ (hp w) K->wpOpsIn (Fw r) 0 P all Q l a w:=by
  intro l;induction l with
  | nil=>
    intro ops hl hlen ρ a w hf hI hr h;obtain rfl:ops= []:=by cases ops with | nil=>rfl | cons=>simp at hlen
    exact hQ ρ a w hf hI h hr
  | cons i l ih=>
    intro ops hl hlen ρ a w hf hI hr h;cases ops with
    | nil=>simp at hlen
    | cons o os=>
      have h0:=hl 0;simp at h0;rw [wpOpsIn_cons];have hin':opIn n all o=true:=List.all_eq_true.1 hin o (by rw [Array.mem_toList_iff];exact Array.mem_of_getElem? h0)
      refine Znf hS h0 hin' hf hI h fun ρ' a' w' hf' hI' hk hr'=>?_;exact ih os (fun k=>by have:=hl (k+1);simpa using this) (by simpa using hlen) ρ' a' w' hf' hI' (hr.trans hr') hk
end Go.Sh
end
section
namespace Go.Sh
variable {D:List Deferred} {r:Option Nat}
theorem Zbst: ∀(os:List Oper) (acc:List Nat),∃t,masks os acc=acc++t∧t.length=os.length
  | [],acc=>⟨[],by simp [masks]⟩
  | o::os,acc=>by obtain ⟨t,ht,hl⟩:=Zbst os (acc++[(Zcs o).foldl (fun s p=>s||| 2^p||| acc.getD p 0) 0]);exact ⟨_::t,by rw [masks,ht];simp;rfl,by simp [hl]⟩
theorem Zcjm (f:Nat->Nat) (j:Nat): ∀(l:List Nat) (s:Nat),(l.foldl (fun s p=>s||| 2^p||| f p) s).testBit j=true->s.testBit j=true∨∃p∈l,j=p∨(f p).testBit j=true:=by
  intro l;induction l with
  | nil=>exact fun s h=> .inl h
  | cons p l ih=>
    intro s h;rcases ih _ h with h | ⟨q,hq,hj⟩;simp only [Nat.testBit_or,Bool.or_eq_true] at h;rcases h with (h | h) | h;exact .inl h;refine .inr ⟨p,List.mem_cons_self,.inl ?_⟩;rw [Nat.testBit_two_pow] at h;exact (of_decide_eq_true h).symm;exact .inr ⟨p,List.mem_cons_self,.inr h⟩;exact .inr ⟨q,List.mem_cons_of_mem _ hq,hj⟩
theorem Zsl: ∀(os:List Oper) (acc:List Nat) (k:Nat) (o:Oper),os[k]? =some o->∀j,((masks os acc).getD (acc.length+k) 0).testBit j=true->
    ∃p∈Zcs o,j=p∨((masks os acc).getD p 0).testBit j=true
  | [],acc,k,o,hk,j,h=>by simp at hk
  | o'::os,acc,0,o,hk,j,h=>by
    simp at hk;subst hk;rw [masks] at h ⊢;obtain ⟨t,ht,_⟩:=Zbst os (acc++[(Zcs o').foldl (fun s p=>s||| 2^p||| acc.getD p 0) 0]);rw [ht] at h ⊢;have hv:((acc++[(Zcs o').foldl (fun s p=>s||| 2^p||| acc.getD p 0) 0])++t).getD (acc.length+0) 0=(Zcs o').foldl (fun s p=>s||| 2^p||| acc.getD p 0) 0:=by simp [List.getD_eq_getElem?_getD]
    rw [hv] at h;rcases Zcjm (fun p=>acc.getD p 0) j _ _ h with h | ⟨p,hp,h⟩;simp at h
    . refine ⟨p,hp,h.imp_right fun h=>?_⟩;have hlt:p<acc.length:=by rcases Nat.lt_or_ge p acc.length with hl | hl;exact hl;rw [List.getD_eq_getElem?_getD,List.getElem?_eq_none hl] at h;simp at h
      have:((acc++[(Zcs o').foldl (fun s p=>s||| 2^p||| acc.getD p 0) 0])++t).getD p 0=acc.getD p 0:=by simp [List.getD_eq_getElem?_getD,List.getElem?_append,hlt]
      rw [this];exact h
  | o'::os,acc,k+1,o,hk,j,h=>by
    rw [masks] at h ⊢;refine Zsl os _ k o (by simpa using hk) j ?_
    simpa [Nat.add_assoc,Nat.add_comm 1 k] using h
def Zy (M:List Nat) (e i:Nat):Bool:=(M.getD i 0).testBit e
def Zmk (r s:Nat):Bool:=match r with
  | 0=>true
  | 1=>Nat.ble s 2||Nat.beq s 5
  | 2=>Nat.ble s 3
  | 5=>Nat.ble s 1||Nat.beq s 5
  | _=>false
def Zdr (P:Program) (C:List Tmp) (all:Array Oper) (M:List Nat) (e i:Nat):Bool:=
  Zy M e i||(match all.toList[e]?,all.toList[i]? with
    | some x,some y=>Znb all x y&&Zmk (Zbq P C x) (Zbq P C y)
    | _,_=>false)
def Zea (P:Program) (C:List Tmp) (all:Array Oper) (M:List Nat):List Nat->Bool
  | []=>true
  | e::l=>l.all (fun i=>Zdr P C all M e i)&&Zea P C all M l
def Zhv:Nat->List Oper->Bool
  | _,[]=>true
  | i,o::os=>(Zcs o).all (Nat.blt · i)&&Zhv (i+1) os
def Zdb:List Nat->Bool
  | []=>true
  | e::l=>!(memB e l)&&Zdb l
def Zht (P:Program) (C:List Tmp) (all:Array Oper) (l:List Nat):Bool:=
  Zdb l&&Nat.beq l.length all.size&&(List.range all.size).all (memB · l)&&l.all (Nat.blt · all.size)&&Zhv 0 all.toList&&Zea P C all (masks all.toList []) l
theorem Zov: ∀(os:List Oper) (i:Nat),Zhv i os=true->∀k o,os[k]? =some o->∀p∈Zcs o,p<i+k
  | [],i,_,k,o,hk,p,hp=>by simp at hk
  | o'::os,i,h,0,o,hk,p,hp=>by simp at hk;subst hk;simp only [Zhv,Bool.and_eq_true] at h;have:=List.all_eq_true.1 h.1 p hp;simpa using this
  | o'::os,i,h,k+1,o,hk,p,hp=>by
    simp only [Zhv,Bool.and_eq_true] at h;have:=Zov os (i+1) h.2 k o (by simpa using hk) p hp
    omega
theorem Zko {P:Program} {C:List Tmp} {all:Array Oper} {M:List Nat}: ∀(l1:List Nat) (i:Nat) (l2:List Nat),Zea P C all M (l1++i::l2)=true->
    (∀e∈l1,Zdr P C all M e i=true)∧Zea P C all M (l1++l2)=true
  | [],i,l2,h=>by simp only [List.nil_append,Zea,Bool.and_eq_true] at h;exact ⟨by simp,h.2⟩
  | e::l1,i,l2,h=>by
    simp only [List.cons_append,Zea,Bool.and_eq_true] at h;obtain ⟨h1,h2⟩:=h;obtain ⟨h3,h4⟩:=Zko l1 i l2 h2;have h1':=List.all_eq_true.1 h1;refine ⟨fun e' he'=>?_,?_⟩
    . rcases List.mem_cons.1 he' with rfl | he';exact h1' i (by simp)
      exact h3 e' he'
    simp only [List.cons_append,Zea,Bool.and_eq_true];refine ⟨List.all_eq_true.2 fun x hx=>h1' x ?_,h4⟩;simp at hx ⊢;rcases hx with hx | hx;exact .inl hx;exact .inr (.inr hx)
def Zh (all:Array Oper) (l:List Nat):List Oper:=l.filterMap fun i=>all.toList[i]?
theorem Zcst {P:Program} {S} {I:Heap->Prop} {C:List Tmp} (hS:Zhn P S I) (hR:Ranked S (Zbq P C)) {n:Nat} {all:Array Oper} {Q:Exit->Act->World->Prop} {K:Env->Heap->Prop} {w0:World}
    (hin:all.toList.all (opIn n all)=true) (hpred:Zhv 0 all.toList=true) (hQ: ∀ρ a w,Fits n D ρ a->I (hp w)->K ρ (hp w)->Rest w0 w->Q .normal a w):
    ∀(fuel:Nat) (listed:Array Bool) (l:List Nat),listed.size=all.size->l.Nodup->(∀i∈l,i<all.size)->(∀i,i<all.size->(listed.getD i true=false↔i∈l))->
      (∀i,i<all.size->listed.getD i true=true->∀j,Zy (masks all.toList []) j i=true->listed.getD j true=true)->
      Zea P C all (masks all.toList []) l=true->l.length <= fuel->
      ∀(ρ:Env) (a:Act) (w:World),Fits n D ρ a->I (hp w)->Rest w0 w->GWs all S (Zh all l) ρ (hp w) K->wpAnyIn (Fw r) 0 P .any all Q fuel listed a w:=by
  have preds_ok: ∀i o,all[i]? =some o->∀p∈Zcs o,p<i:=fun i o hi p hp'=>by
    have:=Zov all.toList 0 hpred i o (by simpa using hi) p hp'
    omega
  have mem_ready: ∀(listed:Array Bool) (i:Nat) (o:Oper),all[i]? =some o->(i∈Region.ready .any all listed↔(listed.getD i true=false∧∀p∈Zcs o,listed.getD p false=true)):=by
    intro listed i o hi;unfold Region.ready;have hlt:i<all.size:=(Array.getElem?_eq_some_iff.1 hi).1;rw [List.mem_filter];simp only [List.mem_range,hlt,true_and,hi,Option.map_some,Option.getD_some,Bool.and_eq_true,Bool.not_eq_true'];refine and_congr_right fun _=>?_;rw [← Array.all_toList,List.all_eq_true];constructor
    . intro h p hp';simp only [Zcs,List.mem_filterMap] at hp';obtain ⟨e,he,hb⟩:=hp';have:=h e he;cases hbb:Region.binds .any e with
      | false=>rw [hbb] at hb;cases hb
      | true=>
        rw [hbb] at hb this;cases hb;simpa using this
    . intro h e he;cases hbb:Region.binds .any e with
      | false=>rfl
      | true=>
        have:=h e.on (by simp only [Zcs,List.mem_filterMap];exact ⟨e,he,by rw [hbb]⟩)
        simp only [Bool.not_true,Bool.false_or];exact this
  intro fuel;induction fuel with
  | zero=>
    intro listed l hsz hnd hlt hmem hcl hpairs hlen ρ a w hf hI hr h;obtain rfl:l= []:=List.eq_nil_of_length_eq_zero (by omega)
    refine ⟨?_,hQ ρ a w hf hI h hr⟩;cases hrd:Region.ready .any all listed with
    | nil=>rfl
    | cons i rs=>
      have hi:i∈Region.ready .any all listed:=by rw [hrd];exact List.mem_cons_self
      have hi':i<all.size:=by unfold Region.ready at hi;simpa using (List.mem_filter.1 hi).1
      have:=((mem_ready listed i all[i] (Array.getElem?_eq_getElem hi')).1 hi).1;exact absurd ((hmem i hi').1 this) (by simp)
  | succ fuel ih=>
    intro listed l hsz hnd hlt hmem hcl hpairs hlen ρ a w hf hI hr h;refine ⟨fun hrd=>?_,fun i hi=>?_⟩
    ·
      have:l= []:=by
        cases hl:l with
        | nil=>rfl
        | cons x xs=>
          exfalso;have hne: ∃i,i∈l∧∀j∈l,i <= j:=by
            have: ∀l:List Nat,l≠[]->∃i,i∈l∧∀j∈l,i <= j:=by
              intro l;induction l with
              | nil=>intro h;exact absurd rfl h
              | cons x xs ih=>
                intro _;by_cases hx:xs= [];subst hx;exact ⟨x,by simp,by simp⟩
                . obtain ⟨i,hi,hm⟩:=ih hx;by_cases hle:x <= i;exact ⟨x,by simp,fun j hj=>by rcases List.mem_cons.1 hj with rfl | hj;omega;have:=hm j hj;omega⟩
                  exact ⟨i,by simp [hi],fun j hj=>by rcases List.mem_cons.1 hj with rfl | hj;omega;exact hm j hj⟩
            exact this l (by rw [hl];simp)
          obtain ⟨i,hi,hmin⟩:=hne;have hi':=hlt i hi;have hio:all[i]? =some all[i]:=Array.getElem?_eq_getElem hi';have:i∈Region.ready .any all listed:=(mem_ready listed i _ hio).2 ⟨(hmem i hi').2 hi,fun p hp'=>by
            have hpi:=preds_ok i _ hio p hp';have hpn:p∉l:=fun hp''=>by have:=hmin p hp'';omega
            have hps:p<all.size:=by omega
            cases hlp:listed.getD p true with
            | false=>exact absurd ((hmem p hps).1 hlp) hpn
            | true=>
              rw [Array.getD_eq_getD_getElem?,Array.getElem?_eq_getElem (by omega)] at hlp ⊢
              exact hlp⟩
          rw [hrd] at this;cases this
      subst this;exact hQ ρ a w hf hI h hr
    . have hi':i<all.size:=by unfold Region.ready at hi;simpa using (List.mem_filter.1 hi).1
      have hio:all[i]? =some all[i]:=Array.getElem?_eq_getElem hi';obtain ⟨hun,hprs⟩:=(mem_ready listed i _ hio).1 hi;have hil:i∈l:=(hmem i hi').1 hun;obtain ⟨l1,l2,rfl⟩:=List.append_of_mem hil;obtain ⟨hp1,hp2⟩:=Zko l1 i l2 hpairs;have listed_of: ∀p,p<all.size->listed.getD p false=true->listed.getD p true=true:=fun p hps h=>by
        rw [Array.getD_eq_getD_getElem?,Array.getElem?_eq_getElem (by omega)] at h ⊢
        exact h
      have reach_listed: ∀e,Zy (masks all.toList []) e i=true->listed.getD e true=true:=fun e he=>by
        have hb:=Zsl all.toList [] i all[i] (by simp [hi']) e (by simpa [Zy] using he)
        obtain ⟨p,hp',hj⟩:=hb;have hpi:=preds_ok i _ hio p hp';have hpl:=listed_of p (by omega) (hprs p hp')
        rcases hj with rfl | hj;exact hpl;exact hcl p (by omega) hpl e hj
      have hfront:GWs all S (all[i]::(Zh all l1++Zh all l2)) ρ (hp w) K:=by
        have hsplit:Zh all (l1++i::l2)=Zh all l1++all[i]::Zh all l2:=by simp [Zh,List.filterMap_append,hi']
        rw [hsplit] at h;refine GWs.front hR.toNice _ _ (fun x hx=>?_) _ _ h;simp only [Zh,List.mem_filterMap] at hx;obtain ⟨e,he,hxe⟩:=hx;have hpe:=hp1 e he;unfold Zdr at hpe;have hnr:Zy (masks all.toList []) e i=false:=by
          cases hre:Zy (masks all.toList []) e i with
          | false=>rfl
          | true=>
            have h1:=reach_listed e hre;have h2:=(hmem e (hlt e (by simp [he]))).2 (by simp [he])
            rw [h1] at h2;cases h2
        rw [hnr] at hpe;have hi2:all.toList[i]? =some all[i]:=by simp [hi']
        rw [hxe,hi2] at hpe;simp only [Bool.false_or,Bool.and_eq_true] at hpe;refine ⟨hpe.1,hR.swaps ?_⟩;have hs:=hpe.2;generalize Zbq P C x=r at hs;generalize Zbq P C all[i]=s at hs;unfold Zmk at hs;split at hs;exact .inl rfl
        . simp only [Bool.or_eq_true] at hs;rcases hs with hs | hs;exact .inr (.inl ⟨by omega,Nat.le_of_ble_eq_true hs⟩)
          exact .inr (.inr (.inr ⟨.inl rfl,.inr (Nat.eq_of_beq_eq_true hs)⟩))
        . have:=Nat.le_of_ble_eq_true hs;rcases Nat.lt_or_ge s 3 with h | h;exact .inr (.inl ⟨by omega,by omega⟩)
          exact .inr (.inr (.inl ⟨rfl,by omega⟩))
        simp only [Bool.or_eq_true] at hs;rcases hs with hs | hs;exact .inr (.inr (.inr ⟨.inr rfl,.inl (Nat.le_of_ble_eq_true hs)⟩));exact .inr (.inr (.inr ⟨.inr rfl,.inr (Nat.eq_of_beq_eq_true hs)⟩));cases hs
      have hin':opIn n all all[i]=true:=List.all_eq_true.1 hin _ (by simp)
      refine Znf hS hio hin' hf hI hfront fun ρ' a' w' hf' hI' hk hr'=>?_;have hnd':=List.nodup_append.1 hnd;have hni1:i∉l1:=fun hc=>hnd'.2.2 i hc i (by simp) rfl
      have hni2:i∉l2:=(List.nodup_cons.1 hnd'.2.1).1;have hopsj:Zh all l1++Zh all l2=Zh all (l1++l2):=by simp [Zh]
      rw [hopsj] at hk;have getD_set: ∀k,k<all.size->(listed.setIfInBounds i true).getD k true=if k=i then true else listed.getD k true:=by intro k hks;simp only [Array.getD_eq_getD_getElem?,Array.getElem?_setIfInBounds];by_cases e:k=i;subst e;simp [hsz,hks];rw [if_neg (fun e'=>e e'.symm),if_neg e]
      refine ih _ (l1++l2) (by simp [hsz]) ?_ (fun k hk'=>hlt k (by simp at hk' ⊢;rcases hk' with h | h;exact .inl h;exact .inr (.inr h))) (fun k hks=>?_) (fun k hks hlk j hj=>?_) hp2 (by simp at hlen ⊢;omega) ρ' a' w' hf' hI' (hr.trans hr') hk
      refine List.nodup_append.2 ⟨hnd'.1,(List.nodup_cons.1 hnd'.2.1).2,fun x hx y hy=>hnd'.2.2 x hx y (by simp [hy])⟩
      rw [getD_set k hks];by_cases e:k=i;subst e;simp [hni1,hni2];rw [if_neg e,hmem k hks];simp [e]
      . rw [getD_set k hks] at hlk;have hold:listed.getD j true=true->(listed.setIfInBounds i true).getD j true=true:=by intro h;simp only [Array.getD_eq_getD_getElem?,Array.getElem?_setIfInBounds] at h ⊢;by_cases e:i=j;subst e;simp [hsz,hi'];rw [if_neg e];exact h
        by_cases e:k=i;subst e;exact hold (reach_listed j hj);rw [if_neg e] at hlk;exact hold (hcl k hks hlk j hj)
theorem Zcvg {P:Program} {S} {I:Heap->Prop} {C:List Tmp} (hS:Zhn P S I) (hR:Ranked S (Zbq P C)) {n:Nat} {all:Array Oper} {Q:Exit->Act->World->Prop} {K:Env->Heap->Prop} {w0:World}
    (hin:all.toList.all (opIn n all)=true) (hpred:Zhv 0 all.toList=true) (hQ: ∀ρ a w,Fits n D ρ a->K ρ (hp w)->Rest w0 w->Q .normal a w):
    ∀(fuel:Nat) (listed:Array Bool) (l zs:List Nat),listed.size=all.size->(l++zs).Nodup->(∀i∈l++zs,i<all.size)->(∀i,i<all.size->(listed.getD i true=false↔i∈l++zs))->
      (∀i,i<all.size->listed.getD i true=true->∀j,Zy (masks all.toList []) j i=true->listed.getD j true=true)->
      Zea P C all (masks all.toList []) l=true->(∀e∈l,∀z∈zs,Zy (masks all.toList []) e z=true)->zs.Pairwise (fun e z=>Zy (masks all.toList []) e z=true)->(l++zs).length <= fuel->
      ∀(ρ:Env) (a:Act) (w:World),Fits n D ρ a->(l= []∨I (hp w))->Rest w0 w->GWs all S (Zh all l) ρ (hp w) (fun ρ' H'=>GWs all (OpW P) (Zh all zs) ρ' H' K)->wpAnyIn (Fw r) 0 P .any all Q fuel listed a w:=by
  have preds_ok: ∀i o,all[i]? =some o->∀p∈Zcs o,p<i:=fun i o hi p hp'=>by
    have:=Zov all.toList 0 hpred i o (by simpa using hi) p hp'
    omega
  have mem_ready: ∀(listed:Array Bool) (i:Nat) (o:Oper),all[i]? =some o->(i∈Region.ready .any all listed↔(listed.getD i true=false∧∀p∈Zcs o,listed.getD p false=true)):=by
    intro listed i o hi;unfold Region.ready;have hlt:i<all.size:=(Array.getElem?_eq_some_iff.1 hi).1;rw [List.mem_filter];simp only [List.mem_range,hlt,true_and,hi,Option.map_some,Option.getD_some,Bool.and_eq_true,Bool.not_eq_true'];refine and_congr_right fun _=>?_;rw [← Array.all_toList,List.all_eq_true];constructor
    . intro h p hp';simp only [Zcs,List.mem_filterMap] at hp';obtain ⟨e,he,hb⟩:=hp';have:=h e he;cases hbb:Region.binds .any e with
      | false=>rw [hbb] at hb;cases hb
      | true=>
        rw [hbb] at hb this;cases hb;simpa using this
    . intro h e he;cases hbb:Region.binds .any e with
      | false=>rfl
      | true=>
        have:=h e.on (by simp only [Zcs,List.mem_filterMap];exact ⟨e,he,by rw [hbb]⟩)
        simp only [Bool.not_true,Bool.false_or];exact this
  intro fuel;induction fuel with
  | zero=>
    intro listed l zs hsz hnd hlt hmem hcl hpairs hlz hzs hlen ρ a w hf hI hr h;obtain ⟨rfl,rfl⟩:l= []∧zs= []:=by simpa using (List.eq_nil_of_length_eq_zero (by omega):l++zs= [])
    refine ⟨?_,hQ ρ a w hf h hr⟩;cases hrd:Region.ready .any all listed with
    | nil=>rfl
    | cons i rs=>
      have hi:i∈Region.ready .any all listed:=by rw [hrd];exact List.mem_cons_self
      have hi':i<all.size:=by unfold Region.ready at hi;simpa using (List.mem_filter.1 hi).1
      have:=((mem_ready listed i all[i] (Array.getElem?_eq_getElem hi')).1 hi).1;exact absurd ((hmem i hi').1 this) (by simp)
  | succ fuel ih=>
    intro listed l zs hsz hnd hlt hmem hcl hpairs hlz hzs hlen ρ a w hf hI hr h;refine ⟨fun hrd=>?_,fun i hi=>?_⟩
    ·
      have:l++zs= []:=by
        cases hl:l++zs with
        | nil=>rfl
        | cons x xs=>
          exfalso;have hne: ∃i,i∈l++zs∧∀j∈l++zs,i <= j:=by
            have: ∀l:List Nat,l≠[]->∃i,i∈l∧∀j∈l,i <= j:=by
              intro l;induction l with
              | nil=>intro h;exact absurd rfl h
              | cons x xs ih=>
                intro _;by_cases hx:xs= [];subst hx;exact ⟨x,by simp,by simp⟩
                . obtain ⟨i,hi,hm⟩:=ih hx;by_cases hle:x <= i;exact ⟨x,by simp,fun j hj=>by rcases List.mem_cons.1 hj with rfl | hj;omega;have:=hm j hj;omega⟩
                  exact ⟨i,by simp [hi],fun j hj=>by rcases List.mem_cons.1 hj with rfl | hj;omega;exact hm j hj⟩
            exact this (l++zs) (by rw [hl];simp)
          obtain ⟨i,hi,hmin⟩:=hne;have hi':=hlt i hi;have hio:all[i]? =some all[i]:=Array.getElem?_eq_getElem hi';have:i∈Region.ready .any all listed:=(mem_ready listed i _ hio).2 ⟨(hmem i hi').2 hi,fun p hp'=>by
            have hpi:=preds_ok i _ hio p hp';have hpn:p∉l++zs:=fun hp''=>by have:=hmin p hp'';omega
            have hps:p<all.size:=by omega
            cases hlp:listed.getD p true with
            | false=>exact absurd ((hmem p hps).1 hlp) hpn
            | true=>
              rw [Array.getD_eq_getD_getElem?,Array.getElem?_eq_getElem (by omega)] at hlp ⊢
              exact hlp⟩
          rw [hrd] at this;cases this
      obtain ⟨rfl,rfl⟩:=List.append_eq_nil_iff.1 this;exact hQ ρ a w hf h hr
    . have hi':i<all.size:=by unfold Region.ready at hi;simpa using (List.mem_filter.1 hi).1
      have hio:all[i]? =some all[i]:=Array.getElem?_eq_getElem hi';obtain ⟨hun,hprs⟩:=(mem_ready listed i _ hio).1 hi;have hilz:i∈l++zs:=(hmem i hi').1 hun;have listed_of: ∀p,p<all.size->listed.getD p false=true->listed.getD p true=true:=fun p hps h=>by
        rw [Array.getD_eq_getD_getElem?,Array.getElem?_eq_getElem (by omega)] at h ⊢
        exact h
      have reach_listed: ∀e,Zy (masks all.toList []) e i=true->listed.getD e true=true:=fun e he=>by
        have hb:=Zsl all.toList [] i all[i] (by simp [hi']) e (by simpa [Zy] using he)
        obtain ⟨p,hp',hj⟩:=hb;have hpi:=preds_ok i _ hio p hp';have hpl:=listed_of p (by omega) (hprs p hp')
        rcases hj with rfl | hj;exact hpl;exact hcl p (by omega) hpl e hj
      have hin':opIn n all all[i]=true:=List.all_eq_true.1 hin _ (by simp)
      have getD_set: ∀k,k<all.size->(listed.setIfInBounds i true).getD k true=if k=i then true else listed.getD k true:=by intro k hks;simp only [Array.getD_eq_getD_getElem?,Array.getElem?_setIfInBounds];by_cases e:k=i;subst e;simp [hsz,hks];rw [if_neg (fun e'=>e e'.symm),if_neg e]
      have hcl2: ∀k,k<all.size->(listed.setIfInBounds i true).getD k true=true->∀j,Zy (masks all.toList []) j k=true->(listed.setIfInBounds i true).getD j true=true:=fun k hks hlk j hj=>by
        rw [getD_set k hks] at hlk;have hold:listed.getD j true=true->(listed.setIfInBounds i true).getD j true=true:=by intro h;simp only [Array.getD_eq_getD_getElem?,Array.getElem?_setIfInBounds] at h ⊢;by_cases e:i=j;subst e;simp [hsz,hi'];rw [if_neg e];exact h
        by_cases e:k=i;subst e;exact hold (reach_listed j hj);rw [if_neg e] at hlk;exact hold (hcl k hks hlk j hj)
      have unl: ∀e∈l++zs,Zy (masks all.toList []) e i=true->False:=fun e he hre=>by have h1:=reach_listed e hre;have h2:=(hmem e (hlt e he)).2 he;rw [h1] at h2;cases h2
      rcases List.mem_append.1 hilz with hil | hiz
      case inr=>
        have hl0:l= []:=by
          cases hl:l with
          | nil=>rfl
          | cons e es=>exact (unl e (by simp [hl]) (hlz e (by simp [hl]) i hiz)).elim
        subst hl0;obtain ⟨z1,zs',rfl⟩:=List.append_of_mem hiz;have hz1:z1= []:=by
          cases hl:z1 with
          | nil=>rfl
          | cons e es=>
            subst hl;exact (unl e (by simp) ((List.pairwise_append.1 hzs).2.2 e (by simp) i (by simp))).elim
        subst hz1;simp only [List.nil_append] at hnd hlt hmem hzs hlen unl h;have hsplit:Zh all (i::zs')=all[i]::Zh all zs':=by simp [Zh,hi']
        have h':GWs all (OpW P) (all[i]::Zh all zs') ρ (hp w) K:=by rw [← hsplit];exact h
        refine Znf (Zns P) hio hin' hf trivial h' fun ρ' a' w' hf' _ hk hr'=>?_;have hni:i∉zs':=(List.nodup_cons.1 hnd).1;refine ih _ [] zs' (by simp [hsz]) (by simpa using (List.nodup_cons.1 hnd).2) (fun k hk'=>hlt k (by simp at hk' ⊢;exact .inr hk')) (fun k hks=>?_) hcl2 rfl (fun e he=>by simp at he) (List.pairwise_cons.1 hzs).2 (by simp at hlen ⊢;omega) ρ' a' w' hf' (.inl rfl) (hr.trans hr') hk
        rw [getD_set k hks];by_cases e:k=i;subst e;simp [hni];rw [if_neg e,hmem k hks];simp [e]
      have hI2:I (hp w):=by rcases hI with hI | hI;subst hI;simp at hil;exact hI
      obtain ⟨l1,l2,rfl⟩:=List.append_of_mem hil;obtain ⟨hp1,hp2⟩:=Zko l1 i l2 hpairs;have hfront:GWs all S (all[i]::(Zh all l1++Zh all l2)) ρ (hp w) (fun ρ' H'=>GWs all (OpW P) (Zh all zs) ρ' H' K):=by
        have hsplit:Zh all (l1++i::l2)=Zh all l1++all[i]::Zh all l2:=by simp [Zh,List.filterMap_append,hi']
        rw [hsplit] at h;refine GWs.front hR.toNice _ _ (fun x hx=>?_) _ _ h;simp only [Zh,List.mem_filterMap] at hx;obtain ⟨e,he,hxe⟩:=hx;have hpe:=hp1 e he;unfold Zdr at hpe;have hnr:Zy (masks all.toList []) e i=false:=by
          cases hre:Zy (masks all.toList []) e i with
          | false=>rfl
          | true=>
            exact (unl e (by simp [he]) hre).elim
        rw [hnr] at hpe;have hi2:all.toList[i]? =some all[i]:=by simp [hi']
        rw [hxe,hi2] at hpe;simp only [Bool.false_or,Bool.and_eq_true] at hpe;refine ⟨hpe.1,hR.swaps ?_⟩;have hs:=hpe.2;generalize Zbq P C x=r at hs;generalize Zbq P C all[i]=s at hs;unfold Zmk at hs;split at hs;exact .inl rfl
        . simp only [Bool.or_eq_true] at hs;rcases hs with hs | hs;exact .inr (.inl ⟨by omega,Nat.le_of_ble_eq_true hs⟩)
          exact .inr (.inr (.inr ⟨.inl rfl,.inr (Nat.eq_of_beq_eq_true hs)⟩))
        . have:=Nat.le_of_ble_eq_true hs;rcases Nat.lt_or_ge s 3 with h | h;exact .inr (.inl ⟨by omega,by omega⟩)
          exact .inr (.inr (.inl ⟨rfl,by omega⟩))
        simp only [Bool.or_eq_true] at hs;rcases hs with hs | hs;exact .inr (.inr (.inr ⟨.inr rfl,.inl (Nat.le_of_ble_eq_true hs)⟩));exact .inr (.inr (.inr ⟨.inr rfl,.inr (Nat.eq_of_beq_eq_true hs)⟩));cases hs
      refine Znf hS hio hin' hf hI2 hfront fun ρ' a' w' hf' hI' hk hr'=>?_;have hnd1:=List.nodup_append.1 hnd;have hnd':=List.nodup_append.1 hnd1.1;have hni1:i∉l1:=fun hc=>hnd'.2.2 i hc i (by simp) rfl
      have hni2:i∉l2:=(List.nodup_cons.1 hnd'.2.1).1;have hniz:i∉zs:=fun hc=>hnd1.2.2 i (by simp) i hc rfl
      have hopsj:Zh all l1++Zh all l2=Zh all (l1++l2):=by simp [Zh]
      rw [hopsj] at hk;refine ih _ (l1++l2) zs (by simp [hsz]) ?_ (fun k hk'=>hlt k (by simp only [List.mem_append,List.mem_cons] at hk' ⊢;rcases hk' with (h | h) | h;exact .inl (.inl h);exact .inl (.inr (.inr h));exact .inr h)) (fun k hks=>?_) hcl2 hp2 (fun e he z hz=>hlz e (by simp only [List.mem_append,List.mem_cons] at he ⊢;rcases he with h | h;exact .inl h;exact .inr (.inr h)) z hz) hzs (by simp at hlen ⊢;omega) ρ' a' w' hf' (.inr hI') (hr.trans hr') hk
      refine List.nodup_append.2 ⟨List.nodup_append.2 ⟨hnd'.1,(List.nodup_cons.1 hnd'.2.1).2,fun x hx y hy=>hnd'.2.2 x hx y (by simp [hy])⟩,hnd1.2.1,fun x hx y hy=>hnd1.2.2 x (by simp only [List.mem_append,List.mem_cons] at hx ⊢;rcases hx with h | h;exact .inl h;exact .inr (.inr h)) y hy⟩
      rw [getD_set k hks];by_cases e:k=i;subst e;simp [hni1,hni2,hniz];rw [if_neg e,hmem k hks];simp [e]
def Zvf (M:List Nat):Nat->List Nat->Bool
  | _,[]=>true
  | m,z::zs=>Nat.beq (Nat.land (M.getD z 0) m) m&&Zvf M (Nat.lor m (Nat.pow 2 z)) zs
def Zkq (M:List Nat):Nat->List Nat->Nat
  | _,[]=>0
  | m,x::xs=>match Zvf M m (x::xs) with
    | true=>0
    | false=>Zkq M (Nat.lor m (Nat.pow 2 x)) xs+1
def Zdt (all:Array Oper) (l:List Nat):Nat:=Zkq (masks all.toList []) 0 l
theorem Zbxq (M:List Nat): ∀(zs pre:List Nat) (m:Nat),Zvf M m zs=true->(∀e∈pre,m.testBit e=true)->(∀e∈pre,∀z∈zs,Zy M e z=true)∧zs.Pairwise (fun e z=>Zy M e z=true)
  | [],pre,m,_,_=>⟨fun _ _ _ h=>by simp at h,.nil⟩
  | z::zs,pre,m,h,hm=>by
    simp only [Zvf,Bool.and_eq_true] at h;obtain ⟨h1,h2⟩:=h;have h1:=Nat.eq_of_beq_eq_true h1;have hz: ∀e∈pre,Zy M e z=true:=fun e he=>by have:=hm e he;rw [← h1] at this;have h3:(M.getD z 0&&& m).testBit e=true:=this;rw [Nat.testBit_and,Bool.and_eq_true] at h3;exact h3.1
    obtain ⟨q1,q2⟩:=Zbxq M zs (pre++[z]) _ h2 (fun e he=>by
      show (m||| 2^z).testBit e=true;rw [Nat.testBit_or,Bool.or_eq_true];rcases List.mem_append.1 he with he | he;exact .inl (hm e he)
      . simp only [List.mem_singleton] at he;subst he;exact .inr (Nat.testBit_two_pow_self))
    refine ⟨fun e he y hy=>?_,List.pairwise_cons.2 ⟨fun y hy=>q1 z (by simp) y hy,q2⟩⟩
    rcases List.mem_cons.1 hy with rfl | hy;exact hz e he;exact q1 e (by simp [he]) y hy
theorem Zbts (M:List Nat): ∀(l:List Nat) (pre:List Nat) (m:Nat),(∀e∈pre,m.testBit e=true)->
    (∀e∈pre++l.take (Zkq M m l),∀z∈l.drop (Zkq M m l),Zy M e z=true)∧(l.drop (Zkq M m l)).Pairwise (fun e z=>Zy M e z=true)
  | [],pre,m,_=>by simp [Zkq]
  | x::xs,pre,m,hm=>by
    unfold Zkq;split;rename_i h;simpa using Zbxq M (x::xs) pre m h hm
    . have:=Zbts M xs (pre++[x]) (Nat.lor m (Nat.pow 2 x)) (fun e he=>by
        show (m||| 2^x).testBit e=true;rw [Nat.testBit_or,Bool.or_eq_true];rcases List.mem_append.1 he with he | he;exact .inl (hm e he)
        . simp only [List.mem_singleton] at he;subst he;exact .inr (Nat.testBit_two_pow_self))
      simpa using this
theorem Zbwe {P:Program} {C:List Tmp} {all:Array Oper} {M:List Nat}: ∀(l:List Nat) (n:Nat),Zea P C all M l=true->Zea P C all M (l.take n)=true
  | [],n,_=>by simp [Zea]
  | x::xs,0,_=>rfl
  | x::xs,n+1,h=>by simp only [Zea,List.take_succ_cons,Bool.and_eq_true] at h ⊢;refine ⟨List.all_eq_true.2 fun y hy=>List.all_eq_true.1 h.1 y (List.mem_of_mem_take hy),Zbwe xs n h.2⟩
theorem Zbju {P:Program} {S} {I:Heap->Prop} {C:List Tmp} (hS:Zhn P S I) (hR:Ranked S (Zbq P C)) (hm:P.follows .mixedOrders=true) {n id:Nat} {all:Array Oper} {l:List Nat} {Q:Exit->Act->World->Prop} {K:Env->Heap->Prop}
    (hin:all.toList.all (opIn n all)=true) (hd:Zht P C all l=true) {ρ:Env} {a:Act} {w:World} (hf:Fits n D ρ a) (hI:I (hp w)) (h:GWs all S (Zh all l) ρ (hp w) K)
    (hQ: ∀ρ a w',Fits n D ρ a->I (hp w')->K ρ (hp w')->Rest w w'->Q .normal a w'):(Code.region id all true).wpIn (Fw r) 0 P Q a w:=by
  simp only [Zht,Bool.and_eq_true] at hd;obtain ⟨⟨⟨⟨⟨h1,h2⟩,h0⟩,h3⟩,h4⟩,h5⟩:=hd;have h2':=Nat.eq_of_beq_eq_true h2;have hlt: ∀i∈l,i<all.size:=fun i hi=>by simpa using List.all_eq_true.1 h3 i hi
  have hnd:l.Nodup:=by
    clear h h0 h2 h2' h3 h4 h5 hlt;induction l with
    | nil=>simp
    | cons x xs ih=>
      simp only [Zdb,Bool.and_eq_true,Bool.not_eq_true'] at h1;refine List.nodup_cons.2 ⟨fun hc=>?_,ih h1.2⟩;rw [Zca.2 hc] at h1;cases h1.1
  have hall: ∀i,i<all.size->i∈l:=fun i hi=>Zca.1 (List.all_eq_true.1 h0 i (List.mem_range.2 hi));refine wpIn_region_any hm ?_;refine Zcst hS hR (w0:=w) hin h4 hQ all.size _ l (by simp) hnd hlt (fun i hi=>?_) (fun i hi hli=>?_) h5 (by omega) ρ a _ hf hI ⟨rfl,rfl,rfl,fun _ _ h=>h,Nat.le_refl _⟩ h
  have:=hall i hi;simp [Array.getD_eq_getD_getElem?,hi,this];simp [Array.getD_eq_getD_getElem?,hi] at hli
theorem Zchb {P:Program} {S} {I:Heap->Prop} {C:List Tmp} (hS:Zhn P S I) (hR:Ranked S (Zbq P C)) (hm:P.follows .mixedOrders=true) {n id:Nat} {all:Array Oper} {l:List Nat} {Q:Exit->Act->World->Prop} {K:Env->Heap->Prop}
    (hin:all.toList.all (opIn n all)=true) (hd:Zht P C all l=true) {ρ:Env} {a:Act} {w:World} (hf:Fits n D ρ a) (hI:I (hp w)) (h:GWs all S (Zh all (l.take (Zdt all l))) ρ (hp w) fun ρ' H'=>GWs all (OpW P) (Zh all (l.drop (Zdt all l))) ρ' H' K)
    (hQ: ∀ρ a w',Fits n D ρ a->K ρ (hp w')->Rest w w'->Q .normal a w'):(Code.region id all true).wpIn (Fw r) 0 P Q a w:=by
  simp only [Zht,Bool.and_eq_true] at hd;obtain ⟨⟨⟨⟨⟨h1,h2⟩,h0⟩,h3⟩,h4⟩,h5⟩:=hd;have h2':=Nat.eq_of_beq_eq_true h2;have hlt: ∀i∈l,i<all.size:=fun i hi=>by simpa using List.all_eq_true.1 h3 i hi
  have hnd:l.Nodup:=by
    clear h h0 h2 h2' h3 h4 h5 hlt;induction l with
    | nil=>simp
    | cons x xs ih=>
      simp only [Zdb,Bool.and_eq_true,Bool.not_eq_true'] at h1;refine List.nodup_cons.2 ⟨fun hc=>?_,ih h1.2⟩;rw [Zca.2 hc] at h1;cases h1.1
  have hall: ∀i,i<all.size->i∈l:=fun i hi=>Zca.1 (List.all_eq_true.1 h0 i (List.mem_range.2 hi));refine wpIn_region_any hm ?_;obtain ⟨t1,t2⟩:=Zbts (masks all.toList []) l [] 0 (fun e he=>by simp at he)
  have el:l.take (Zdt all l)++l.drop (Zdt all l)=l:=List.take_append_drop _ _;refine Zcvg hS hR (w0:=w) hin h4 hQ all.size _ (l.take (Zdt all l)) (l.drop (Zdt all l)) (by simp) (by rw [el];exact hnd) (by rw [el];exact hlt) (fun i hi=>?_) (fun i hi hli=>?_) (Zbwe _ _ h5) (by simpa [Zdt] using t1) t2 (by rw [el];omega) ρ a _ hf (.inr hI) ⟨rfl,rfl,rfl,fun _ _ h=>h,Nat.le_refl _⟩ h
  have:=hall i hi;rw [el];simp [Array.getD_eq_getD_getElem?,hi,this];simp [Array.getD_eq_getD_getElem?,hi] at hli
end Go.Sh
end
