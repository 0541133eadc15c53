/-
  Values that are built of new blocks alone:frozen parts of the heap,and rows that grow.
-/
import Derived.Test.YtlkdgfolbllngaaGreatDoorWA
import Derived.Test.YtlkdgfolbllngaaGreatDoorGA
import Derived.Test.YtlkdgfolbllngaaGreatDoorBI
import Derived.Test.YtlkdgfolbllngaaGreatDoorGB
import Derived.Test.YtlkdgfolbllngaaGreatDoorEB
import Derived.Deep.Slices
set_option linter.all false
section
set_option maxRecDepth 100000
namespace Go.Proofs.YtlkdgfolbllngaaGreatDoor
open Go.Sh Go.Pc
section
variable {H0 F F' H H' H1:Heap} {α:Type}
def jn (F F':Heap):Heap:=⟨fun b=>match F b with | some o=>some o | none=>F' b,by
  obtain ⟨n,hn⟩:=F.fin;obtain ⟨m,hm⟩:=F'.fin;exact ⟨max n m,fun b hb=>by rw [hn b (by omega)];exact hm b (by omega)⟩⟩
theorem Zup (b:Nat) (h:F b≠none):jn F F' b=F b:=by
  show (match F b with | some o=>some o | none=>F' b)=_
  cases hb:F b with
  | some o=>rfl
  | none=>exact absurd hb h
theorem Zkx (b:Nat) (h:F b=none):jn F F' b=F' b:=by
  show (match F b with | some o=>some o | none=>F' b)=_
  rw [h]
structure Fr (H0 F H:Heap):Prop where
  k:Keep Nil H0 H
  fr:Keep Nil F H
  nw: ∀b,F b≠none->H0 b=none
  cells: ∀b,F b≠none->∃c T f,F b=some (.cells c T f)
theorem Fr.start:Fr H emp H:=⟨Keep.refl _ _,⟨fun b _ h=>absurd rfl h,fun b h=>absurd rfl h⟩,fun b h=>absurd rfl h,fun b h=>absurd rfl h⟩
theorem Fr.nil (f:Fr H0 F H) (k:Keep Nil H H'):Fr H0 F H':=⟨f.k.trans k,f.fr.trans k,f.nw,f.cells⟩
structure Lq (H0 F H:Heap) (q:Nat) (T:TypeId) (vs:List Value):Prop where
  nw:H0 q=none
  nf:F q=none
  blk:Blk H q T ⟨vs⟩
theorem Fr.lq (f:Fr H0 F H) {q:Nat} {T:TypeId} {vs:List Value} (hq:H q=none) (hb:Blk H' q T ⟨vs⟩):Lq H0 F H' q T vs:=⟨f.k.free hq,Classical.byContradiction fun e=>(f.fr.live q e) hq,hb⟩
theorem Lq.nil {q:Nat} {T:TypeId} {vs:List Value} (l:Lq H0 F H q T vs) (k:Keep Nil H H'):Lq H0 F H' q T vs:=⟨l.nw,l.nf,k.blk l.blk id⟩
theorem Fr.wr (f:Fr H0 F H) {q:Nat} {T:TypeId} {vs:List Value} (l:Lq H0 F H q T vs) (k:Keep (fun y=>y=q) H H'):Fr H0 F H':=
  ⟨f.k.then k fun y hy=> .inr (hy▸l.nw),⟨fun y _ hy=>by
    rw [k.same y (fun e=>hy (by rw [e];exact l.nf)) (f.fr.live y hy)];exact f.fr.same y id hy,fun y hy=>k.live y (f.fr.live y hy)⟩,f.nw,f.cells⟩
theorem Lq.wr {q:Nat} {T:TypeId} {vs ws:List Value} (l:Lq H0 F H q T vs) (hb:Blk H' q T ⟨ws⟩):Lq H0 F H' q T ws:=⟨l.nw,l.nf,hb⟩
theorem Lq.other {q r:Nat} {T:TypeId} {vs:List Value} (l:Lq H0 F H q T vs) (k:Keep (fun y=>y=r) H H') (hne:q≠r):Lq H0 F H' q T vs:=⟨l.nw,l.nf,k.blk l.blk hne⟩
theorem Fr.add (f:Fr H0 F H) (g:Fr H F' H'):Fr H0 (jn F F') H'∧Keep Nil F (jn F F')∧Keep Nil F' (jn F F')∧∀q,F q=none->H q≠none->jn F F' q=none:=by
  have dis: ∀b,F' b≠none->F b=none:=fun b h=>Classical.byContradiction fun e=>(f.fr.live b e) (g.nw b h);refine ⟨⟨f.k.trans g.k,⟨fun b _ h=>?_,fun b h=>?_⟩,fun b h=>?_,fun b h=>?_⟩,⟨fun b _ h=>Zup b h,fun b h=>by rw [Zup b h];exact h⟩,⟨fun b _ h=>Zkx b (dis b h),fun b h=>by rw [Zkx b (dis b h)];exact h⟩,fun q h1 h2=>?_⟩
  by_cases e:F b=none;rw [Zkx b e] at h ⊢;exact g.fr.same b id h;rw [Zup b e];exact (f.fr.trans g.k).same b id e;by_cases e:F b=none;rw [Zkx b e] at h;exact g.fr.live b h;exact (f.fr.trans g.k).live b e;by_cases e:F b=none;rw [Zkx b e] at h;exact f.k.free (g.nw b h);exact f.nw b e;by_cases e:F b=none;rw [Zkx b e] at h ⊢;exact g.cells b h;rw [Zup b e];exact f.cells b e;rw [Zkx q h1];exact Classical.byContradiction fun e=>h2 (g.nw q e)
theorem Lq.add {q:Nat} {T:TypeId} {vs:List Value} (l:Lq H0 F H q T vs) (f:Fr H0 F H) (g:Fr H F' H'):Lq H0 (jn F F') H' q T vs:=⟨l.nw,(f.add g).2.2.2 q l.nf l.blk.some,g.k.blk l.blk id⟩
theorem Fr.freeze (f:Fr H0 F H) {q:Nat} {T:TypeId} {vs:List Value} (l:Lq H0 F H q T vs): ∃F',Fr H0 F' H∧Keep Nil F F'∧Blk F' q T ⟨vs⟩∧∀y,y≠q->F' y=F y:=by
  refine ⟨F.upd q (.cells ⟨vs⟩ T (0,0)),⟨f.k,⟨fun b _ h=>?_,fun b h=>?_⟩,fun b h=>?_,fun b h=>?_⟩,⟨fun b _ h=>upd_ne fun e=>h (by rw [e];exact l.nf),fun b h=>by rw [upd_ne fun e=>h (by rw [e];exact l.nf)];exact h⟩,Blk.upd_eq,fun y hy=>upd_ne hy⟩
  by_cases e:b=q;subst e;rw [upd_eq];exact l.blk;rw [upd_ne e] at h ⊢;exact f.fr.same b id h;by_cases e:b=q;subst e;exact l.blk.some;rw [upd_ne e] at h;exact f.fr.live b h;by_cases e:b=q;subst e;exact l.nw;rw [upd_ne e] at h;exact f.nw b h;by_cases e:b=q;subst e;exact ⟨_,_,_,upd_eq⟩;rw [upd_ne e] at h ⊢;exact f.cells b h
theorem Fr.shut (f:Fr H0 F H) (hs:Shut H0 H H'):Fr H0 F H':=by refine ⟨Zh f.k hs,⟨fun b _ h=>?_,fun b h=>?_⟩,f.nw,f.cells⟩;obtain ⟨c,T,fz,e⟩:=f.cells b h;rcases hs b with e2 | ⟨_,e2,_⟩;rw [e2];exact f.fr.same b id h;rw [f.fr.same b id h,e] at e2;cases e2;rcases hs b with e | ⟨_,_,e⟩;rw [e];exact f.fr.live b h;rw [e];simp
structure Gq (P:Heap->List Value->α->Prop) (sz:Nat) (Tq:TypeId) (H0 F H:Heap) (a:Option Addr) (n cap:Nat) (xs:List α):Prop where
  ex: ∃vs:List (List Value),Sh.Own H0 H a n cap sz Tq vs.flatten∧vs.length=n∧∀(i:Nat) (v:List Value) (x:α),vs[i]? =some v->xs[i]? =some x->P F v x
  len:xs.length=n
  nf: ∀y,a=some ⟨y,0,none⟩->F y=none
theorem Gq.nil {P:Heap->List Value->α->Prop} {sz:Nat} {Tq:TypeId} {a:Option Addr} {n cap:Nat} {xs:List α} (h:Gq P sz Tq H0 F H a n cap xs) (k:Keep Nil H H'):Gq P sz Tq H0 F H' a n cap xs:=by obtain ⟨vs,ho,hl,hx⟩:=h.ex;exact ⟨⟨vs,ho.keep k fun _ _ h=>h,hl,hx⟩,h.len,h.nf⟩
theorem Gq.add {P:Heap->List Value->α->Prop} {sz:Nat} {Tq:TypeId} {a:Option Addr} {n cap:Nat} {xs:List α} (h:Gq P sz Tq H0 F H a n cap xs) (f:Fr H0 F H) (g:Fr H F' H') (hP: ∀v x,P F v x->P (jn F F') v x):Gq P sz Tq H0 (jn F F') H' a n cap xs:=by obtain ⟨vs,ho,hl,hx⟩:=h.ex;refine ⟨⟨vs,ho.keep g.k fun _ _ h=>h,hl,fun i v x e1 e2=>hP _ _ (hx i v x e1 e2)⟩,h.len,fun y hy=>?_⟩;obtain ⟨_,hb⟩:=ho.live hy;exact (f.add g).2.2.2 y (h.nf y hy) hb.some
theorem Gq.wr {P:Heap->List Value->α->Prop} {sz:Nat} {Tq:TypeId} {a:Option Addr} {n cap:Nat} {xs:List α} {q:Nat} (h:Gq P sz Tq H0 F H a n cap xs) (k:Keep (fun y=>y=q) H H') (hne:a≠some ⟨q,0,none⟩):Gq P sz Tq H0 F H' a n cap xs:=by obtain ⟨vs,ho,hl,hx⟩:=h.ex;exact ⟨⟨vs,ho.keep k fun y hy e=>hne (by rw [hy,e]),hl,hx⟩,h.len,h.nf⟩
theorem Gq.ne {P:Heap->List Value->α->Prop} {sz:Nat} {Tq:TypeId} {a:Option Addr} {n cap:Nat} {xs:List α} (h:Gq P sz Tq H0 F H a n cap xs) {q:Nat} (hq:H q=none):a≠some ⟨q,0,none⟩:=fun e=>by obtain ⟨vs,ho,_⟩:=h.ex;obtain ⟨_,hb⟩:=ho.live e;rw [hb] at hq;cases hq
theorem Gq.start {P:Heap->List Value->α->Prop} {sz:Nat} {Tq:TypeId} (f:Fr H0 F H) {q:Nat} (hq:H q=none) (hb:Blk H' q Tq ⟨[]⟩):Gq P sz Tq H0 F H' (some ⟨q,0,none⟩) 0 0 []:=
  ⟨⟨[],Own.start (f.k.free hq) hb,rfl,fun i v x e=>by simp at e⟩,rfl,fun y hy=>by cases hy;exact (f.lq hq hb).nf⟩
theorem Gq.done {P:Heap->List Value->α->Prop} {sz:Nat} {Tq:TypeId} {a:Option Addr} {n cap:Nat} {xs:List α} (h:Gq P sz Tq H0 F H a n cap xs) (f:Fr H0 F H) (hn:n <= 100001) (hP: ∀F',Keep Nil F F'->∀v x,P F v x->P F' v x):
    ∃F',Fr H0 F' H∧Keep Nil F F'∧RwAt P sz F' a cap xs∧∀y,F y=none->a≠some ⟨y,0,none⟩->F' y=none:=by
  obtain ⟨vs,ho,hl,hx⟩:=h.ex;have hlen:=h.len;subst hlen;obtain ⟨h1,h2,h3⟩:=ho;rcases h3 with ⟨rfl,e,_⟩ | ⟨m,rest,rfl,h0,hb,hr⟩
  . have hvs:vs= []:=List.eq_nil_of_length_eq_zero (by omega)
    subst hvs;exact ⟨F,f,Keep.refl _ _,⟨⟨[],by rw [e,Nat.zero_mul];exact Reads.nil,hl,hx⟩,h2,hn⟩,fun y hy _=>hy⟩
  . obtain ⟨F',b',k,hb',ho'⟩:=f.freeze (q:=m) (T:=Tq) (vs:=vs.flatten++rest) ⟨h0,h.nf m rfl,hb⟩;refine ⟨F',b',k,⟨⟨vs,Reads.blk hb' h1 fun j hj=>?_,hl,fun i v x e1 e2=>hP F' k _ _ (hx i v x e1 e2)⟩,h2,hn⟩,fun y hy hne=>?_⟩;rw [Nat.zero_add,List.getElem?_toArray,List.getElem?_append_left (by omega)]
    . rw [ho' y fun e=>hne (by rw [e])];exact hy
theorem Gq.push {P:Heap->List Value->α->Prop} {sz by_:Nat} {Tq st t:TypeId} {it:TypeInfo} {a:Option Addr} {n cap:Nat} {xs:List α} (h:Gq P sz Tq H0 F H a n cap xs) (f:Fr H0 F H) {v z:List Value} {x:α} (hv:P F v x) (hvl:v.length=sz) (hpl: ∀u∈v,Zck u=true)
    (hu:Tryz.prog.underlying st=some (.slice Tq)) (hi:Tryz.prog.info? Tq=some it) (hsz:it.size=sz) (hby:it.bytes=by_) (hb0:by_≠0) (hz:Zcm Tryz.prog Tq=some z) (hzl:z.length=sz) (hn:n <= 100000) (hby2:by_ <= 1000)
    {K:Value->Heap->Prop} (hK: ∀a' cap' H',Fr H0 F H'->Gq P sz Tq H0 F H' a' (n+1) cap' (xs++[x])->(∀y,a'=some ⟨y,0,none⟩->a=some ⟨y,0,none⟩∨H y=none)->Keep (fun y=>a=some ⟨y,0,none⟩) H H'->K (.slice a' (n+1) cap') H'):
    NewW H (.cells ⟨v⟩ Tq) fun q H1=>AppW Tryz.prog #[st,st] t [.slice a n cap,.slice (some ⟨q,0,none⟩) 1 1] H1 K:=by
  obtain ⟨vs,ho,hl,hx⟩:=h.ex;refine newB fun q H1 hq b1 k1=>?_;have hr:Reads H1 (some ⟨q,0,none⟩) (1*sz) v:=Reads.blk b1 (by rw [Nat.one_mul];exact hvl) fun j hj=>by rw [Nat.zero_add,List.getElem?_toArray]
  refine Zbco (e:=Tq) (xe:=Tq) (z:=z) (S:=Nil) hu hu hi hsz hby hb0 hz hzl (ho.keep k1 fun _ _ h=>h) (f.k.trans k1) (new:=v) hr hpl ?_ fun a' cap' H' _ q1 q2 q3 q4=>?_
  . have:(2*(n+1)+192)*by_ <= (2*(100000+1)+192)*1000:=Nat.mul_le_mul (by omega) hby2
    omega
  have hne: ∀y,a=some ⟨y,0,none⟩->F y=none:=fun y hy=>h.nf y hy;have f2:=f.nil k1;have f3:Fr H0 F H':=⟨q4,⟨fun y _ hy=>by
    rw [q3.same y (fun e=>hy (hne y e)) (f2.fr.live y hy)];exact f2.fr.same y id hy,fun y hy=>q3.live y (f2.fr.live y hy)⟩,f.nw,f.cells⟩
  have old: ∀y,a'=some ⟨y,0,none⟩->a=some ⟨y,0,none⟩∨H y=none:=fun y hy=>(q2 y hy).imp id fun e=>k1.free e;refine hK a' cap' H' f3 ⟨⟨vs++[v],by rw [List.flatten_append];simpa using q1,by rw [List.length_append,hl];rfl,fun i u y e1 e2=>?_⟩,by rw [List.length_append,h.len];rfl,fun y hy=>?_⟩ old ⟨fun y hy hne2=>?_,fun y hy=>q3.live y (k1.live y hy)⟩
  . by_cases hi:i<n
    . rw [List.getElem?_append_left (by omega)] at e1
      rw [List.getElem?_append_left (by rw [h.len];omega)] at e2
      exact hx i u y e1 e2
    . rw [List.getElem?_append_right (by omega),hl] at e1
      rw [List.getElem?_append_right (by rw [h.len];omega),h.len] at e2
      have hin:i=n:=by have:=(List.getElem?_eq_some_iff.1 e1).1;simp only [List.length_singleton] at this;omega
      subst hin;simp only [Nat.sub_self,List.getElem?_cons_zero,Option.some.injEq] at e1 e2;subst e1 e2;exact hv
  rcases old y hy with e | e;exact h.nf y e;exact Classical.byContradiction fun e2=>(f.fr.live y e2) e;rw [q3.same y hy (k1.live y hne2),k1.same y id hne2]
end
end Go.Proofs.YtlkdgfolbllngaaGreatDoor
end
section
set_option maxRecDepth 100000
namespace Go.Proofs.YtlkdgfolbllngaaGreatDoor
open Go.Sh Go.Pc
def RwIn (P:List Value->Prop) (H:Heap) (sz:Nat) (a:Option Addr) (n:Nat):Prop:=∀i,i<n->∃(b o:Nat) (m:List Value),a=some ⟨b,o,none⟩∧m.length=sz∧(∀j,j<sz->H.cell ⟨b,o+i*sz+j,none⟩=m[j]?)∧P m
def CdIn (H:Heap):Nat->List Value->Prop
  | 0,v=>∃(op:Int) (a:Option Addr) (n c:Nat) (pa pl k:Int),v= [.int .i64 op,.slice a n c,.int .u32 pa,.int .i64 pl,.int .i64 k]∧u32R pa∧i64R pl∧i64R k
  | d+1,v=>∃(op:Int) (a:Option Addr) (n c:Nat) (pa pl k:Int),v= [.int .i64 op,.slice a n c,.int .u32 pa,.int .i64 pl,.int .i64 k]∧u32R pa∧i64R pl∧i64R k∧RwIn (CdIn H d) H 5 a n
section
variable {F H0 H H':Heap} {v:List Value} {α:Type}
theorem Zbuv (k:Keep Nil H H') {b o:Nat} {x:Value} (h:H.cell ⟨b,o,none⟩=some x):H'.cell ⟨b,o,none⟩=some x:=by rw [← h];refine Zsx (k.same b id fun e=>?_) o;have h:=h;unfold Heap.cell at h;simp only [e] at h;cases h
theorem RwIn.grow {P P':List Value->Prop} {sz:Nat} {a:Option Addr} {n:Nat} (h:RwIn P H sz a n) (k:Keep Nil H H') (hP: ∀m,P m->P' m):RwIn P' H' sz a n:=fun i hi=>by
  obtain ⟨b,o,m,e,hl,hc,hp⟩:=h i hi;refine ⟨b,o,m,e,hl,fun j hj=>?_,hP m hp⟩;have hj2:=hc j hj;rw [List.getElem?_eq_getElem (by omega)] at hj2 ⊢
  exact Zbuv k hj2
theorem CdIn.grow (k:Keep Nil H H'): ∀(d:Nat) {v:List Value},CdIn H d v->CdIn H' d v
  | 0,v,h=>h
  | d+1,v,h=>by obtain ⟨op,a,n,c,pa,pl,x,e,h1,h2,h3,h4⟩:=h;exact ⟨op,a,n,c,pa,pl,x,e,h1,h2,h3,h4.grow k fun m hm=>CdIn.grow k d hm⟩
theorem CdIn.five {d:Nat} (h:CdIn H d v): ∃(op:Int) (a:Option Addr) (n c:Nat) (pa pl k:Int),v= [.int .i64 op,.slice a n c,.int .u32 pa,.int .i64 pl,.int .i64 k]∧u32R pa∧i64R pl∧i64R k:=by
  cases d with
  | zero=>exact h
  | succ d=>
    obtain ⟨op,a,n,c,pa,pl,x,e,h1,h2,h3,h4⟩:=h;exact ⟨op,a,n,c,pa,pl,x,e,h1,h2,h3⟩
theorem row_in {P:List Value->Prop} {sz:Nat} {a:Option Addr} {n i:Nat} {z:Int} (h:RwIn P H sz a n) (hi:i<n) (hz:z=i) {K:Addr->Prop} (hK: ∀b o v,H b≠none->P v->(∀j,j<sz->H.cell ⟨b,o+j,none⟩=v[j]?)->K ⟨b,o,none⟩) (hsz:0<sz):
    NilP a fun q=>InB z n fun m=>elemAt q m sz K:=by
  obtain ⟨b,o,m,rfl,hl,hc,hp⟩:=h i hi;refine NilP.intro _ rfl (InB.intro i hz hi ?_);rw [Zmh];refine hK b _ m (fun e=>?_) hp hc;have h0:=hc 0 hsz;rw [List.getElem?_eq_getElem (by omega)] at h0
  unfold Heap.cell at h0;simp only [e] at h0;cases h0
theorem Zbuu {a:Option Addr} {c:Nat} {l:List Cd} {op pa pl n:Int} (r:RwAt CdAt 5 F a c l):CdAt F [.int .i64 op,.slice a l.length c,.int .u32 pa,.int .i64 pl,.int .i64 n] (.mk op l pa pl n):=by obtain ⟨vs,h1,h2,h3⟩:=r.ex;exact .mk op pa pl n a c vs l h1 h2 r.cap h3
def bw:Nat->Nat
  | 0=>7
  | d+1=>12+5*bw d
def CdN (H:Heap) (B:Nat):Value->Heap->Prop:=fun v H'=>∃(vs:List Value) (c:Cd) (F:Heap),v= .agg ⟨vs⟩∧CdAt F vs c∧Fr H F H'∧cdR c∧∀lv,(wC c lv).length <= B
theorem Zcbk {t:TypeId} {a:Option Addr} {n cap:Nat} {xs:List Cd} (h:Gq CdAt 5 Zl H0 F H a n cap xs) (f:Fr H0 F H) {v:List Value} {c:Cd} (hv:CdAt F v c) (hn:n <= 100000)
    {K:Value->Heap->Prop} (hK: ∀a' cap' H',Fr H0 F H'->Gq CdAt 5 Zl H0 F H' a' (n+1) cap' (xs++[c])->(∀y,a'=some ⟨y,0,none⟩->a=some ⟨y,0,none⟩∨H y=none)->Keep (fun y=>a=some ⟨y,0,none⟩) H H'->K (.slice a' (n+1) cap') H'):
    NewW H (.cells ⟨v⟩ Zl) fun q H1=>AppW Tryz.prog #[Zeg,Zeg] t [.slice a n cap,.slice (some ⟨q,0,none⟩) 1 1] H1 K:=by
  obtain ⟨it,i1,i2,i3⟩:=Zbha;exact h.push f (z:=[.int .i64 0,.slice none 0 0,.int .u32 0,.int .i64 0,.int .i64 0]) hv hv.len hv.plain (by kernel_rfl) i1 i2 i3 (by decide) (by kernel_rfl) rfl hn (by decide) hK
theorem Zbjw {op pa pl n:Int}:(Zge op pa pl n).length <= 5:=by
  have hm:(Zhh n).length <= 1:=by unfold Zhh;(repeat' split)<;>simp
  unfold Zge
  repeat' split
  all_goals (try simp only [List.length_append,List.length_cons,List.length_nil])
  all_goals omega
theorem Zboh {B:Nat} {b:W8} {inner:Int} (hb:b.length <= 1): ∀(l:List Cd) (f:Bool),(∀c∈l,∀lv,(wC c lv).length <= B)->(wCs l b inner f).length <= l.length*(B+1)
  | [],f,_=>by simp [wCs]
  | c::l,f,h=>by
    have h1:=Zboh (inner:=inner) hb l false fun x hx=>h x (List.mem_cons_of_mem _ hx);have h2:=h c List.mem_cons_self inner;have h3:(if f then ([]:W8) else b).length <= 1:=by cases f<;>simp<;>omega
    simp only [wCs,List.length_append,List.length_cons];rw [Nat.succ_mul];omega
theorem Zcfp {B:Nat} {op pa pl n:Int} {l:List Cd} (hl:l.length <= 5) (h: ∀c∈l,∀lv,(wC c lv).length <= B) (lv:Int):(wC (.mk op l pa pl n) lv).length <= 12+5*B:=by
  have hx: ∀{b:W8} {inner:Int} {f:Bool},b.length <= 1->(wCs l b inner f).length <= 5*(B+1):=fun {b inner f} hb=>Nat.le_trans (Zboh hb l f h) (Nat.mul_le_mul_right _ hl);unfold wC;have hleaf:=Zbjw (op:=op) (pa:=pa) (pl:=pl) (n:=n);have ha:=hx (b:=[Zrp]) (inner:=2) (f:=true) (by simp)
  have ho:=hx (b:=[w_or]) (inner:=1) (f:=true) (by simp)
  have hn:=hx (b:=[]) (inner:=2) (f:=true) (by simp)
  repeat' split
  all_goals (try simp only [List.length_append,List.length_cons,List.length_nil])
  all_goals omega
theorem Zbgw: ∀{l:List Cd},(∀c∈l,cdR c)->cdRs l
  | [],_=>by simp only [cdRs]
  | c::l,h=>by simp only [cdRs];exact ⟨h c List.mem_cons_self,Zbgw fun x hx=>h x (List.mem_cons_of_mem _ hx)⟩
theorem Zbii {d:Nat} {op pa pl n:Int} {v1 w0 w1 w2 w3 w4:Value} {c x:Nat} {a:Option Addr} {j cp:Nat} {xs:List Cd} (f:Fr H0 F H) (hc:Lq H0 F H c Zl [.int .i64 op,v1,.int .u32 pa,.int .i64 pl,.int .i64 n]) (hx:Lq H0 F H x Zl [w0,w1,w2,w3,w4])
    (g:Gq CdAt 5 Zl H0 F H a j cp xs) (hac:a≠some ⟨c,0,none⟩) (hax:a≠some ⟨x,0,none⟩) (hcx:c≠x) (hj:j <= 5) (hpa:u32R pa) (hpl:i64R pl) (hn:i64R n) {B:Nat} (hxs: ∀y∈xs,cdR y∧∀lv,(wC y lv).length <= B) {B':Nat} (hB: ∀lv,(wC (.mk op xs pa pl n) lv).length <= B'):
    Zbet c x a j cp H fun v H1=>∀H2,Shut H0 H1 H2->CdN H0 B' v H2:=by
  unfold Zbet;obtain ⟨F',f',kF,row,nf⟩:=g.done f (by omega) fun F' k v x h=>h.grow k
  have hlen:=g.len;subst hlen;have hc':Lq H0 F' H c Zl _:=⟨hc.nw,nf c hc.nf hac,hc.blk⟩;have hx':Lq H0 F' H x Zl _:=⟨hx.nw,nf x hx.nf hax,hx.blk⟩;refine stL hc'.blk (by simp) rfl fun H1 b1 k1=>?_
  have f1:=f'.wr hc' k1;have hx1:=hx'.other k1 hcx.symm;refine ld5 b1 (st5 hx1.blk fun H2 b2 k2=>ld5 b2 fun H3 hs=>⟨_,.mk op xs pa pl n,F',rfl,Zbuu row,(f1.wr hx1 k2).shut hs,?_,hB⟩);simp only [cdR];exact ⟨⟨hpa,hpl,hn⟩,Zbgw fun y hy=>(hxs y hy).1⟩
theorem Zbwe: ∀(d:Nat) {H:Heap} {v:List Value},CdIn H d v->d <= 100->FnW Tryz.prog Ztr ⟨[.agg ⟨v⟩,.int .i64 (d:Int)]⟩ H (CdN H (bw d)):=by
  intro d;induction d with
  | zero=>
    intro H v hin _;obtain ⟨op,a,n,c,pa,pl,k,rfl,hpa,hpl,hk⟩:=hin;refine Zbpu op a n c pa pl k 0 ?_;unfold Zbev;refine newB fun q H1 hq bq k1=>newB fun x H2 hx bx k2=>newB fun y H3 hy by_ k3=>?_;have f0:=Fr.start (H:=H);have f1:=f0.nil k1;have f2:=f1.nil k2;have lc:=((f0.lq hq bq).nil k2).nil k3;have lx:=(f1.lq hx bx).nil k3;have gy:Gq CdAt 5 Zl H emp H3 (some ⟨y,0,none⟩) 0 0 []:=Gq.start f2 hy by_;have hyq:y≠q:=fun e=>by subst e;exact (k2.blk bq id).some hy
    have hyx:y≠x:=fun e=>by subst e;exact bx.some hy
    have hqx:q≠x:=fun e=>by subst e;exact bq.some hx
    refine Zbj (fun m s Hx=>s=((some ⟨y,0,none⟩,0,0),(0,()))∧Hx=H3) 0 ⟨rfl,rfl⟩ ?_;rintro m s Hx ⟨rfl,e⟩ g;rw [e];have fin: ∀{next:(Option Addr×Nat×Nat)×Int×Unit->Heap->Prop},Zjy 0 q x (some ⟨y,0,none⟩) 0 0 0 next false H3 fun v H1=>∀H2,Shut H H1 H2->CdN H (bw 0) v H2:=fun {next}=>by
      unfold Zjy;refine ifF rfl (Zbii (d:=0) (B:=0) (xs:=[]) (f2.nil k3) lc lx gy (fun e=>hyq (by cases e;rfl)) (fun e=>hyx (by cases e;rfl)) hqx (by omega) hpa hpl hk (fun y hy=>by cases hy) fun lv=>?_)
      have hleaf:=Zbjw (op:=op) (pa:=pa) (pl:=pl) (n:=k);unfold wC bw;simp only [wCs]
      repeat' split
      all_goals (try simp only [List.length_append,List.length_cons,List.length_nil])
      all_goals omega
    unfold Zbeu;exact ⟨_,_,_,cellL lc.blk 1 rfl,IfB.intro (fun _=>IfB.intro (fun _=>fin) fun _=>fin) fun _=>fin⟩
  | succ d ih=>
    intro H v hin hd;obtain ⟨op,a,n,c,pa,pl,k,rfl,hpa,hpl,hk,hrow⟩:=hin;refine Zbpu op a n c pa pl k ((d+1:Nat):Int) ?_;unfold Zbev;refine newB fun q H1 hq bq k1=>newB fun x H2 hx bx k2=>newB fun y H3 hy by_ k3=>?_;have f0:=Fr.start (H:=H);have f1:=f0.nil k1;have f2:=f1.nil k2;have lc:=((f0.lq hq bq).nil k2).nil k3;have lx:=(f1.lq hx bx).nil k3;have gy:Gq CdAt 5 Zl H emp H3 (some ⟨y,0,none⟩) 0 0 []:=Gq.start f2 hy by_;have hyq:y≠q:=fun e=>by subst e;exact (k2.blk bq id).some hy
    have hyx:y≠x:=fun e=>by subst e;exact bx.some hy
    have hqx:q≠x:=fun e=>by subst e;exact bq.some hx
    refine Zbj (fun m s Hx=>∃(j:Nat) (a:Option Addr) (cp:Nat) (xs:List Cd) (F:Heap),s=((a,j,cp),((j:Int),()))∧j <= 5∧m+j=5∧j <= n∧Fr H F Hx∧Gq CdAt 5 Zl H F Hx a j cp xs∧Lq H F Hx q Zl _∧Lq H F Hx x Zl _∧a≠some ⟨q,0,none⟩∧a≠some ⟨x,0,none⟩∧∀y∈xs,cdR y∧∀lv,(wC y lv).length <= bw d) 5
      ⟨0,_,_,[],emp,rfl,by omega,rfl,Nat.zero_le _,f2.nil k3,gy,lc,lx,(fun e=>hyq (by cases e;rfl)),(fun e=>hyx (by cases e;rfl)),fun y hy=>by cases hy⟩ ?_
    rintro m s Hx ⟨j,ra,cp,xs,F,rfl,hj,hmj,hjn,f,g,hc,hx,hac,hax,hxs⟩ gg;have fin: ∀{next:(Option Addr×Nat×Nat)×Int×Unit->Heap->Prop},Zjy ((d+1:Nat):Int) q x ra j cp j next false Hx fun v H1=>∀H2,Shut H H1 H2->CdN H (bw (d+1)) v H2:=fun {next}=>by unfold Zjy;refine ifF rfl (Zbii (d:=d) f hc hx g hac hax hqx hj hpa hpl hk hxs fun lv=>?_);exact Zcfp (by rw [g.len];exact hj) (fun c hc=>(hxs c hc).2) lv
    unfold Zbeu;refine ⟨_,_,_,cellL hc.blk 1 rfl,IfB.intro (fun e1=>IfB.intro (fun e2=>?_) fun _=>fin) fun _=>fin⟩;have e1:=of_decide_eq_true e1;have e2:=of_decide_eq_true e2;simp only at e1 e2;have hjn2:j<n:=by omega
    have hj5:j<5:=by omega
    rw [decide_eq_true (show ((d+1:Nat):Int)>0 by omega)]
    unfold Zjy;refine ifT rfl ⟨_,_,_,cellL hc.blk 1 rfl,row_in (i:=j) (z:=((j:Nat):Int)) (hrow.grow f.k fun m hm=>CdIn.grow f.k d hm) hjn2 rfl (fun b1 o1 v1 _ h1 hc1=>?_) (by decide)⟩
    have h1':=h1;obtain ⟨op1,a1,n1,k1',pa1,pl1,m1,rfl,_⟩:=h1'.five;have hw:IntKind.wrap .i64 (((d+1:Nat):Int) - 1)=(d:Int):=by rw [Zbf (by omega) (by omega)];omega
    refine ld5c hc1 ?_;rw [hw];refine (ih h1 (by omega)).mono ?_
    rintro _ H5 ⟨vs,cc,F5,rfl,hcd,f5,hr5,hb5⟩;obtain ⟨h6,k6,k6',n6⟩:=f.add f5;have g6:=g.add f f5 fun v x h=>h.grow k6;have hc6:=hc.add f f5;have hx6:=hx.add f f5;have hcd6:=hcd.grow k6';obtain ⟨op2,a2,n2,k2',pa2,pl2,m2,rfl⟩:=hcd.five;refine ⟨_,_,_,_,_,_,_,rfl,Zcbk g6 h6 hcd6 (by omega) fun a' cap' H7 f7 g7 old k7=>⟨_,_,_,rfl,m - 1,by omega,j+1,a',cap',_,_,Prod.ext rfl (Prod.ext ?_ rfl),by omega,by omega,by omega,f7,g7,⟨hc6.nw,hc6.nf,k7.blk hc6.blk fun e=>hac e⟩,⟨hx6.nw,hx6.nf,k7.blk hx6.blk fun e=>hax e⟩,fun e=>(old q e).elim hac fun h=>hc6.blk.some h,fun e=>(old x e).elim hax fun h=>hx6.blk.some h,fun y hy=>?_⟩⟩
    . show IntKind.wrap .i64 ((j:Int)+1)=((j+1:Nat):Int);rw [Zbf (by omega) (by omega)];omega
    rcases List.mem_append.1 hy with hy | hy;exact hxs y hy;rw [List.mem_singleton.1 hy];exact ⟨hr5,hb5⟩
end
end Go.Proofs.YtlkdgfolbllngaaGreatDoor
end
section
set_option maxRecDepth 100000
namespace Go.Proofs.YtlkdgfolbllngaaGreatDoor
open Go.Sh Go.Pc
def Zdc (H:Heap):Nat->Option Addr->Nat->Prop
  | 0,_,_=>True
  | d+1,a,n=>RwIn (fun v=>∃(op c0:Int) (ca:Option Addr) (cn ck:Nat) (c2 c3 c4:Int) (th:Option Addr) (tn tc:Nat) (el:Option Addr) (en ec:Nat) (k m:Int),
      v= [.int .i64 op,.int .i64 c0,.slice ca cn ck,.int .u32 c2,.int .i64 c3,.int .i64 c4,.slice th tn tc,.slice el en ec,.int .i64 k,.int .i64 m]∧CdIn H 5 [.int .i64 c0,.slice ca cn ck,.int .u32 c2,.int .i64 c3,.int .i64 c4]∧i64R k∧i64R m∧Zdc H d th tn∧Zdc H d el en) H 10 a n
def bs:Nat->Nat
  | 0=>0
  | d+1=>5*(bw 5+20+2*bs d)
section
variable {F H0 H H':Heap} {v:List Value}
theorem Zdc.grow (k:Keep Nil H H'): ∀(d:Nat) {a:Option Addr} {n:Nat},Zdc H d a n->Zdc H' d a n
  | 0,_,_,h=>h
  | d+1,a,n,h=>by unfold Zdc at h ⊢;refine RwIn.grow h k fun m hm=>?_;obtain ⟨op,c0,ca,cn,ck,c2,c3,c4,th,tn,tc,el,en,ec,x,y,e,h1,h2,h3,h4,h5⟩:=hm;exact ⟨op,c0,ca,cn,ck,c2,c3,c4,th,tn,tc,el,en,ec,x,y,e,CdIn.grow k 5 h1,h2,h3,Zdc.grow k d h4,Zdc.grow k d h5⟩
theorem Zbnl: ∀{l:List Sm},(∀c∈l,smR c)->smRs l
  | [],_=>by simp only [smRs]
  | c::l,h=>by simp only [smRs];exact ⟨h c List.mem_cons_self,Zbnl fun x hx=>h x (List.mem_cons_of_mem _ hx)⟩
theorem Zboi {B:Nat}: ∀(l:List Sm),(∀c∈l,(wS c).length <= B)->(wSs l).length <= l.length*B
  | [],_=>by simp [wSs]
  | c::l,h=>by have h1:=Zboi l fun x hx=>h x (List.mem_cons_of_mem _ hx);have h2:=h c List.mem_cons_self;simp only [wSs,List.length_append,List.length_cons];rw [Nat.succ_mul];omega
theorem Zcfs {B C:Nat} {op n m:Int} {c:Cd} {th el:List Sm} (hc: ∀lv,(wC c lv).length <= C) (h1:(wSs th).length <= B) (h2:(wSs el).length <= B):(wS (.mk op c th el n m)).length <= C+20+2*B:=by
  have h0:=hc 0;have ha:(Zei op n m).length <= 2:=by unfold Zei;(repeat' split)<;>simp
  unfold wS
  repeat' split
  all_goals (try simp only [List.length_append,List.length_cons,List.length_nil])
  all_goals omega
theorem Zcdo {a b:Option Addr} {ac bc:Nat} {th el:List Sm} {op n m:Int} {c0 c2 c3 c4:Int} {ca:Option Addr} {cn ck:Nat} {c:Cd} (hcv:CdAt F [.int .i64 c0,.slice ca cn ck,.int .u32 c2,.int .i64 c3,.int .i64 c4] c) (r1:RwAt SmAt 10 F a ac th) (r2:RwAt SmAt 10 F b bc el):
    SmAt F [.int .i64 op,.int .i64 c0,.slice ca cn ck,.int .u32 c2,.int .i64 c3,.int .i64 c4,.slice a th.length ac,.slice b el.length bc,.int .i64 n,.int .i64 m] (.mk op c th el n m):=by
  obtain ⟨vs,h1,h2,h3⟩:=r1.ex;obtain ⟨ws,g1,g2,g3⟩:=r2.ex;exact .mk op n m _ c a b ac bc vs ws th el hcv h1 h2 r1.cap h3 g1 g2 r2.cap g3
def StN (H:Heap) (B:Nat):Value->Heap->Prop:=fun v H'=>∃(a:Option Addr) (c:Nat) (xs:List Sm) (F:Heap),v= .slice a xs.length c∧RwAt SmAt 10 F a c xs∧Fr H F H'∧smRs xs∧(wSs xs).length <= B
theorem Zcbo {t:TypeId} {a:Option Addr} {n cap:Nat} {xs:List Sm} (h:Gq SmAt 10 Zq H0 F H a n cap xs) (f:Fr H0 F H) {v:List Value} {c:Sm} (hv:SmAt F v c) (hn:n <= 100000)
    {K:Value->Heap->Prop} (hK: ∀a' cap' H',Fr H0 F H'->Gq SmAt 10 Zq H0 F H' a' (n+1) cap' (xs++[c])->(∀y,a'=some ⟨y,0,none⟩->a=some ⟨y,0,none⟩∨H y=none)->Keep (fun y=>a=some ⟨y,0,none⟩) H H'->K (.slice a' (n+1) cap') H'):
    NewW H (.cells ⟨v⟩ Zq) fun q H1=>AppW Tryz.prog #[Zdd,Zdd] t [.slice a n cap,.slice (some ⟨q,0,none⟩) 1 1] H1 K:=by
  obtain ⟨it,i1,i2,i3⟩:=Zbnp;exact h.push f (z:=[.int .i64 0,.int .i64 0,.slice none 0 0,.int .u32 0,.int .i64 0,.int .i64 0,.slice none 0 0,.slice none 0 0,.int .i64 0,.int .i64 0]) hv hv.len hv.plain (by kernel_rfl) i1 i2 i3 (by decide) (by kernel_rfl) rfl hn (by decide) hK
theorem Zbiu {B:Nat} {a:Option Addr} {n c:Nat} {d:Int} {ra:Option Addr} {j cp:Nat} {xs:List Sm} {i:Int} {next:(Option Addr×Nat×Nat)×Int×Unit->Heap->Prop} (f:Fr H0 F H) (g:Gq SmAt 10 Zq H0 F H ra j cp xs) (hj:j <= 5) (hxs: ∀y∈xs,smR y) (hB:(wSs xs).length <= B):
    Zoj a n c d ra j cp i next false H fun v H1=>∀H2,Shut H0 H1 H2->StN H0 B v H2:=by
  unfold Zoj;obtain ⟨F',f',kF,row,nf⟩:=g.done f (by omega) fun F' k v x h=>h.grow k
  have hlen:=g.len;subst hlen;exact ifF rfl fun H2 hs=>⟨ra,cp,xs,F',rfl,row,f'.shut hs,Zbnl hxs,hB⟩
theorem Zbwq: ∀(d:Nat) {H:Heap} {a:Option Addr} {n c:Nat},Zdc H d a n->d <= 100->FnW Tryz.prog Zpo ⟨[.slice a n c,.int .i64 (d:Int)]⟩ H (StN H (bs d)):=by
  intro d;induction d with
  | zero=>
    intro H a n c _ _;refine Zbqi a n c 0 ?_;unfold Zbfb;refine newB fun y H1 hy by_ k1=>?_;have f0:=Fr.start (H:=H);have gy:Gq SmAt 10 Zq H emp H1 (some ⟨y,0,none⟩) 0 0 []:=Gq.start f0 hy by_;refine Zbj (fun m s Hx=>s=((some ⟨y,0,none⟩,0,0),(0,()))∧Hx=H1) 0 ⟨rfl,rfl⟩ ?_;rintro m s Hx ⟨rfl,e⟩ g;rw [e];unfold Zbfa;have fin:=fun {next:(Option Addr×Nat×Nat)×Int×Unit->Heap->Prop} {d i:Int}=>Zbiu (B:=bs 0) (a:=a) (n:=n) (c:=c) (d:=d) (i:=i) (next:=next) (f0.nil k1) gy (by omega) (fun y hy=>by cases hy) (by simp [wSs])
    exact IfB.intro (fun _=>IfB.intro (fun _=>fin) fun _=>fin) fun _=>fin
  | succ d ih=>
    intro H a n c hrow hd;refine Zbqi a n c ((d+1:Nat):Int) ?_;unfold Zbfb;refine newB fun y H1 hy by_ k1=>?_;have f0:=Fr.start (H:=H);have gy:Gq SmAt 10 Zq H emp H1 (some ⟨y,0,none⟩) 0 0 []:=Gq.start f0 hy by_;refine Zbj (fun m s Hx=>∃(j:Nat) (a:Option Addr) (cp:Nat) (xs:List Sm) (F:Heap),s=((a,j,cp),((j:Int),()))∧j <= 5∧m+j=5∧j <= n∧Fr H F Hx∧Gq SmAt 10 Zq H F Hx a j cp xs∧∀y∈xs,smR y∧(wS y).length <= bw 5+20+2*bs d) 5
      ⟨0,_,_,[],emp,rfl,by omega,rfl,Nat.zero_le _,f0.nil k1,gy,fun y hy=>by cases hy⟩ ?_
    rintro m s Hx ⟨j,ra,cp,xs,F,rfl,hj,hmj,hjn,f,g,hxs⟩ gg;have fin:=fun {next:(Option Addr×Nat×Nat)×Int×Unit->Heap->Prop} {d' i:Int}=>Zbiu (B:=bs (d+1)) (a:=a) (n:=n) (c:=c) (d:=d') (i:=i) (next:=next) f g hj (fun y hy=>(hxs y hy).1) (Nat.le_trans (Zboi xs fun y hy=>(hxs y hy).2) (Nat.mul_le_mul_right _ (by rw [g.len];exact hj)))
    unfold Zbfa;refine IfB.intro (fun e1=>IfB.intro (fun e2=>?_) fun _=>fin) fun _=>fin;have e1:=of_decide_eq_true e1;have e2:=of_decide_eq_true e2;simp only at e1 e2;have hjn2:j<n:=by omega
    have hj5:j<5:=by omega
    rw [decide_eq_true (show ((d+1:Nat):Int)>0 by omega)]
    unfold Zoj;refine ifT rfl (row_in (i:=j) (z:=((j:Nat):Int)) ((Zdc.grow f.k (d+1) hrow:Zdc Hx (d+1) a n)) hjn2 rfl (fun b1 o1 v1 _ h1 hc1=>?_) (by decide))
    obtain ⟨op,c0,ca,cn,ck,c2,c3,c4,th,tn,tc,el,en,ec,x,y,rfl,h1,h2,h3,h4,h5⟩:=h1;have hw:IntKind.wrap .i64 (((d+1:Nat):Int) - 1)=(d:Int):=by rw [Zbf (by omega) (by omega)];omega
    refine Zky hc1 (newB fun u H2 hu bu k2=>st10 bu fun H3 b3 k3=>?_);have lu:=f.lq hu bu;have f2:=f.nil k2;have f3:=f2.wr lu k3;have l3:=lu.wr b3;have kx3:Keep Nil Hx H3:=k2.then k3 fun z hz=> .inr (hz▸hu);have hau:ra≠some ⟨u,0,none⟩:=g.ne hu;have g3:=(g.nil k2).wr k3 hau;refine ⟨[u],Zna l3.blk.some,_,cellL b3 1 rfl,_,_,_,cellL b3 2 rfl,_,cellL b3 3 rfl,_,cellL b3 4 rfl,_,cellL b3 5 rfl,List.mem_singleton.2 rfl,_,_,_,cellL b3 6 rfl,List.mem_singleton.2 rfl,_,_,_,cellL b3 7 rfl,?_⟩;rw [hw];refine (Zbwe 5 (CdIn.grow kx3 5 h1) (by omega)).mono ?_
    rintro _ H4 ⟨vs,cc,F4,rfl,hcd,f4,hr4,hb4⟩;obtain ⟨h6,k6,k6',n6⟩:=f3.add f4;have g4:=g3.add f3 f4 fun v x h=>h.grow k6;have l4:=l3.add f3 f4;obtain ⟨op2,a2,n2,k2',pa2,pl2,m2,rfl⟩:=hcd.five;have kx4:=kx3.trans f4.k;refine ⟨_,_,_,_,_,_,_,rfl,Zig l3.blk.some f4.k,(ih (Zdc.grow kx4 d h4) (by omega)).mono ?_⟩
    rintro _ H5 ⟨a5,c5,xs5,F5,rfl,row5,f5,hr5,hb5⟩;obtain ⟨h7,k7,k7',n7⟩:=h6.add f5;have g5:=g4.add h6 f5 fun v x h=>h.grow k7;have l5:=l4.add h6 f5;have kx5:=kx4.trans f5.k;refine ⟨_,_,_,rfl,Zig l3.blk.some (f4.k.trans f5.k),(ih (Zdc.grow kx5 d h5) (by omega)).mono ?_⟩
    rintro _ H6 ⟨a6,c6,xs6,F6,rfl,row6,f6,hr6,hb6⟩;obtain ⟨h8,k8,k8',n8⟩:=h7.add f6;have g6:=g5.add h7 f6 fun v x h=>h.grow k8;have l6:=l5.add h7 f6;refine ⟨_,_,_,rfl,Zig l3.blk.some ((f4.k.trans f5.k).trans f6.k),?_⟩;refine stL l6.blk (by simp) rfl fun J1 e1 q1=>stL e1 (by simp) rfl fun J2 e2 q2=>stL e2 (by simp) rfl fun J3 e3 q3=>stL e3 (by simp) rfl fun J4 e4 q4=>stL e4 (by simp) rfl fun J5 e5 q5=>stL e5 (by simp) rfl fun J6 e6 q6=>stL e6 (by simp) rfl fun J7 e7 q7=>?_
    have kq:=(((((q1.trans q2).trans q3).trans q4).trans q5).trans q6).trans q7;have f9:=h8.wr l6 kq;have g9:=g6.wr kq hau;have hsm:SmAt (jn (jn (jn F F4) F5) F6) [.int .i64 op,.int .i64 op2,.slice a2 n2 k2',.int .u32 pa2,.int .i64 pl2,.int .i64 m2,.slice a5 xs5.length c5,.slice a6 xs6.length c6,.int .i64 x,.int .i64 y] (.mk op cc xs5 xs6 x y):=
      Zcdo (hcd.grow ((k6'.trans k7).trans k8)) (row5.grow (k7'.trans k8) fun _ _ h=>h.grow (k7'.trans k8)) (row6.grow k8' fun _ _ h=>h.grow k8')
    refine ld10 e7 (Zcbo g9 f9 hsm (by omega) fun a' cap' H7 f10 g10 old k10=>⟨_,_,_,rfl,m - 1,by omega,j+1,a',cap',_,_,Prod.ext rfl (Prod.ext ?_ rfl),by omega,by omega,by omega,f10,g10,fun z hz=>?_⟩)
    . show IntKind.wrap .i64 ((j:Int)+1)=((j+1:Nat):Int);rw [Zbf (by omega) (by omega)];omega
    rcases List.mem_append.1 hz with hz | hz;exact hxs z hz;rw [List.mem_singleton.1 hz];refine ⟨?_,Zcfs hb4 hb5 hb6⟩;simp only [smR];exact ⟨⟨hr4,h2,h3⟩,hr5,hr6⟩
end
end Go.Proofs.YtlkdgfolbllngaaGreatDoor
end
section
namespace Go.Proofs.YtlkdgfolbllngaaGreatDoor
open Go.Sh
theorem Zcac (a n:Nat) (hn:n <= 99):(pfT a n).length <= 18:=by
  have h1:=Zrl a;have h2:=Ztb (u:=n) (k:=1) (by omega)
  unfold pfT;simp only [List.length_append,List.length_cons];omega
def Zbkb (t:Tok):Tok:=Zbnf t 0
def TkOk (t:Tok):Prop:=(∃c,Zun c=true∧Zbkb t=(6,[c],0,0,0,0))∨(t.2.1≠[]∧t.2.1.all Zcz=true∧word t.2.1=some (Zbkb t))
def wm:List (List UInt8)->Nat
  | []=>0
  | w::ws=>w.length+1+wm ws
theorem Zbjl: ∀ws:List (List UInt8),(Lib.join ws [32]).length <= wm ws
  | []=>Nat.le_refl 0
  | [x]=>by simp [Lib.join,List.intercalate,List.intersperse,wm]
  | x::y::r=>by
    have ih:=Zbjl (y::r);have e:Lib.join (x::y::r) [32]=x++([32]++Lib.join (y::r) [32]):=by simp [Lib.join,List.intercalate,List.intersperse]
    rw [e];simp only [List.length_append,List.length_singleton];show _ <= x.length+1+wm (y::r);omega
def GW (w:List UInt8):Prop:=∃t:Tok,TkOk t∧t.2.1=w
end Go.Proofs.YtlkdgfolbllngaaGreatDoor
end
section
namespace Go.Proofs.YtlkdgfolbllngaaGreatDoor
open Go.Sh
def nR (n:Int):Prop:=0 <= n∧n <= 4294967295
def pxR (pa pl:Int):Prop:=u32R pa∧right pa.toNat pl=true
def NmR (w:List UInt8):Prop:=word w=some (1,w,0,0,0,0)∧w≠[]∧w.all Zcz=true
section
variable {l:List Tok} {i:Nat} {w:List UInt8} {ws r:W8}
variable (hl: ∀t∈l,TkOk t)
include hl
end
end Go.Proofs.YtlkdgfolbllngaaGreatDoor
end
section
namespace Go.Proofs.YtlkdgfolbllngaaGreatDoor
open Go.Sh
def okL (op pa pl n:Int):Prop:=(op=4∧pxR pa pl∧nR n)∨(op=5∧pxR pa pl∧n=0)∨((op=6∨op=7∨op=8∨op=9∨op=10∨op=12)∧pa=0∧pl=0∧nR n)∨(op=11∧pa=0∧pl=0∧(n=0∨n=1∨n=2))
mutual
def okK:Cd->Prop
  | .mk op l pa pl n=>(((op=1∨op=2)∧2 <= l.length∧pa=0∧pl=0∧n=0)∨(op=3∧l.length=1∧pa=0∧pl=0∧n=0)∨(l= []∧okL op pa pl n))∧okKs l
def okKs:List Cd->Prop
  | []=>True
  | c::cs=>okK c∧okKs cs
end
mutual
def dC:Cd->Int->Nat
  | .mk op l pa pl n,lv=>if op=1 then (if lv≥2 then 1 else 0)+dCs l 2 else if op=2 then (if lv≥1 then 1 else 0)+dCs l 1 else if op=3 then 1+dCs l 2 else 0
def dCs:List Cd->Int->Nat
  | [],_=>0
  | c::cs,lv=>max (dC c lv) (dCs cs lv)
end
section
variable {l:List Tok} (hl: ∀t∈l,TkOk t) {i:Nat} {rest:W8} {nx:List UInt8} {op pa pl n:Int}
include hl
end
end Go.Proofs.YtlkdgfolbllngaaGreatDoor
end
section
namespace Go.Proofs.YtlkdgfolbllngaaGreatDoor
open Go.Sh
abbrev c0Z:Cd:= .mk 0 [] 0 0 0
def okP (op n m:Int):Prop:=((op=2∨op=3∨op=9)∧n=0∧m=0)∨(op=4∧nR n∧nR m)∨((op=5∨op=6∨op=7∨op=8)∧nR n∧m=0)
mutual
def okQ:Sm->Prop
  | .mk op c th el n m=>((op=1∧okK c∧n=0∧m=0)∨(c=c0Z∧th= []∧el= []∧okP op n m))∧(okQs th∧okQs el)
def okQs:List Sm->Prop
  | []=>True
  | s::l=>okQ s∧okQs l
end
mutual
def dS:Sm->Nat
  | .mk op c th el n m=>if op=1 then max (dC c 0) (max (1+dSs th) (if el.length=0 then 0 else 1+dSs el)) else 0
def dSs:List Sm->Nat
  | []=>0
  | s::l=>max (dS s) (dSs l)
end
section
variable {l:List Tok} (hl: ∀t∈l,TkOk t) {i:Nat} {rest:W8} {nx:List UInt8} {op n m:Int}
include hl
end
end Go.Proofs.YtlkdgfolbllngaaGreatDoor
end
section
namespace Go.Proofs.YtlkdgfolbllngaaGreatDoor
open Go.Sh
structure okPe (p:Pr):Prop where
  nm:NmR p.name
  addr:u32R p.addr
  as_:nR p.as_
  max:nR p.max
  in_:p.in_= []∨NmR p.in_
  out:p.out= []∨NmR p.out
structure okPo (p:Pl):Prop where
  nm:NmR p.name
  l:okQs p.l
  d:dSs p.l <= 24
structure okSp (sp:Sp):Prop where
  as_:nR sp.as_
  router:u32R sp.router
  hold:nR sp.hold
  retry:nR sp.retry
  grace:nR sp.grace
  pols: ∀p∈sp.pols,okPo p
  peers: ∀p∈sp.peers,okPe p
section
variable {l:List Tok} (hl: ∀t∈l,TkOk t) {i:Nat} {rest:W8} {nx:List UInt8} {op n m:Int}
include hl
end
end Go.Proofs.YtlkdgfolbllngaaGreatDoor
end
section
namespace Go.Proofs.YtlkdgfolbllngaaGreatDoor
open Go.Sh
section
variable {l:List Tok} (hl: ∀t∈l,TkOk t) {i j k d:Nat} {c:Cd} {s:List UInt8} {ws us:W8} {n:Int}
include hl
omit hl
include hl
end
end Go.Proofs.YtlkdgfolbllngaaGreatDoor
end
section
namespace Go.Proofs.YtlkdgfolbllngaaGreatDoor
open Go.Sh
def GWs (ws:W8):Prop:=∀w∈ws,GW w
theorem GWs.nil:GWs []:=fun w h=>by cases h
theorem GWs.cons {w:List UInt8} {ws:W8} (h:GW w) (hs:GWs ws):GWs (w::ws):=fun u hu=>by rcases List.mem_cons.1 hu with rfl | hu;exact h;exact hs u hu
structure ItQ (s:Sp) (i:Nat):Prop where
  ok:okSp s
  n:(wPls s.pols).length+(wPrs s.peers).length <= 2*i
  b:wm (wPls s.pols)+wm (wPrs s.peers) <= 33*i
section
variable {l:List Tok} (hl: ∀t∈l,TkOk t) {i j k d:Nat} {s:List UInt8} {ws us:W8} {n:Int}
include hl
end
end Go.Proofs.YtlkdgfolbllngaaGreatDoor
end
section
set_option maxRecDepth 100000
namespace Go.Proofs.YtlkdgfolbllngaaGreatDoor
open Go.Sh Go.Pc
section
variable {F H H1 H':Heap}
theorem Zbzw {H0 H1:Heap} {v1:Value} {t:List UInt8} (p:ParR H0 t v1 H1): ∃(sp:Sp) (F:Heap) (vs:List Value) (ln e:Int),v1= .tuple ⟨[.agg ⟨vs⟩,.int .i64 ln,.int .i64 e]⟩∧SpV F vs sp∧Keep Nil F H1∧((Zen t= .ok sp∧e=0)∨((∃z,Zen t= .error z)∧e≠0)):=by
  obtain ⟨k,p⟩:=p;cases hp:Zen t with
  | ok sp=>
    rw [hp] at p;obtain ⟨F,vs,rfl,hv,fr,_,_⟩:=p;exact ⟨sp,F,vs,0,0,rfl,hv,fr,.inl ⟨rfl,rfl⟩⟩
  | error z=>
    obtain ⟨ln,e⟩:=z;rw [hp] at p;obtain ⟨rfl,h⟩:=p;exact ⟨Zbdz,emp,spZ,ln,e,rfl,SpV.zero,Zbhv,.inr ⟨⟨_,rfl⟩,h⟩⟩
end
end Go.Proofs.YtlkdgfolbllngaaGreatDoor
end
section
set_option maxRecDepth 100000
namespace Go.Proofs.YtlkdgfolbllngaaGreatDoor
open Go.Sh Go.Pc
structure SpIn (H:Heap) (vs:List Value):Prop where
  ex: ∃(i0 i1 i2 i3 i4:Int) (a:Option Addr) (n c:Nat) (b:Option Addr) (bn bc:Nat),vs= [.int .u32 i0,.int .u32 i1,.int .i64 i2,.int .i64 i3,.int .i64 i4,.slice a n c,.slice b bn bc]∧u32R i0∧u32R i1∧i64R i2∧i64R i3∧i64R i4∧
    RwIn (fun v=>∃(nm:List UInt8) (sa:Option Addr) (sn sc:Nat),v= [.string (bstr nm),.slice sa sn sc]∧Zdc H 4 sa sn) H 2 a n∧RwIn (fun v=>∃p:Pr,v=prL p.name p.addr p.as_ p.waits p.max p.in_ p.out∧prR p) H 7 b bn
structure Few (sp:Sp):Prop where
  r:spR sp
  pols:sp.pols.length <= 34∧∀p∈sp.pols,p.name.length <= 40∧(wSs p.l).length <= bs 4
  peers:sp.peers.length <= 18∧∀p∈sp.peers,p.name.length <= 40∧p.in_.length <= 40∧p.out.length <= 40
def FewR (H:Heap):Value->Heap->Prop:=fun v H'=>∃(vs:List Value) (sp:Sp) (F:Heap),v= .agg ⟨vs⟩∧SpV F vs sp∧Fr H F H'∧Few sp
section
variable {F H0 H H':Heap} {v:List Value}
theorem Zbyi {bs:List Nat} (h: ∀b∈bs,H b≠none) (k:Keep Nil H H'):Zch bs H H':=fun b hb=>by
  have:=h b hb;cases e:H b with
  | none=>exact absurd e this
  | some o=>exact ⟨⟨o,rfl⟩,by rw [← e];exact k.same b id this⟩
theorem Zbwx {bs:List Nat} (h: ∀b∈bs,H b≠none): ∀b∈bs,∃o,H b=some o:=fun b hb=>by
  have:=h b hb;cases e:H b with
  | none=>exact absurd e this
  | some o=>exact ⟨o,rfl⟩
theorem Zta (x:List UInt8) {K:Nat->Prop} (h:K (min x.length 40)):InC (min ((bstr x).size:Int) 40) (bstr x).size K:=by
  have e:(bstr x).size=x.length:=by show x.toArray.size=_;simp
  rw [e];exact InC.intro (min x.length 40) (by omega) (by omega) h
theorem Ztg (x:List UInt8):ByteArray.extract (bstr x) 0 (min x.length 40)=bstr (x.take 40):=by rw [Zzi x (Nat.zero_le _)];simp only [List.drop_zero];congr 1;rcases Nat.le_total x.length 40 with h | h;rw [Nat.min_eq_left h,List.take_of_length_le (Nat.le_refl _),List.take_of_length_le h];rw [Nat.min_eq_right h]
theorem Zcbl {t:TypeId} {a:Option Addr} {n cap:Nat} {xs:List Pl} (h:Gq PlAt 2 Zbu H0 F H a n cap xs) (f:Fr H0 F H) {v:List Value} {c:Pl} (hv:PlAt F v c) (hn:n <= 100000)
    {K:Value->Heap->Prop} (hK: ∀a' cap' H',Fr H0 F H'->Gq PlAt 2 Zbu H0 F H' a' (n+1) cap' (xs++[c])->(∀y,a'=some ⟨y,0,none⟩->a=some ⟨y,0,none⟩∨H y=none)->Keep (fun y=>a=some ⟨y,0,none⟩) H H'->K (.slice a' (n+1) cap') H'):
    NewW H (.cells ⟨v⟩ Zbu) fun q H1=>AppW Tryz.prog #[Zfv,Zfv] t [.slice a n cap,.slice (some ⟨q,0,none⟩) 1 1] H1 K:=by
  obtain ⟨it,i1,i2,i3⟩:=Zbmd;obtain ⟨ra,rc,rfl,r8⟩:=id hv;refine h.push f (z:=[.string ⟨#[]⟩,.slice none 0 0]) hv rfl (fun u hu=>?_) (by kernel_rfl) i1 i2 i3 (by decide) (by kernel_rfl) rfl hn (by decide) hK
  simp only [List.mem_cons,List.not_mem_nil,or_false] at hu;rcases hu with rfl | rfl<;>rfl
theorem Zcbm {t:TypeId} {a:Option Addr} {n cap:Nat} {xs:List Pr} (h:Gq PrAt 7 Zt H0 F H a n cap xs) (f:Fr H0 F H) {p:Pr} (hn:n <= 100000)
    {K:Value->Heap->Prop} (hK: ∀a' cap' H',Fr H0 F H'->Gq PrAt 7 Zt H0 F H' a' (n+1) cap' (xs++[p])->(∀y,a'=some ⟨y,0,none⟩->a=some ⟨y,0,none⟩∨H y=none)->Keep (fun y=>a=some ⟨y,0,none⟩) H H'->K (.slice a' (n+1) cap') H'):
    NewW H (.cells ⟨prL p.name p.addr p.as_ p.waits p.max p.in_ p.out⟩ Zt) fun q H1=>AppW Tryz.prog #[Zfu,Zfu] t [.slice a n cap,.slice (some ⟨q,0,none⟩) 1 1] H1 K:=by
  obtain ⟨it,i1,i2,i3⟩:=Zblp;refine h.push f (z:=[.string ⟨#[]⟩,.int .u32 0,.int .u32 0,.bool false,.int .i64 0,.string ⟨#[]⟩,.string ⟨#[]⟩]) (x:=p) rfl rfl (fun u hu=>?_) (by kernel_rfl) i1 i2 i3 (by decide) (by kernel_rfl) rfl hn (by decide) hK
  simp only [List.mem_cons,List.not_mem_nil,or_false] at hu;rcases hu with rfl | rfl | rfl | rfl | rfl | rfl | rfl<;>rfl
theorem Zbwg {i0 i1 i2 i3 i4:Int} {w0 w1 w2 w3 w4 w5 w6:Value} {s x:Nat} {a b:Option Addr} {n c bn bc:Nat} {pa:Option Addr} {pc:Nat} {pols:List Pl} {qa:Option Addr} {j qc:Nat} {xs:List Pr} {m:Nat} {I:Nat->(Option Addr×Nat×Nat)×Int×Unit->Heap->Prop}
    (f:Fr H0 F H) (hs:Lq H0 F H s Zz [.int .u32 i0,.int .u32 i1,.int .i64 i2,.int .i64 i3,.int .i64 i4,.slice a n c,.slice b bn bc]) (hx:Lq H0 F H x Zz [w0,w1,w2,w3,w4,w5,w6]) (hsx:s≠x) (rp:RwAt PlAt 2 F pa pc pols)
    (g:Gq PrAt 7 Zt H0 F H qa j qc xs) (has:qa≠some ⟨s,0,none⟩) (hax:qa≠some ⟨x,0,none⟩) (hr:u32R i0∧u32R i1∧i64R i2∧i64R i3∧i64R i4) (hpols:pols.length <= 34∧∀p∈pols,smRs p.l∧p.name.length <= 40∧(wSs p.l).length <= bs 4)
    (hxs: ∀y∈xs,prR y∧y.name.length <= 40∧y.in_.length <= 40∧y.out.length <= 40) (hj:j <= 18) (hpn:j <= bn) (hin:RwIn (fun v=>∃p:Pr,v=prL p.name p.addr p.as_ p.waits p.max p.in_ p.out∧prR p) H0 7 b bn) {t:Bool} (ht:t=true->j<bn∧j<18)
    (hnext:t=true->∀(qa':Option Addr) (qc':Nat) (p:Pr) (H':Heap),Fr H0 F H'->Gq PrAt 7 Zt H0 F H' qa' (j+1) qc' (xs++[p])->Lq H0 F H' s Zz [.int .u32 i0,.int .u32 i1,.int .i64 i2,.int .i64 i3,.int .i64 i4,.slice a n c,.slice b bn bc]->Lq H0 F H' x Zz [w0,w1,w2,w3,w4,w5,w6]->qa'≠some ⟨s,0,none⟩->qa'≠some ⟨x,0,none⟩->
      (prR p∧p.name.length <= 40∧p.in_.length <= 40∧p.out.length <= 40)->∃k',k'<m∧I k' ((qa',j+1,qc'),(((j+1:Nat):Int),())) H'):
    Zse s x pa pols.length pc qa j qc (j:Int) (fun x' H'=>∃k',k'<m∧I k' x' H') t H fun v H1=>∀H2,Shut H0 H1 H2->FewR H0 v H2:=by
  unfold Zse;refine IfB.intro (fun e=>?_) fun e=>?_
  . obtain ⟨h1,h2⟩:=ht e;refine ⟨_,_,_,cellL hs.blk 6 rfl,row_in (i:=j) (z:=((j:Nat):Int)) (hin.grow f.k fun m hm=>hm) h1 rfl (fun b1 o1 v1 _ hp hc1=>?_) (by decide)⟩
    obtain ⟨p,rfl,hpr⟩:=hp;refine ld7c (p:=p) hc1 (newB fun u H1 hu bu k1=>st7 (nm:=p.name) (i_:=p.in_) (o_:=p.out) bu fun H2 b2 k2=>?_);have lu:=(f.lq hu bu);have f1:=f.nil k1;have f2:=f1.wr lu k2;have hau:qa≠some ⟨u,0,none⟩:=g.ne hu;have g2:=(g.nil k1).wr k2 hau;have hsu:s≠u:=fun e=>by subst e;exact hs.blk.some hu
    have hxu:x≠u:=fun e=>by subst e;exact hx.blk.some hu
    have s2:=(hs.nil k1).other k2 hsu;have x2:=(hx.nil k1).other k2 hxu;refine ⟨_,cellL b2 0 rfl,_,cellL b2 0 rfl,Zta p.name ⟨_,cellL b2 5 rfl,_,cellL b2 5 rfl,Zta p.in_ ⟨_,cellL b2 6 rfl,_,cellL b2 6 rfl,Zta p.out ?_⟩⟩⟩;rw [Ztg,Ztg,Ztg];refine stL b2 (by simp) rfl fun J1 e1 q1=>stL e1 (by simp) rfl fun J2 e2 q2=>stL e2 (by simp) rfl fun J3 e3 q3=>?_
    have kq:=(q1.trans q2).trans q3;have f3:=f2.wr (lu.wr b2) kq;have g3:=g2.wr kq hau;have s3:=s2.other kq hsu;have x3:=x2.other kq hxu;refine ld7 (nm:=p.name.take 40) (i_:=p.in_.take 40) (o_:=p.out.take 40) e3 (Zcbm (p:=⟨p.name.take 40,p.addr,p.as_,p.waits,p.max,p.in_.take 40,p.out.take 40⟩) g3 f3 (by omega) fun a' cap' H7 f7 g7 old k7=>⟨_,_,_,rfl,?_⟩)
    have hw:(IntKind.wrap .i64 ((j:Int)+1),())=(((j+1:Nat):Int),()):=Prod.ext (by show IntKind.wrap .i64 ((j:Int)+1)=_;rw [Zbf (by omega) (by omega)];omega) rfl
    rw [hw];exact hnext e a' cap' _ H7 f7 g7 ⟨s3.nw,s3.nf,k7.blk s3.blk fun e=>has e⟩ ⟨x3.nw,x3.nf,k7.blk x3.blk fun e=>hax e⟩ (fun e=>(old s e).elim has fun h=>s3.blk.some h) (fun e=>(old x e).elim hax fun h=>x3.blk.some h) ⟨hpr,by simp only [List.length_take];omega,by simp only [List.length_take];omega,by simp only [List.length_take];omega⟩
  . obtain ⟨F',f',kF,row,nf⟩:=g.done f (by omega) fun F' k v x h=>h
    have hlen:=g.len;subst hlen;have hs':Lq H0 F' H s Zz _:=⟨hs.nw,nf s hs.nf has,hs.blk⟩;have hx':Lq H0 F' H x Zz _:=⟨hx.nw,nf x hx.nf hax,hx.blk⟩;refine stL hs'.blk (by simp) rfl fun J1 e1 q1=>stL e1 (by simp) rfl fun J2 e2 q2=>?_
    have kq:=q1.trans q2;have f1:=f'.wr hs' kq;have x1:=hx'.other kq hsx.symm;refine ld7s e2 (st7s x1.blk fun J3 e3 q3=>ld7s e3 fun H2 hsh=>⟨_,⟨i0,i1,i2,i3,i4,pols,xs⟩,F',rfl,⟨⟨pa,qa,pc,qc,rfl,rp.grow kF fun _ _ h=>h.grow kF,row⟩⟩,(f1.wr x1 q3).shut hsh,⟨⟨hr.1,hr.2.1,hr.2.2.1,hr.2.2.2.1,hr.2.2.2.2,fun p hp=>(hpols.2 p hp).1,fun p hp=>(hxs p hp).1⟩,⟨hpols.1,fun p hp=>(hpols.2 p hp).2⟩,⟨hj,fun p hp=>(hxs p hp).2⟩⟩⟩)
theorem Zbwf {vs:List Value} (hin:SpIn H vs):FnW Tryz.prog Zbao ⟨[.agg ⟨vs⟩]⟩ H (FewR H):=by
  obtain ⟨i0,i1,i2,i3,i4,a,n,c,b,bn,bc,rfl,r0,r1,r2,r3,r4,hpl,hpr⟩:=hin.ex;refine Zchq i0 i1 i2 i3 i4 a n c b bn bc ?_;unfold Zbqe;refine newB fun s H1 hs bs_ k1=>newB fun x H2 hx bx k2=>newB fun y H3 hy by_ k3=>?_;have f0:=Fr.start (H:=H);have f1:=f0.nil k1;have f2:=f1.nil k2;have ls:=((f0.lq hs bs_).nil k2).nil k3;have lx:=(f1.lq hx bx).nil k3;have gy:Gq PlAt 2 Zbu H emp H3 (some ⟨y,0,none⟩) 0 0 []:=Gq.start f2 hy by_;have hys:y≠s:=fun e=>by subst e;exact (k2.blk bs_ id).some hy
  have hyx:y≠x:=fun e=>by subst e;exact bx.some hy
  have hsx:s≠x:=fun e=>by subst e;exact bs_.some hx
  refine Zbj (fun m st Hx=>∃(j:Nat) (ra:Option Addr) (cp:Nat) (xs:List Pl) (F:Heap),st=((ra,j,cp),((j:Int),()))∧j <= 34∧m+j=34∧j <= n∧Fr H F Hx∧Gq PlAt 2 Zbu H F Hx ra j cp xs∧Lq H F Hx s Zz _∧Lq H F Hx x Zz _∧ra≠some ⟨s,0,none⟩∧ra≠some ⟨x,0,none⟩∧∀p∈xs,smRs p.l∧p.name.length <= 40∧(wSs p.l).length <= bs 4) 34
    ⟨0,_,_,[],emp,rfl,by omega,rfl,Nat.zero_le _,f2.nil k3,gy,ls,lx,(fun e=>hys (by cases e;rfl)),(fun e=>hyx (by cases e;rfl)),fun y hy=>by cases hy⟩ ?_
  rintro m st Hx ⟨j,ra,cp,xs,F,rfl,hj,hmj,hjn,f,g,hc,hx,hac,hax,hxs⟩ gg;have fin: ∀{next:(Option Addr×Nat×Nat)×Int×Unit->Heap->Prop},Zsd s x ra j cp j next false Hx fun v H1=>∀H2,Shut H H1 H2->FewR H v H2:=fun {next}=>by
    unfold Zsd;obtain ⟨F',f',kF,row,nf⟩:=g.done f (by omega) fun F' k v x h=>h.grow k
    have hlen:=g.len;have hs':Lq H F' Hx s Zz _:=⟨hc.nw,nf s hc.nf hac,hc.blk⟩;have hx':Lq H F' Hx x Zz _:=⟨hx.nw,nf x hx.nf hax,hx.blk⟩;refine ifF rfl (newB fun z H4 hz bz k4=>?_);have gz:Gq PrAt 7 Zt H F' H4 (some ⟨z,0,none⟩) 0 0 []:=Gq.start f' hz bz;have hzs:z≠s:=fun e=>by subst e;exact hc.blk.some hz
    have hzx:z≠x:=fun e=>by subst e;exact hx.blk.some hz
    let I:Nat->(Option Addr×Nat×Nat)×Int×Unit->Heap->Prop:=fun m st Hy=>∃(j:Nat) (ra:Option Addr) (cp:Nat) (ps:List Pr),st=((ra,j,cp),((j:Int),()))∧j <= 18∧m+j=18∧j <= bn∧Fr H F' Hy∧Gq PrAt 7 Zt H F' Hy ra j cp ps∧Lq H F' Hy s Zz [.int .u32 i0,.int .u32 i1,.int .i64 i2,.int .i64 i3,.int .i64 i4,.slice a n c,.slice b bn bc]∧Lq H F' Hy x Zz spZ∧ra≠some ⟨s,0,none⟩∧ra≠some ⟨x,0,none⟩∧∀y∈ps,prR y∧y.name.length <= 40∧y.in_.length <= 40∧y.out.length <= 40
    refine Zbj I 18
      ⟨0,_,_,[],rfl,by omega,rfl,Nat.zero_le _,f'.nil k4,gz,hs'.nil k4,hx'.nil k4,(fun e=>hzs (by cases e;rfl)),(fun e=>hzx (by cases e;rfl)),fun y hy=>by cases hy⟩ ?_
    rintro m2 st2 Hy ⟨i,qa,qc,ps,rfl,hi,hmi,hin2,fy,gq,lsy,lxy,nqs,nqx,hps⟩ g2;unfold Zbqd;have row2:RwAt PlAt 2 F' ra cp xs:=row;have hsz:j=xs.length:=hlen.symm;rw [hsz];refine ⟨_,_,_,cellL lsy.blk 6 rfl,?_⟩;have go: ∀t:Bool,(t=true->i<bn∧i<18)->Zse s x ra xs.length cp qa i qc (i:Int) (fun x' H'=>∃k',k'<m2∧I k' x' H') t Hy fun v H1=>∀H2,Shut H H1 H2->FewR H v H2:=fun t ht=>
      Zbwg (I:=I) fy lsy lxy hsx row2 gq nqs nqx ⟨r0,r1,r2,r3,r4⟩ ⟨by omega,hxs⟩ hps hi hin2 hpr ht fun e qa' qc' p H' h1 h2 h3 h4 h5 h6 h7=>⟨m2 - 1,by have:=ht e;omega,i+1,qa',qc',_,rfl,by have:=ht e;omega,by have:=ht e;omega,by have:=ht e;omega,h1,h2,h3,h4,h5,h6,fun y hy=>by
        rcases List.mem_append.1 hy with hy | hy;exact hps y hy
        . rw [List.mem_singleton.1 hy];exact h7⟩
    refine IfB.intro (fun e1=>go _ fun e2=>?_) fun _=>go false fun e=>by cases e
    have e1:=of_decide_eq_true e1;have e2:=of_decide_eq_true e2;simp only at e1 e2;omega
  unfold Zbqc;refine ⟨_,_,_,cellL hc.blk 5 rfl,IfB.intro (fun e1=>?_) fun _=>fin⟩;have e1:=of_decide_eq_true e1;simp only at e1;by_cases h34:j<34
  case neg=>
    rw [decide_eq_false (show ¬((j:Int)<34) by omega)]
    exact fin
  rw [decide_eq_true (show (j:Int)<34 by omega)]
  have hjn2:j<n:=by omega
  obtain ⟨b0,o0,_,rfl,_⟩:=hpl j hjn2;unfold Zsd;have hplx:=hpl.grow f.k (P':=fun v=>∃(nm:List UInt8) (sa:Option Addr) (sn sc:Nat),v= [.string (bstr nm),.slice sa sn sc]∧Zdc Hx 4 sa sn) fun m ⟨nm,sa,sn,sc,e,h⟩=>⟨nm,sa,sn,sc,e,Zdc.grow f.k 4 h⟩;have hb0:Hx b0≠none:=by
    obtain ⟨b,o,mm,e,hl,hcc,_⟩:=hplx j hjn2;cases e;intro e;have h0:=hcc 0 (by decide)
    rw [List.getElem?_eq_getElem (by omega)] at h0
    unfold Heap.cell at h0;simp only [e] at h0;cases h0
  have hbs: ∀b∈[s,b0],Hx b≠none:=fun b hb=>by simp only [List.mem_cons,List.not_mem_nil,or_false] at hb;rcases hb with rfl | rfl;exact hc.blk.some;exact hb0
  have hm1:s∈[s,b0]:=List.mem_cons_self;have hm2:b0∈[s,b0]:=List.mem_cons_of_mem _ (List.mem_singleton.2 rfl);obtain ⟨b1,o1,mv,e,hl,hcv,nm,sa,sn,sc,rfl,hst⟩:=hplx j hjn2;cases e;have el: ∀{K:Addr->Prop},K ⟨b0,o0+j*2,none⟩->NilP (some ⟨b0,o0,none⟩) fun q=>InB ((j:Nat):Int) n fun m=>elemAt q m 2 K:=fun hk=>NilP.intro _ rfl (InB.intro j rfl hjn2 (by rw [Zmh];exact hk))
  have c0:=hcv 0 (by decide)
  have c1:=hcv 1 (by decide)
  refine ifT rfl ⟨[s,b0],Zbwx hbs,hm1,_,_,_,cellL hc.blk 5 rfl,el ⟨hm2,_,c0,hm1,_,_,_,cellL hc.blk 5 rfl,el ⟨hm2,_,c0,Zta nm ⟨_,_,_,cellL hc.blk 5 rfl,el ⟨_,_,_,c1,(Zbwq 4 (c:=sc) hst (by omega)).mono ?_⟩⟩⟩⟩⟩
  rintro _ H4 ⟨a4,c4,xs4,F4,rfl,row4,f4,hr4,hb4⟩;obtain ⟨h6,k6,k6',n6⟩:=f.add f4;have g4:=g.add f f4 fun v x h=>h.grow k6;have s4:=hc.add f f4;have x4:=hx.add f f4;refine ⟨_,_,_,rfl,Zbyi hbs f4.k,?_⟩;rw [Ztg];refine Zcbl (c:=⟨nm.take 40,xs4⟩) g4 h6 ⟨a4,c4,rfl,row4.grow k6' fun _ _ h=>h.grow k6'⟩ (by omega) fun a' cap' H7 f7 g7 old k7=>⟨_,_,_,rfl,m - 1,by omega,j+1,a',cap',_,_,Prod.ext rfl (Prod.ext ?_ rfl),by omega,by omega,by omega,f7,g7,⟨s4.nw,s4.nf,k7.blk s4.blk fun e=>hac e⟩,⟨x4.nw,x4.nf,k7.blk x4.blk fun e=>hax e⟩,(fun e=>(old s e).elim hac fun h=>s4.blk.some h),(fun e=>(old x e).elim hax fun h=>x4.blk.some h),fun z hz=>?_⟩
  . show IntKind.wrap .i64 ((j:Int)+1)=((j+1:Nat):Int);rw [Zbf (by omega) (by omega)];omega
  rcases List.mem_append.1 hz with hz | hz;exact hxs z hz;rw [List.mem_singleton.1 hz];exact ⟨hr4,by simp only [List.length_take];omega,hb4⟩
end
end Go.Proofs.YtlkdgfolbllngaaGreatDoor
end
section
set_option maxRecDepth 100000
namespace Go.Proofs.YtlkdgfolbllngaaGreatDoor
open Go.Sh Go.Pc
def W50 (ws:W8):Prop:=∀w∈ws,w.length <= 50
theorem W50.nil:W50 []:=fun w h=>by cases h
theorem W50.cons {w:List UInt8} {ws:W8} (h:w.length <= 50) (hs:W50 ws):W50 (w::ws):=fun u hu=>by rcases List.mem_cons.1 hu with rfl | hu;exact h;exact hs u hu
theorem W50.one {w:List UInt8} (h:w.length <= 50):W50 [w]:=W50.cons h W50.nil
theorem W50.app {ws us:W8} (h:W50 ws) (hs:W50 us):W50 (ws++us):=fun u hu=>by rcases List.mem_append.1 hu with hu | hu;exact h u hu;exact hs u hu
theorem W50.ite {p:Prop} [Decidable p] {ws us:W8} (h:W50 ws) (hs:W50 us):W50 (if p then ws else us):=by split;exact h;exact hs
theorem W50.wm: ∀{ws:W8},W50 ws->wm ws <= 51*ws.length
  | [],_=>Nat.zero_le _
  | w::ws,h=>by have h1:=W50.wm (ws:=ws) fun u hu=>h u (List.mem_cons_of_mem _ hu);have h2:=h w List.mem_cons_self;show w.length+1+Go.Proofs.YtlkdgfolbllngaaGreatDoor.wm ws <= 51*(ws.length+1);omega
theorem Zhe {n:Int} (h:i64R n):(Lib.itoa n).length <= 50:=by have:=Zqj h;omega
theorem Zbgy {n:Int} (h:i64R n):(Ziq n).length <= 50:=by
  unfold Ziq;have h1:i64R (Int.tdiv n 65536):=by
    unfold i64R at h ⊢;rcases Int.le_total 0 n with h0 | h0;rw [Int.tdiv_eq_ediv_of_nonneg h0];omega
    . have e:Int.tdiv n 65536= -(Int.tdiv (-n) 65536):=by rw [Int.neg_tdiv,Int.neg_neg]
      rw [e,Int.tdiv_eq_ediv_of_nonneg (by omega)];omega
  have h2:i64R (Int.tmod n 65536):=by
    unfold i64R at h ⊢;rcases Int.le_total 0 n with h0 | h0;rw [Int.tmod_eq_emod_of_nonneg h0];omega
    . have e:Int.tmod n 65536= -(Int.tmod (-n) 65536):=by rw [Int.neg_tmod,Int.neg_neg]
      rw [e,Int.tmod_eq_emod_of_nonneg (by omega)];omega
  have l1:=Zqj h1;have l2:=Zqj h2;simp only [List.length_append,List.length_cons];omega
theorem px50 (pa pl:Int):(pxT pa pl).length <= 50:=by
  unfold pxT pT;split
  . rename_i h;have hr:=Zbdn.1 h;have:=Zcac (UInt32.ofNat pa.toNat).toNat pl.toNat (by omega)
    omega
  exact Nat.zero_le _
theorem Zbyp {op pa pl n:Int} (h:i64R n):W50 (Zge op pa pl n):=by
  have i:=Zhe h;have c:=Zbgy h;have p:=px50 pa pl;have k: ∀{w:List UInt8},w.length <= 20->w.length <= 50:=fun h=>Nat.le_trans h (by decide)
  have a:=fun (w1 w2:List UInt8) (h1:w1.length <= 20) (h2:w2.length <= 20)=>(W50.cons (k h1) (W50.one (k h2))).app (W50.one i);unfold Zge;refine W50.ite ((W50.cons (k (by decide)) (W50.cons (k (by decide)) (W50.cons p (W50.one (k (by decide)))))).app (W50.one i)) ?_
  refine W50.ite (W50.cons (k (by decide)) (W50.cons (k (by decide)) (W50.one p))) ?_
  refine W50.ite (a _ _ (by decide) (by decide)) ?_
  refine W50.ite (a _ _ (by decide) (by decide)) ?_
  refine W50.ite (a _ _ (by decide) (by decide)) ?_
  refine W50.ite (a _ _ (by decide) (by decide)) ?_
  refine W50.ite ((W50.one (k (by decide))).app (W50.one c)) ?_
  refine W50.ite ((W50.one (k (by decide))).app ?_) ?_
  unfold Zhh;exact W50.ite (W50.one (k (by decide))) (W50.ite (W50.one (k (by decide))) (W50.ite (W50.one (k (by decide))) W50.nil))
  exact W50.ite (a _ _ (by decide) (by decide)) (W50.one (k (by decide)))
theorem cs50 {b:W8} {inner:Int} (hb:W50 b): ∀(cs:List Cd) (f:Bool),(∀c∈cs,∀lv,W50 (wC c lv))->W50 (wCs cs b inner f)
  | [],f,_=>by rw [wCs];exact W50.nil
  | c::cs,f,h=>by rw [wCs];exact (W50.ite W50.nil hb).app ((h c List.mem_cons_self _).app (cs50 hb cs false fun d hd=>h d (List.mem_cons_of_mem _ hd)))
theorem Zbgv: ∀{l:List Cd},cdRs l->∀c∈l,cdR c
  | [],_,c,h=>by cases h
  | d::l,h,c,hc=>by rw [cdRs] at h;rcases List.mem_cons.1 hc with rfl | hc;exact h.1;exact Zbgv h.2 c hc
theorem Zvz: ∀{l:List Sm},smRs l->∀c∈l,smR c
  | [],_,c,h=>by cases h
  | d::l,h,c,hc=>by rw [smRs] at h;rcases List.mem_cons.1 hc with rfl | hc;exact h.1;exact Zvz h.2 c hc
theorem c50: ∀(k:Nat) (c:Cd),SizeOf.sizeOf c <= k->cdR c->∀lv,W50 (wC c lv)
  | 0,.mk op cs pa pl n,hk,_=>by simp at hk
  | k+1,.mk op cs pa pl n,hk,hr=>fun lv=>by
    simp only [Cd.mk.sizeOf_spec] at hk;rw [cdR] at hr;have mem: ∀c∈cs,∀lv,W50 (wC c lv):=fun c hc=>c50 k c (by have:=List.sizeOf_lt_of_mem hc;omega) (Zbgv hr.2 c hc)
    have one: ∀{w:List UInt8},w.length <= 20->W50 [w]:=fun h=>W50.one (Nat.le_trans h (by decide))
    rw [wC];refine W50.ite ((W50.ite (one (by decide)) W50.nil).app ((cs50 (one (by decide)) cs _ mem).app (W50.ite (one (by decide)) W50.nil))) ?_
    refine W50.ite ((W50.ite (one (by decide)) W50.nil).app ((cs50 (one (by decide)) cs _ mem).app (W50.ite (one (by decide)) W50.nil))) ?_
    exact W50.ite (W50.cons (by decide) (cs50 W50.nil cs _ mem)) (Zbyp hr.1.2.2)
theorem ss50: ∀ss:List Sm,(∀s∈ss,W50 (wS s))->W50 (wSs ss)
  | [],_=>by rw [wSs];exact W50.nil
  | s::ss,h=>by rw [wSs];exact (h s List.mem_cons_self).app (ss50 ss fun t ht=>h t (List.mem_cons_of_mem _ ht))
theorem s50: ∀(k:Nat) (s:Sm),SizeOf.sizeOf s <= k->smR s->W50 (wS s)
  | 0,.mk op c th el n m,hk,_=>by simp at hk
  | k+1,.mk op c th el n m,hk,hr=>by
    simp only [Sm.mk.sizeOf_spec] at hk;rw [smR] at hr;obtain ⟨⟨hc,hn,hm⟩,hth,hel⟩:=hr;have m1:=ss50 th fun s hs=>s50 k s (by have:=List.sizeOf_lt_of_mem hs;omega) (Zvz hth s hs)
    have m2:=ss50 el fun s hs=>s50 k s (by have:=List.sizeOf_lt_of_mem hs;omega) (Zvz hel s hs)
    have one: ∀{w:List UInt8},w.length <= 20->W50 [w]:=fun h=>W50.one (Nat.le_trans h (by decide))
    have nm:(Zhj op).length <= 20:=by
      unfold Zhj
      repeat' split
      all_goals decide
    rw [wS];refine W50.ite ((one (by decide)).app ((c50 _ c (Nat.le_refl _) hc 0).app (((one (by decide)).app (m1.app (one (by decide)))).app (W50.ite W50.nil ((one (by decide)).app ((one (by decide)).app (m2.app (one (by decide))))))))) ?_
    refine W50.ite (W50.cons (by decide) (one (by decide))) ((one nm).app (W50.app ?_ (one (by decide))))
    unfold Zei;exact W50.ite (W50.cons (Zhe hn) (W50.one (Zhe hm))) (W50.ite (W50.one (Zhe hn)) (W50.ite (W50.one (Zbgy hn)) W50.nil))
theorem bs4:bs 4=173688185:=by decide
theorem Zbwh {sp:Sp} (h:Few sp):W50 (wSp sp)∧(wSp sp).length <= 6000000000:=by
  have one: ∀{w:List UInt8},w.length <= 20->W50 [w]:=fun h=>W50.one (Nat.le_trans h (by decide))
  have k: ∀{w:List UInt8},w.length <= 20->w.length <= 50:=fun h=>Nat.le_trans h (by decide)
  have u: ∀{n:Int},u32R n->i64R n:=fun {n} h=>by unfold u32R at h;unfold i64R;omega
  have hb4:=bs4;have pols: ∀ps:List Pl,(∀p∈ps,smRs p.l)->(∀p∈ps,p.name.length <= 40∧(wSs p.l).length <= bs 4)->W50 (wPls ps)∧(wPls ps).length <= ps.length*(bs 4+4):=by
    intro ps;induction ps with
    | nil=>intro _ _;exact ⟨W50.nil,Nat.zero_le _⟩
    | cons p ps ih=>
      intro h1 h2;obtain ⟨g1,g2⟩:=ih (fun q hq=>h1 q (List.mem_cons_of_mem _ hq)) fun q hq=>h2 q (List.mem_cons_of_mem _ hq);obtain ⟨n1,n2⟩:=h2 p List.mem_cons_self;have hs:=ss50 p.l fun s hs=>s50 _ s (Nat.le_refl _) (Zvz (h1 p List.mem_cons_self) s hs);have e:wPls (p::ps)=wPl p++wPls ps:=rfl;rw [e];refine ⟨W50.app ?_ g1,?_⟩;unfold wPl wB;exact (W50.cons (k (by decide)) (W50.one (by omega))).app ((one (by decide)).app (hs.app (one (by decide))))
      unfold wPl wB;simp only [List.length_append,List.length_cons,List.length_nil];rw [Nat.succ_mul];omega
  have peers: ∀ps:List Pr,(∀p∈ps,prR p)->(∀p∈ps,p.name.length <= 40∧p.in_.length <= 40∧p.out.length <= 40)->W50 (wPrs ps)∧(wPrs ps).length <= ps.length*20:=by
    intro ps;induction ps with
    | nil=>intro _ _;exact ⟨W50.nil,Nat.zero_le _⟩
    | cons p ps ih=>
      intro h1 h2;obtain ⟨g1,g2⟩:=ih (fun q hq=>h1 q (List.mem_cons_of_mem _ hq)) fun q hq=>h2 q (List.mem_cons_of_mem _ hq);obtain ⟨n1,n2,n3⟩:=h2 p List.mem_cons_self;obtain ⟨r1,r2,r3⟩:=h1 p List.mem_cons_self;have ht:=Zrl p.addr.toNat;have e:wPrs (p::ps)=wPr p++wPrs ps:=rfl;rw [e];refine ⟨W50.app ?_ g1,?_⟩;unfold wPr;exact (W50.cons (k (by decide)) (W50.cons (by omega) (W50.cons (by omega) (one (by decide))))).app ((W50.one (Zhe (u r2))).app ((W50.ite (one (by decide)) W50.nil).app ((W50.ite ((one (by decide)).app (W50.one (Zhe r3))) W50.nil).app ((W50.ite W50.nil (W50.cons (k (by decide)) (W50.one (by omega)))).app ((W50.ite W50.nil (W50.cons (k (by decide)) (W50.one (by omega)))).app (one (by decide)))))))
      . have hif: ∀{p:Prop} [Decidable p] {a b:W8} {n:Nat},a.length <= n->b.length <= n->(if p then a else b).length <= n:=fun {p _ a b n} h1 h2=>by split;exact h1;exact h2
        unfold wPr;simp only [List.length_append,List.length_cons,List.length_nil];have i1:=hif (p:=p.waits=true) (a:=[Zlo]) (b:=[]) (n:=2) (by decide) (by decide)
        have i2:=hif (p:=p.max>0) (a:=[Zln]++[Lib.itoa p.max]) (b:=[]) (n:=2) (by simp) (by decide)
        have i3:=hif (p:=p.in_= []) (a:=[]) (b:=[w_in,p.in_]) (n:=2) (by decide) (by simp)
        have i4:=hif (p:=p.out= []) (a:=[]) (b:=[Zgt,p.out]) (n:=2) (by decide) (by simp)
        rw [Nat.succ_mul];omega
  obtain ⟨q1,q2⟩:=pols sp.pols h.r.pols h.pols.2;obtain ⟨q3,q4⟩:=peers sp.peers h.r.peers h.peers.2;have ht:=Zrl sp.router.toNat;have sc:w_sc.length <= 20:=by decide
  refine ⟨?_,?_⟩;unfold wSp Zjq;exact (W50.cons (k (by decide)) (W50.cons (Zhe (u h.r.as_)) (W50.cons (k sc) (W50.cons (k (by decide)) (W50.cons (by omega) (W50.cons (k sc) (W50.cons (k (by decide)) (W50.cons (Zhe h.r.hold) (W50.cons (k sc) (W50.cons (k (by decide)) (W50.cons (Zhe h.r.retry) (one sc)))))))))))).app ((W50.ite (W50.cons (k (by decide)) (W50.cons (Zhe h.r.grace) (one sc))) W50.nil).app (q1.app q3))
  . unfold wSp Zjq;have i1:(if sp.grace>0 then [Zdp,Lib.itoa sp.grace,w_sc] else ([]:W8)).length <= 3:=by split;exact Nat.le_refl 3;exact Nat.zero_le _
    have m1:sp.pols.length*(bs 4+4) <= 34*(bs 4+4):=Nat.mul_le_mul_right _ h.pols.1;have m2:sp.peers.length*20 <= 18*20:=Nat.mul_le_mul_right _ h.peers.1;simp only [List.length_append,List.length_cons,List.length_nil];omega
section
variable {F H H1 H':Heap}
theorem SpIn.keep {vs:List Value} (h:SpIn H vs) (k:Keep Nil H H'):SpIn H' vs:=by obtain ⟨i0,i1,i2,i3,i4,a,n,c,b,bn,bc,e,r0,r1,r2,r3,r4,hp,hq⟩:=h.ex;exact ⟨i0,i1,i2,i3,i4,a,n,c,b,bn,bc,e,r0,r1,r2,r3,r4,hp.grow k fun m ⟨nm,sa,sn,sc,e,h⟩=>⟨nm,sa,sn,sc,e,Zdc.grow k 4 h⟩,hq.grow k fun m h=>h⟩
theorem Zbuj (hy:Lyd H) {vs:List Value} (hin:SpIn H vs):FnW Tryz.prog Zbig ⟨[.agg ⟨vs⟩]⟩ H fun v H'=>v= .bool true∧Keep Nil H H':=by
  have hin':=hin;obtain ⟨i0,i1,i2,i3,i4,a,n,c,b,bn,bc,rfl,_⟩:=hin'.ex;refine Zcjy i0 i1 i2 i3 i4 a n c b bn bc ?_;unfold Zbtk;refine newB fun s H1 hs bs k1=>(Zcfu (hy.keep k1)).mono ?_;rintro _ H2 ⟨rfl,k2⟩;have bs2:=k2.blk bs id;have k02:=k1.trans k2;refine ⟨_,rfl,ifF rfl (ld7s bs2 ((Zbwf (hin.keep k02)).mono ?_))⟩;rintro _ H3 ⟨vs1,sp,F1,rfl,hv1,f1,hf⟩;have hv1':=hv1;obtain ⟨a1,b1,ac1,bc1,rfl,_⟩:=hv1'.ex;have bs3:=f1.k.blk bs2 id;refine ⟨_,_,_,_,_,_,_,_,_,_,_,rfl,st7s bs3 fun H4 bs4 k4=>?_⟩;have k03:=k02.trans f1.k;have k04:Keep Nil H H4:=k03.then k4 fun y hy=> .inr (hy▸hs);have fr4:Keep Nil F1 H4:=⟨fun y _ hy=>by
    have hne:y≠s:=fun e=>bs2.some (e▸f1.nw y hy);rw [k4.same y hne (f1.fr.live y hy)];exact f1.fr.same y id hy,fun y hy=>k4.live y (f1.fr.live y hy)⟩
  obtain ⟨hw,hn⟩:=Zbwh hf;have hwm:=hw.wm;have hjw:=Zbjl (wSp sp);refine ld7s bs4 ((Zcat (hy.keep k04) hv1 fr4 hf.r (by omega) (by show (Lib.join (wSp sp) [32]).length <= _;omega) (fun x hx=>by have:=hw x hx;omega) fun k=>Zbvc hv1 k).mono ?_)
  rintro v5 H5 ⟨k5,h5⟩;have k05:=k04.trans k5;have bad: ∀{e:Int},e≠0->v5= .tuple ⟨[.string (bstr []),.int .i64 e]⟩->∃(t:ByteArray) (e:Int),v5= .tuple ⟨[.string t,.int .i64 e]⟩∧e≠0∧t=bstr []:=fun {e} h h2=>⟨_,e,h2,h,rfl⟩;have hcase:(∃(t:ByteArray) (e:Int),v5= .tuple ⟨[.string t,.int .i64 e]⟩∧e≠0∧t=bstr [])∨(Zen (Zez sp)= .ok sp∧v5= .tuple ⟨[.string (bstr (Zez sp)),.int .i64 0]⟩):=by
    rcases h5 with ⟨h,h2⟩ | ⟨_,_,h2⟩ | ⟨_,h,h2⟩;exact .inl (bad h h2);exact .inl (bad (by decide) h2)
    exact .inr ⟨h,h2⟩
  rcases hcase with ⟨t,e,rfl,he,rfl⟩ | ⟨hrt,rfl⟩
  . refine ⟨_,_,rfl,ifT (by simpa using he) fun H6 hs6=>⟨?_,Zh k05 hs6⟩⟩
    show Value.bool ((bstr []).toList==(bstr []).toList)=_;simp
  refine ⟨_,_,rfl,ifF rfl ((Zbez (hy.keep k05) (by show (Lib.join (wSp sp) [32]).length <= _;omega)).mono ?_)⟩
  rintro v7 H7 p7;have k7:=p7.1;obtain ⟨sp2,F2,vs2,ln2,e2,rfl,hv2,fr2,c2⟩:=Zbzw p7;rw [hrt] at c2;obtain ⟨rfl,rfl⟩:sp2=sp∧e2=0:=by rcases c2 with ⟨h,h2⟩ | ⟨⟨z,h⟩,_⟩;cases h;exact ⟨rfl,h2⟩;cases h
  have hv2':=hv2;obtain ⟨a2,b2,ac2,bc2,rfl,_⟩:=hv2'.ex;refine ⟨_,_,_,_,_,_,_,_,_,_,_,_,_,rfl,newB fun r H8 hr br k8=>st7s br fun H9 br9 k9=>?_⟩;have bs7:=k7.blk (k5.blk bs4 id) id;have hsr:s≠r:=fun e=>by subst e;exact bs7.some hr
  have bs9:=k9.blk (k8.blk bs7 id) hsr;have k79:Keep Nil H7 H9:=k8.then k9 fun y hy=> .inr (hy▸hr);have k09:=(k05.trans k7).trans k79;refine ifT rfl (ld7s br9 (ld7s bs9 ((Zcct hv2 hv1 (fr2.trans k79) (((fr4.trans k5).trans k7).trans k79)).mono ?_)));rintro _ H10 ⟨rfl,k10⟩;exact ⟨_,rfl,fun H11 hs=>⟨rfl,Zh (k09.trans k10) hs⟩⟩
end
end Go.Proofs.YtlkdgfolbllngaaGreatDoor
end
section
set_option maxRecDepth 100000
namespace Go.Proofs.YtlkdgfolbllngaaGreatDoor
open Go.Sh Go.Pc Go.ChangeShapes Go.WideShapes Go.ChangeAt Go.RowKit
theorem Zcgp:Tryz.prog.underlying Zbo=some (.int .i64):=by kernel_rfl
theorem Zbpa:Tryz.prog.underlying Zlx=some (.int .u32):=by kernel_rfl
theorem Zwz:Tryz.prog.underlying Zet=some (.int .u32):=by kernel_rfl
theorem Zcgo:Tryz.prog.underlying Zkh=some .bool:=by kernel_rfl
theorem Zcgv:Tryz.prog.underlying Zj=some .string:=by kernel_rfl
theorem Zbox:Tryz.prog.underlying Zkg=some (.struct #[⟨ "Addr",Zet,0,false,"","",0⟩,⟨ "Len",Zbo,1,false,"","",8⟩]):=by kernel_rfl
theorem Zbow:Tryz.prog.underlying Zeg=some (.slice Zl):=by kernel_rfl
theorem Zboz:Tryz.prog.underlying Zdd=some (.slice Zq):=by kernel_rfl
theorem Zcgt:Tryz.prog.underlying Zfv=some (.slice Zbu):=by kernel_rfl
theorem Zcgr:Tryz.prog.underlying Zfu=some (.slice Zt):=by kernel_rfl
theorem Zbov:Tryz.prog.underlying Zl=some (.struct #[⟨ "Op",Zbo,0,false,"","",0⟩,⟨ "L",Zeg,1,false,"","",8⟩,⟨ "Prefix",Zkg,2,false,"","",32⟩,⟨ "N",Zbo,4,false,"","",48⟩]):=by kernel_rfl
theorem Zcgu:Tryz.prog.underlying Zq=some (.struct #[⟨ "Op",Zbo,0,false,"","",0⟩,⟨ "If",Zl,1,false,"","",8⟩,⟨ "Then",Zdd,6,false,"","",64⟩,⟨ "Else",Zdd,7,false,"","",88⟩,⟨ "N",Zbo,8,false,"","",112⟩,⟨ "M",Zbo,9,false,"","",120⟩]):=by kernel_rfl
theorem Zcgs:Tryz.prog.underlying Zbu=some (.struct #[⟨ "Name",Zj,0,false,"","",0⟩,⟨ "L",Zdd,1,false,"","",16⟩]):=by kernel_rfl
theorem Zcgq:Tryz.prog.underlying Zt=some (.struct #[⟨ "Name",Zj,0,false,"","",0⟩,⟨ "Addr",Zet,1,false,"","",16⟩,⟨ "AS",Zlx,2,false,"","",20⟩,⟨ "Waits",Zkh,3,false,"","",24⟩,⟨ "Max",Zbo,4,false,"","",32⟩,⟨ "In",Zj,5,false,"","",40⟩,⟨ "Out",Zj,6,false,"","",56⟩]):=by kernel_rfl
theorem Zboy:Tryz.prog.underlying Zz=some (.struct #[⟨ "AS",Zlx,0,false,"","",0⟩,⟨ "Router",Zet,1,false,"","",4⟩,⟨ "Hold",Zbo,2,false,"","",8⟩,⟨ "Retry",Zbo,3,false,"","",16⟩,⟨ "Graceful",Zbo,4,false,"","",24⟩,⟨ "Policies",Zfv,5,false,"","",32⟩,⟨ "Peers",Zfu,6,false,"","",56⟩]):=by kernel_rfl
theorem Zfq:Tryz.prog.cellsOf Zbo=1:=by kernel_rfl
theorem Zbou:Tryz.prog.cellsOf Zlx=1:=by kernel_rfl
theorem Zwx:Tryz.prog.cellsOf Zet=1:=by kernel_rfl
theorem Zcgk:Tryz.prog.cellsOf Zkh=1:=by kernel_rfl
theorem Zwy:Tryz.prog.cellsOf Zj=1:=by kernel_rfl
theorem Zbot:Tryz.prog.cellsOf Zkg=2:=by kernel_rfl
theorem Zboq:Tryz.prog.cellsOf Zeg=1:=by kernel_rfl
theorem Zbei:Tryz.prog.cellsOf Zdd=1:=by kernel_rfl
theorem Zcgm:Tryz.prog.cellsOf Zfv=1:=by kernel_rfl
theorem Zcgl:Tryz.prog.cellsOf Zfu=1:=by kernel_rfl
theorem Zrs:Tryz.prog.cellsOf Zl=5:=by kernel_rfl
theorem Zbeh:Tryz.prog.cellsOf Zq=10:=by kernel_rfl
theorem Zbos:Tryz.prog.cellsOf Zbu=2:=by kernel_rfl
theorem Zbor:Tryz.prog.cellsOf Zt=7:=by kernel_rfl
theorem Zcgn:Tryz.prog.cellsOf Zz=7:=by kernel_rfl
section
variable {H:Type} {enc:TypeId×Value->H} {W:World} {n:Nat} {v:Value} {x:DataW H×List MemPlace}
theorem fldg {fs:Array Field} {cs vs:List Value} {xs:List (DataW H×List MemPlace)} {n1:Nat} (hf: ∀(i:Nat) (f:Field),fs[i]? =some f->DataW.trod enc Tryz.prog W 0 (fun _=>true) true n1 f.type ((cs.drop f.offset).take (Tryz.prog.cellsOf f.type))=xs[i]?)
    (k:Nat) (f:Field) (hk:fs[k]? =some f) (hl:k<xs.length) {sz:Nat} (hc:Tryz.prog.cellsOf f.type=sz) (hv:(cs.drop f.offset).take sz=vs): ∃x,DataW.trod enc Tryz.prog W 0 (fun _=>true) true n1 f.type vs=some x:=by
  have h:=hf k f hk;rw [hc,hv] at h;exact ⟨_,by rw [h];exact List.getElem?_eq_getElem hl⟩
theorem Zfp (h:DataW.trod enc Tryz.prog W 0 (fun _=>true) true n Zbo [v]=some x): ∃z,v= .int .i64 z∧i64R z:=by obtain ⟨m,hm,_,hwf⟩:=DataW.trod_int Zcgp h;cases hm;refine ⟨m,rfl,?_⟩;have h1:IntKind.i64.min= -9223372036854775808:=rfl;have h2:IntKind.i64.max=9223372036854775807:=rfl;simp [Lit.wf,h1,h2] at hwf;unfold i64R;omega
theorem x_u {t:TypeId} (ht:Tryz.prog.underlying t=some (.int .u32)) (h:DataW.trod enc Tryz.prog W 0 (fun _=>true) true n t [v]=some x): ∃z,v= .int .u32 z∧u32R z:=by obtain ⟨m,hm,_,hwf⟩:=DataW.trod_int ht h;cases hm;refine ⟨m,rfl,?_⟩;have h1:IntKind.u32.min=0:=rfl;have h2:IntKind.u32.max=4294967295:=rfl;simp [Lit.wf,h1,h2] at hwf;unfold u32R;omega
theorem Zww (h:DataW.trod enc Tryz.prog W 0 (fun _=>true) true n Zj [v]=some x): ∃s:List UInt8,v= .string (bstr s):=by obtain ⟨s,hm,_,_⟩:=DataW.trod_string Zcgv h;cases hm;exact ⟨s.data.toList,rfl⟩
theorem Zcgg (h:DataW.trod enc Tryz.prog W 0 (fun _=>true) true n Zkh [v]=some x): ∃b,v= .bool b:=by obtain ⟨b,hm,_⟩:=DataW.trod_bool Zcgo h;cases hm;exact ⟨b,rfl⟩
theorem Zob {t e:TypeId} {sz:Nat} {P:List Value->Prop} (ht:Tryz.prog.underlying t=some (.slice e)) (hc:Tryz.prog.cellsOf e=sz) (hsz:0<sz) (h:DataW.trod enc Tryz.prog W 0 (fun _=>true) true n t [v]=some x)
    (hP: ∀(n:Nat) (x:DataW H×List MemPlace) (m:List Value),DataW.trod enc Tryz.prog W 0 (fun _=>true) true n e m=some x->P m): ∃a k c,v= .slice a k c∧RwIn P (hp W) sz a k:=by
  rcases Go.Deep.open_slice ht h with ⟨h1,_⟩ | ⟨a,len,cap,m,n',D,Pl,h1,_,hlc,_,hm,_,hel⟩;cases h1;exact ⟨_,_,_,rfl,fun i hi=>by omega⟩
  . cases h1;simp only [if_true] at hm;subst hm;refine ⟨_,_,_,rfl,fun i hi=>?_⟩;obtain ⟨cs,hcs,htr⟩:=hel i (by omega)
    rw [hc] at hcs;obtain ⟨_,hl,hcell⟩:=World.cells?_some hcs;obtain ⟨cs',hcs',_⟩:=hel 0 (by omega)
    rw [hc] at hcs';obtain ⟨_,hl',hcell'⟩:=World.cells?_some hcs';have s0:=hcell' 0 hsz;rw [List.getElem?_eq_getElem (by omega)] at s0
    obtain ⟨hsp,_⟩:=cell_spot (H:=hp W) s0;obtain ⟨b,o,sp⟩:=a;replace hsp:sp=none:=by simpa [Addr.add] using hsp
    subst hsp;refine ⟨b,o,cs,rfl,hl,fun j hj=>?_,hP _ _ _ htr⟩;have ea:((⟨b,o,none⟩:Addr).add (i*sz)).add j=⟨b,o+i*sz+j,none⟩:=by rw [Zeh (a:=⟨b,o,none⟩) rfl (i*sz)];exact Zeh rfl j
    rw [Zqe,← ea,hcell j hj]
theorem Zcgh: ∀(d:Nat) {n:Nat} {x:DataW H×List MemPlace} {l:List Value},DataW.trod enc Tryz.prog W 0 (fun _=>true) true n Zl l=some x->CdIn (hp W) d l:=by
  intro d;induction d with
  | zero=>
    intro n x l h;obtain ⟨xs,n1,_,_,hl,hxl,hf⟩:=DataW.trod_struct Zbov h;rw [Zrs] at hl;have hxl:xs.length=4:=hxl
    match l,hl with
    | [v0,v1,v2,v3,v4],_=>
      obtain ⟨_,g0⟩:=fldg hf 0 ⟨ "Op",Zbo,0,false,"","",0⟩ rfl (by omega) Zfq rfl
      obtain ⟨_,g1⟩:=fldg hf 1 ⟨ "L",Zeg,1,false,"","",8⟩ rfl (by omega) Zboq rfl
      obtain ⟨_,g2⟩:=fldg hf 2 ⟨ "Prefix",Zkg,2,false,"","",32⟩ rfl (by omega) Zbot rfl
      obtain ⟨_,g3⟩:=fldg hf 3 ⟨ "N",Zbo,4,false,"","",48⟩ rfl (by omega) Zfq rfl
      obtain ⟨z0,rfl,_⟩:=Zfp (v:=v0) g0;obtain ⟨a,k,c,rfl,_⟩:=Zob (v:=v1) (P:=fun _=>True) Zbow Zrs (by decide) g1 fun _ _ _ _=>trivial
      obtain ⟨z3,rfl,r3⟩:=Zfp (v:=v4) g3;obtain ⟨ys,n2,_,_,_,hyl,hg⟩:=DataW.trod_struct Zbox g2;have hyl:ys.length=2:=hyl;obtain ⟨_,k0⟩:=fldg hg 0 ⟨ "Addr",Zet,0,false,"","",0⟩ rfl (by omega) Zwx rfl
      obtain ⟨_,k1⟩:=fldg hg 1 ⟨ "Len",Zbo,1,false,"","",8⟩ rfl (by omega) Zfq rfl
      obtain ⟨y0,rfl,ry0⟩:=x_u (v:=v2) Zwz k0;obtain ⟨y1,rfl,ry1⟩:=Zfp (v:=v3) k1;exact ⟨z0,a,k,c,y0,y1,z3,rfl,ry0,ry1,r3⟩
  | succ d ih=>
    intro n x l h;obtain ⟨xs,n1,_,_,hl,hxl,hf⟩:=DataW.trod_struct Zbov h;rw [Zrs] at hl;have hxl:xs.length=4:=hxl
    match l,hl with
    | [v0,v1,v2,v3,v4],_=>
      obtain ⟨_,g0⟩:=fldg hf 0 ⟨ "Op",Zbo,0,false,"","",0⟩ rfl (by omega) Zfq rfl
      obtain ⟨_,g1⟩:=fldg hf 1 ⟨ "L",Zeg,1,false,"","",8⟩ rfl (by omega) Zboq rfl
      obtain ⟨_,g2⟩:=fldg hf 2 ⟨ "Prefix",Zkg,2,false,"","",32⟩ rfl (by omega) Zbot rfl
      obtain ⟨_,g3⟩:=fldg hf 3 ⟨ "N",Zbo,4,false,"","",48⟩ rfl (by omega) Zfq rfl
      obtain ⟨z0,rfl,_⟩:=Zfp (v:=v0) g0;obtain ⟨a,k,c,rfl,hr⟩:=Zob (v:=v1) (P:=CdIn (hp W) d) Zbow Zrs (by decide) g1 fun _ _ _ h=>ih h
      obtain ⟨z3,rfl,r3⟩:=Zfp (v:=v4) g3;obtain ⟨ys,n2,_,_,_,hyl,hg⟩:=DataW.trod_struct Zbox g2;have hyl:ys.length=2:=hyl;obtain ⟨_,k0⟩:=fldg hg 0 ⟨ "Addr",Zet,0,false,"","",0⟩ rfl (by omega) Zwx rfl
      obtain ⟨_,k1⟩:=fldg hg 1 ⟨ "Len",Zbo,1,false,"","",8⟩ rfl (by omega) Zfq rfl
      obtain ⟨y0,rfl,ry0⟩:=x_u (v:=v2) Zwz k0;obtain ⟨y1,rfl,ry1⟩:=Zfp (v:=v3) k1;exact ⟨z0,a,k,c,y0,y1,z3,rfl,ry0,ry1,r3,hr⟩
theorem Zcgj: ∀(d:Nat) {n:Nat} {x:DataW H×List MemPlace} {v:Value},DataW.trod enc Tryz.prog W 0 (fun _=>true) true n Zdd [v]=some x->∃a k c,v= .slice a k c∧Zdc (hp W) d a k:=by
  intro d;induction d with
  | zero=>
    intro n x v h;obtain ⟨a,k,c,e,_⟩:=Zob (P:=fun _=>True) Zboz Zbeh (by decide) h fun _ _ _ _=>trivial
    exact ⟨a,k,c,e,trivial⟩
  | succ d ih=>
    intro n x v h;refine Zob Zboz Zbeh (by decide) h fun n x l h=>?_
    obtain ⟨xs,n1,_,_,hl,hxl,hf⟩:=DataW.trod_struct Zcgu h;rw [Zbeh] at hl;have hxl:xs.length=6:=hxl
    match l,hl with
    | [v0,v1,v2,v3,v4,v5,v6,v7,v8,v9],_=>
      obtain ⟨_,g0⟩:=fldg hf 0 ⟨ "Op",Zbo,0,false,"","",0⟩ rfl (by omega) Zfq rfl
      obtain ⟨_,g1⟩:=fldg hf 1 ⟨ "If",Zl,1,false,"","",8⟩ rfl (by omega) Zrs rfl
      obtain ⟨_,g2⟩:=fldg hf 2 ⟨ "Then",Zdd,6,false,"","",64⟩ rfl (by omega) Zbei rfl
      obtain ⟨_,g3⟩:=fldg hf 3 ⟨ "Else",Zdd,7,false,"","",88⟩ rfl (by omega) Zbei rfl
      obtain ⟨_,g4⟩:=fldg hf 4 ⟨ "N",Zbo,8,false,"","",112⟩ rfl (by omega) Zfq rfl
      obtain ⟨_,g5⟩:=fldg hf 5 ⟨ "M",Zbo,9,false,"","",120⟩ rfl (by omega) Zfq rfl
      obtain ⟨z0,rfl,_⟩:=Zfp (v:=v0) g0;have hc:CdIn (hp W) 5 [v1,v2,v3,v4,v5]:=Zcgh 5 g1;obtain ⟨op,a,n,c,pa,pl,k,e,_⟩:=hc.five;cases e;obtain ⟨a2,k2,c2,rfl,h2⟩:=ih (v:=v6) g2;obtain ⟨a3,k3,c3,rfl,h3⟩:=ih (v:=v7) g3;obtain ⟨z4,rfl,r4⟩:=Zfp (v:=v8) g4;obtain ⟨z5,rfl,r5⟩:=Zfp (v:=v9) g5;exact ⟨z0,op,a,n,c,pa,pl,k,a2,k2,c2,a3,k3,c3,z4,z5,rfl,hc,r4,r5,h2,h3⟩
theorem Zcgi {base:Nat} {v:Value} {d:DataW H} {ps:List MemPlace} (hval:Value.okWide Tryz.prog W .any base Zz v) (h:DataW.Trod enc Tryz.prog W 0 (fun _=>true) true Zz v d ps): ∃vs,v= .agg ⟨vs⟩∧SpIn (hp W) vs:=by
  obtain ⟨⟨l⟩,rfl,_⟩:=okWide_struct Zboy hval;refine ⟨l,rfl,?_⟩;obtain ⟨fuel,h⟩:=h;obtain ⟨xs,n1,_,_,hl,hxl,hf⟩:=DataW.trod_struct Zboy h;simp only [Value.cells] at hl hf;rw [Zcgn] at hl;have hxl:xs.length=7:=hxl
  match l,hl with
  | [v0,v1,v2,v3,v4,v5,v6],_=>
    obtain ⟨_,g0⟩:=fldg hf 0 ⟨ "AS",Zlx,0,false,"","",0⟩ rfl (by omega) Zbou rfl
    obtain ⟨_,g1⟩:=fldg hf 1 ⟨ "Router",Zet,1,false,"","",4⟩ rfl (by omega) Zwx rfl
    obtain ⟨_,g2⟩:=fldg hf 2 ⟨ "Hold",Zbo,2,false,"","",8⟩ rfl (by omega) Zfq rfl
    obtain ⟨_,g3⟩:=fldg hf 3 ⟨ "Retry",Zbo,3,false,"","",16⟩ rfl (by omega) Zfq rfl
    obtain ⟨_,g4⟩:=fldg hf 4 ⟨ "Graceful",Zbo,4,false,"","",24⟩ rfl (by omega) Zfq rfl
    obtain ⟨_,g5⟩:=fldg hf 5 ⟨ "Policies",Zfv,5,false,"","",32⟩ rfl (by omega) Zcgm rfl
    obtain ⟨_,g6⟩:=fldg hf 6 ⟨ "Peers",Zfu,6,false,"","",56⟩ rfl (by omega) Zcgl rfl
    obtain ⟨z0,rfl,r0⟩:=x_u (v:=v0) Zbpa g0;obtain ⟨z1,rfl,r1⟩:=x_u (v:=v1) Zwz g1;obtain ⟨z2,rfl,r2⟩:=Zfp (v:=v2) g2;obtain ⟨z3,rfl,r3⟩:=Zfp (v:=v3) g3;obtain ⟨z4,rfl,r4⟩:=Zfp (v:=v4) g4
    obtain ⟨a,k,c,rfl,hp_⟩:=Zob (v:=v5) (P:=fun v=>∃(nm:List UInt8) (sa:Option Addr) (sn sc:Nat),v= [.string (bstr nm),.slice sa sn sc]∧Zdc (hp W) 4 sa sn) Zcgt Zbos (by decide) g5 fun n x m h=>by
      obtain ⟨ys,n2,_,_,hl,hyl,hg⟩:=DataW.trod_struct Zcgs h;rw [Zbos] at hl;have hyl:ys.length=2:=hyl
      match m,hl with
      | [u0,u1],_=>
        obtain ⟨_,k0⟩:=fldg hg 0 ⟨ "Name",Zj,0,false,"","",0⟩ rfl (by omega) Zwy rfl
        obtain ⟨_,k1⟩:=fldg hg 1 ⟨ "L",Zdd,1,false,"","",16⟩ rfl (by omega) Zbei rfl
        obtain ⟨nm,rfl⟩:=Zww (v:=u0) k0;obtain ⟨sa,sn,sc,rfl,hs⟩:=Zcgj 4 (v:=u1) k1;exact ⟨nm,sa,sn,sc,rfl,hs⟩
    obtain ⟨b,k',c',rfl,hq⟩:=Zob (v:=v6) (P:=fun v=>∃p:Pr,v=prL p.name p.addr p.as_ p.waits p.max p.in_ p.out∧prR p) Zcgr Zbor (by decide) g6 fun n x m h=>by
      obtain ⟨ys,n2,_,_,hl,hyl,hg⟩:=DataW.trod_struct Zcgq h;rw [Zbor] at hl;have hyl:ys.length=7:=hyl
      match m,hl with
      | [u0,u1,u2,u3,u4,u5,u6],_=>
        obtain ⟨_,k0⟩:=fldg hg 0 ⟨ "Name",Zj,0,false,"","",0⟩ rfl (by omega) Zwy rfl
        obtain ⟨_,k1⟩:=fldg hg 1 ⟨ "Addr",Zet,1,false,"","",16⟩ rfl (by omega) Zwx rfl
        obtain ⟨_,k2⟩:=fldg hg 2 ⟨ "AS",Zlx,2,false,"","",20⟩ rfl (by omega) Zbou rfl
        obtain ⟨_,k3⟩:=fldg hg 3 ⟨ "Waits",Zkh,3,false,"","",24⟩ rfl (by omega) Zcgk rfl
        obtain ⟨_,k4⟩:=fldg hg 4 ⟨ "Max",Zbo,4,false,"","",32⟩ rfl (by omega) Zfq rfl
        obtain ⟨_,k5⟩:=fldg hg 5 ⟨ "In",Zj,5,false,"","",40⟩ rfl (by omega) Zwy rfl
        obtain ⟨_,k6⟩:=fldg hg 6 ⟨ "Out",Zj,6,false,"","",56⟩ rfl (by omega) Zwy rfl
        obtain ⟨nm,rfl⟩:=Zww (v:=u0) k0;obtain ⟨ad,rfl,ra⟩:=x_u (v:=u1) Zwz k1;obtain ⟨as_,rfl,rs⟩:=x_u (v:=u2) Zbpa k2;obtain ⟨w,rfl⟩:=Zcgg (v:=u3) k3;obtain ⟨mx,rfl,rm⟩:=Zfp (v:=u4) k4;obtain ⟨i_,rfl⟩:=Zww (v:=u5) k5;obtain ⟨o_,rfl⟩:=Zww (v:=u6) k6;exact ⟨⟨nm,ad,as_,w,mx,i_,o_⟩,rfl,ra,rs,rm⟩
    exact ⟨z0,z1,z2,z3,z4,a,k,c,b,k',c',rfl,r0,r1,r2,r3,r4,hp_,hq⟩
end
end Go.Proofs.YtlkdgfolbllngaaGreatDoor
end
