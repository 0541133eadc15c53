/-
  The document's answers of layers 10 to 16 over the heap:blocks of known kinds. What is said of one block holds whatever the others do.
-/
import Derived.Test.YtaljkjokbdpdoaaGreatBC
import Derived.Test.YtaljkjokbdpdoaaGreatTA
set_option linter.all false
section
set_option maxRecDepth 100000
namespace Go.Proofs.YtaljkjokbdpdoaaGreat
open Go.Sh Go.Pc Go.Conn
inductive Rk | ints | ones | bytes | held | segs | outs | evs
inductive Bk | stack | conn | out | joint | row (r:Rk) (m cap:Nat)
abbrev Gm:=Nat->Option Bk
def Rk.sz:Rk->Nat
  | .ints=>1 | .ones=>3 | .bytes=>1 | .held=>2 | .segs=>9 | .outs=>2 | .evs=>2
def Rk.ty:Rk->TypeId
  | .ints=>Zl | .ones=>Zfx | .bytes=>Zh | .held=>Zlc | .segs=>Zr | .outs=>Zhu | .evs=>Zht
def Bk.ty:Bk->TypeId
  | .stack=>Znw | .conn=>Zhs | .out=>Zvb | .joint=>Zva | .row r _ _=>r.ty
def Sl (G:Gm) (r:Rk) (a:Option Addr) (n c:Nat):Prop:=(a=none∧n=0∧c=0)∨∃b m,a=some ⟨b,0,none⟩∧G b=some (.row r m c)∧n <= m
def Rk.ok (G:Gm):Rk->List Value->Prop
  | .ints,v=>∃z,v= [.int .i64 z]∧Zbf z=true
  | .ones,v=>∃(id to:Int) (b:Nat),v= [.int .i64 id,.int .u32 to,.pointer (some ⟨b,0,none⟩)]∧G b=some .conn∧0 <= to∧to<4294967296
  | .bytes,v=>∃z,v= [.int .u8 z]∧isB z
  | .held,v=>∃z y,v= [.int .i64 z,.int .u8 y]∧isB y
  | .segs,v=>∃f t q k l w u g:Int,v= [.int .i64 f,.int .i64 t,.int .u32 q,.int .u32 k,.int .i64 l,.int .i64 w,.int .i64 u,.int .i64 g,.slice none 0 0]
  | .outs,v=>∃(to:Int) (a:Option Addr) (n c:Nat),v= [.int .u32 to,.slice a n c]
  | .evs,v=>∃x y:Int,v= [.int .i64 x,.int .i64 y]
def Zis (me seed:Int) (pa:Option Addr) (pn pc:Nat) (la:Option Addr) (ln lc:Nat) (count now:Int):List Value:=[.int .u32 me,.int .u32 seed,.slice pa pn pc,.slice la ln lc,.int .i64 count,.int .i64 now]
def Zbx (st from_ to first:Int) (ob:Nat) (jp:Option Addr) (b1 b2 b3 b4:Bool) (now due:Int):List Value:=[.int .i64 st,.int .i64 from_,.int .i64 to,.int .u32 first,.pointer (some ⟨ob,0,none⟩),.pointer jp,.bool b1,.bool b2,.bool b3,.bool b4,.int .i64 now,.int .i64 due]
def Zim (una room win big now es ev:Int) (any timed:Bool) (till at_:Int):List Value:=[.int .u32 una,.slice none 0 0,.int .i64 0,.int .i64 room,.int .i64 win,.int .i64 big,.int .i64 now,.int .i64 es,.int .i64 ev,.int .i64 0,.bool any,.bool timed,.int .u32 till,.int .i64 at_]
def Zke (next:Int) (ga:Option Addr) (gn gc:Nat) (ha:Option Addr) (hn hc:Nat):List Value:=[.int .u32 next,.int .i64 4096,.slice ga gn gc,.slice ha hn hc]
def Good (B:Nat) (G:Gm):Bk->List Value->Prop
  | .stack,cs=>∃me seed pa pn pc la ln lc count now,cs=Zis me seed pa pn pc la ln lc count now∧Sl G .ints pa pn pc∧pn <= B∧Sl G .ones la ln lc∧ln <= B
  | .conn,cs=>∃st from_ to first ob jp b1 b2 b3 b4 now due,cs=Zbx st from_ to first ob jp b1 b2 b3 b4 now due∧G ob=some .out∧(∀x,jp=some x->∃jb,x=⟨jb,0,none⟩∧G jb=some .joint)∧(st=0∨st=1∨jp≠none)
  | .out,cs=>∃una room win big now es ev any timed till at_,cs=Zim una room win big now es ev any timed till at_
  | .joint,cs=>∃next ga gn gc ha hn hc,cs=Zke next ga gn gc ha hn hc∧Sl G .bytes ga gn gc∧gn <= B∧Sl G .held ha hn hc∧hn <= B
  | .row r m cap,cs=>cs.length=cap*r.sz∧m <= cap∧∀i,i<m->∃x,x.length=r.sz∧r.ok G x∧∀j,j<r.sz->cs[i*r.sz+j]? =x[j]?
structure Ty (B:Nat) (G:Gm) (H:Heap):Prop where
  at_: ∀b k,G b=some k->∃cs,Blk H b k.ty ⟨cs⟩∧Good B G k cs
structure Le (G G':Gm):Prop where
  st: ∀b,G b=some .stack->G' b=some .stack
  cn: ∀b,G b=some .conn->G' b=some .conn
  ou: ∀b,G b=some .out->G' b=some .out
  jo: ∀b,G b=some .joint->G' b=some .joint
  row: ∀b r m c,G b=some (.row r m c)->∃m',m <= m'∧G' b=some (.row r m' c)
theorem Le.refl (G:Gm):Le G G:=⟨fun _ h=>h,fun _ h=>h,fun _ h=>h,fun _ h=>h,fun _ _ m _ h=>⟨m,Nat.le_refl _,h⟩⟩
theorem Le.trans {G G' G'':Gm} (h:Le G G') (k:Le G' G''):Le G G'':=
  ⟨fun b e=>k.st b (h.st b e),fun b e=>k.cn b (h.cn b e),fun b e=>k.ou b (h.ou b e),fun b e=>k.jo b (h.jo b e),fun b r m c e=>by
    obtain ⟨m1,h1,e1⟩:=h.row b r m c e;obtain ⟨m2,h2,e2⟩:=k.row b r m1 c e1;exact ⟨m2,Nat.le_trans h1 h2,e2⟩⟩
theorem Sl.mono {G G':Gm} {r:Rk} {a:Option Addr} {n c:Nat} (h:Sl G r a n c) (k:Le G G'):Sl G' r a n c:=by rcases h with h | ⟨b,m,e,hb,hn⟩;exact .inl h;obtain ⟨m',h1,e1⟩:=k.row b r m c hb;exact .inr ⟨b,m',e,e1,Nat.le_trans hn h1⟩
theorem Rk.ok.mono {G G':Gm} {r:Rk} {v:List Value} (h:r.ok G v) (k:Le G G'):r.ok G' v:=by
  cases r with
  | ones=>obtain ⟨id,to,b,e,hb⟩:=h;exact ⟨id,to,b,e,k.cn b hb.1,hb.2⟩
  | ints=>exact h
  | bytes=>exact h
  | held=>exact h
  | segs=>exact h
  | outs=>exact h
  | evs=>exact h
theorem Rk.ok.len {G:Gm} {r:Rk} {v:List Value} (h:r.ok G v):v.length=r.sz:=by
  cases r with
  | ints=>obtain ⟨_,rfl,_⟩:=h;rfl
  | ones=>obtain ⟨_,_,_,rfl,_⟩:=h;rfl
  | bytes=>obtain ⟨_,rfl,_⟩:=h;rfl
  | held=>obtain ⟨_,_,rfl,_⟩:=h;rfl
  | segs=>obtain ⟨_,_,_,_,_,_,_,_,rfl⟩:=h;rfl
  | outs=>obtain ⟨_,_,_,_,rfl⟩:=h;rfl
  | evs=>obtain ⟨_,_,rfl⟩:=h;rfl
theorem Rk.ok.plain {G:Gm} {r:Rk} {v:List Value} (h:r.ok G v): ∀x∈v,Zch x=true:=by
  cases r with
  | ints=>obtain ⟨_,rfl,_⟩:=h;simp [Zch]
  | ones=>obtain ⟨_,_,_,rfl,_⟩:=h;simp [Zch]
  | bytes=>obtain ⟨_,rfl,_⟩:=h;simp [Zch]
  | held=>obtain ⟨_,_,rfl,_⟩:=h;simp [Zch]
  | segs=>obtain ⟨_,_,_,_,_,_,_,_,rfl⟩:=h;simp [Zch]
  | outs=>obtain ⟨_,_,_,_,rfl⟩:=h;simp [Zch]
  | evs=>obtain ⟨_,_,rfl⟩:=h;simp [Zch]
theorem Good.mono {B B':Nat} {G G':Gm} {k:Bk} {cs:List Value} (h:Good B G k cs) (hb:B <= B') (l:Le G G'):Good B' G' k cs:=by
  cases k with
  | stack=>
    obtain ⟨me,seed,pa,pn,pc,la,ln,lc,count,now,e,h1,h2,h3,h4⟩:=h;exact ⟨me,seed,pa,pn,pc,la,ln,lc,count,now,e,h1.mono l,Nat.le_trans h2 hb,h3.mono l,Nat.le_trans h4 hb⟩
  | conn=>
    obtain ⟨st,f,t,first,ob,jp,b1,b2,b3,b4,now,due,e,h1,h2,h3⟩:=h
    exact ⟨st,f,t,first,ob,jp,b1,b2,b3,b4,now,due,e,l.ou ob h1,fun x hx=>by obtain ⟨jb,e1,e2⟩:=h2 x hx;exact ⟨jb,e1,l.jo jb e2⟩,h3⟩
  | out=>exact h
  | joint=>
    obtain ⟨next,ga,gn,gc,ha,hn,hc,e,h1,h2,h3,h4⟩:=h
    exact ⟨next,ga,gn,gc,ha,hn,hc,e,h1.mono l,Nat.le_trans h2 hb,h3.mono l,Nat.le_trans h4 hb⟩
  | row r m c=>
    obtain ⟨h1,h2,h3⟩:=h;exact ⟨h1,h2,fun i hi=>by obtain ⟨x,e1,e2,e3⟩:=h3 i hi;exact ⟨x,e1,e2.mono l,e3⟩⟩
def InOk (H:Heap) (cb:Nat):Prop:=∃x,H.cell ⟨cb,5,none⟩=some (.pointer (some x))
theorem InOk.same {H H':Heap} {cb:Nat} (h:InOk H cb) (e:H' cb=H cb):InOk H' cb:=by obtain ⟨x,hx⟩:=h;refine ⟨x,?_⟩;simp only [Heap.cell] at hx ⊢;rw [e];exact hx
structure Ext (G:Gm) (H:Heap) (G':Gm) (H':Heap):Prop where
  le:Le G G'
  new: ∀b,G' b≠none->G b≠none∨H b=none
  kp:Keep (fun b=>G b≠none) H H'
  inn: ∀b,G b=some .conn->InOk H b->InOk H' b
section
variable {B B':Nat} {G G' G'':Gm} {H H' H'':Heap}
theorem Ext.refl:Ext G H G H:=⟨Le.refl _,fun _ h=> .inl h,Keep.refl _ _,fun _ _ h=>h⟩
theorem Ext.trans (h:Ext G H G' H') (k:Ext G' H' G'' H''):Ext G H G'' H'':=
  ⟨h.le.trans k.le,fun b hb=>(k.new b hb).elim (h.new b) fun e=> .inr (h.kp.free e),h.kp.then k.kp fun b hb=>h.new b hb,fun b hb hi=>k.inn b (h.le.cn b hb) (h.inn b hb hi)⟩
theorem Ext.nil (k:Keep Nil H H'):Ext G H G H':=⟨Le.refl _,fun _ h=> .inl h,k.mono fun _ h=>h.elim,fun b _ hi=>hi.same (k.same b id fun e=>by
  obtain ⟨x,hx⟩:=hi;simp only [Heap.cell,e] at hx;cases hx)⟩
theorem Ty.live (h:Ty B G H) {b:Nat} (hb:G b≠none):H b≠none:=by
  cases e:G b with
  | none=>exact absurd e hb
  | some k=>obtain ⟨cs,h1,_⟩:=h.at_ b k e;exact h1.some
theorem Ty.keep (h:Ty B G H) (k:Keep Nil H H'):Ty B G H':=⟨fun b κ hb=>by
  obtain ⟨cs,h1,h2⟩:=h.at_ b κ hb;exact ⟨cs,k.blk h1 id,h2⟩⟩
theorem Ty.mono (h:Ty B G H) (hb:B <= B'):Ty B' G H:=⟨fun b κ e=>by
  obtain ⟨cs,h1,h2⟩:=h.at_ b κ e;exact ⟨cs,h1,h2.mono hb (Le.refl _)⟩⟩
theorem Ext.blk (h:Ext G H G' H') {b:Nat} {T:TypeId} {cs:Array Value} (hb:Blk H b T cs) (hg:G b=none):Blk H' b T cs∧G' b=none:=by
  refine ⟨h.kp.blk hb fun e=>e hg,?_⟩;cases e:G' b with
  | none=>rfl
  | some k=>exact ((h.new b (by rw [e];simp)).elim (fun z=>absurd hg z) fun z=>absurd z hb.some)
def Ro (G:Gm) (H:Heap) (a:Option Addr) (n:Nat) (l:List Int):Prop:=Reads H a n (bv l)∧(0<n->∀x,a=some x->H x.block≠none∧G x.block=none)
theorem Zbae {S:Nat->Prop} {H H':Heap} {a:Option Addr} {n:Nat} {xs:List Value} (h:Reads H a n xs) (k:Keep S H H') (hs:0<n->∀x,a=some x->¬S x.block):Reads H' a n xs:=by
  rcases Nat.eq_zero_or_pos n with e | e
  . cases a with
    | none=>exact h
    | some x=>exact ⟨h.1,fun h0=>by omega⟩
  exact h.keep k (hs e)
theorem Ro.ext {a:Option Addr} {n:Nat} {l:List Int} (h:Ro G H a n l) (k:Ext G H G' H'):Ro G' H' a n l:=by
  refine ⟨Zbae h.1 k.kp fun h0 x hx e=>e (h.2 h0 x hx).2,fun h0 x hx=>⟨k.kp.live _ (h.2 h0 x hx).1,?_⟩⟩;cases e:G' x.block with
  | none=>rfl
  | some _=>exact ((k.new _ (by rw [e];simp)).elim (fun z=>absurd (h.2 h0 x hx).2 z) fun z=>absurd z (h.2 h0 x hx).1)
theorem Ty.put (h:Ty B G H) {b i:Nat} {k:Bk} {cs:List Value} {v:Value} {K:Heap->Prop} (hg:G b=some k) (hb:Blk H b k.ty ⟨cs⟩) (hi:i<cs.length) (hv:Zch v=true) (hB:B <= B') (hgood:Good B' G k (cs.set i v))
    (hK: ∀H',Ty B' G H'->Ext G H G H'->Blk H' b k.ty ⟨cs.set i v⟩->Keep (fun x=>x=b) H H'->K H') (hin:k≠ .conn∨i≠5∨∃x,v= .pointer (some x):=by first | exact .inr (.inl (by decide)) | exact .inr (.inr ⟨_,rfl⟩) | exact .inl (fun h=>Bk.noConfusion h) | exact .inr (.inl (by simp))):Za H ⟨b,i,none⟩ v K:=by
  refine stL hb hi hv fun H' hb' kk=>hK H' ⟨fun x κ hx=>?_⟩ ⟨Le.refl _,fun _ h=> .inl h,(kk.mono fun x e=>by rw [e,hg];simp),fun x hx hI=>?_⟩ hb' kk
  rotate_left
  . by_cases e:x=b
    . subst e;obtain ⟨y,hy⟩:=hI;rcases hin with hk | h5 | ⟨z,rfl⟩;rw [hg] at hx;exact absurd (Option.some.inj hx) hk;refine ⟨y,?_⟩;rw [hb.cell] at hy;rw [hb'.cell,← hy];simp only [List.getElem?_toArray];rw [List.getElem?_set_ne h5]
      . by_cases e5:i=5;subst e5;exact ⟨z,by rw [hb'.cell];simp only [List.getElem?_toArray];rw [List.getElem?_set_self hi]⟩
        refine ⟨y,?_⟩;rw [hb.cell] at hy;rw [hb'.cell,← hy];simp only [List.getElem?_toArray];rw [List.getElem?_set_ne e5]
    . exact hI.same (kk.same x e fun e0=>by
        obtain ⟨y,hy⟩:=hI;simp only [Heap.cell,e0] at hy;cases hy)
  by_cases e:x=b;subst e;rw [hg] at hx;cases hx;exact ⟨_,hb',hgood⟩;obtain ⟨cs',h1,h2⟩:=h.at_ x κ hx;exact ⟨cs',kk.blk h1 e,h2.mono hB (Le.refl _)⟩
def gset (G:Gm) (b:Nat) (k:Bk):Gm:=fun x=>if x=b then some k else G x
theorem Zda {b:Nat} {k:Bk}:gset G b k b=some k:=if_pos rfl
theorem Zfb {b x:Nat} {k:Bk} (h:x≠b):gset G b k x=G x:=if_neg h
theorem Le.add {b:Nat} {k:Bk} (h:G b=none):Le G (gset G b k):=by
  have key: ∀x κ,G x=some κ->gset G b k x=some κ:=fun x κ e=>by
    rw [Zfb (fun z=>by rw [z,h] at e;cases e)];exact e
  exact ⟨fun x e=>key x _ e,fun x e=>key x _ e,fun x e=>key x _ e,fun x e=>key x _ e,fun x r m c e=>⟨m,Nat.le_refl _,key x _ e⟩⟩
theorem Ty.add (h:Ty B G H) {b:Nat} {k:Bk} {cs:List Value} (hg:G b=none) (hb:Blk H b k.ty ⟨cs⟩) (hgood:Good B (gset G b k) k cs):Ty B (gset G b k) H:=⟨fun x κ hx=>by
  by_cases e:x=b;subst e;rw [Zda] at hx;cases hx;exact ⟨_,hb,hgood⟩
  . rw [Zfb e] at hx;obtain ⟨cs',h1,h2⟩:=h.at_ x κ hx;exact ⟨cs',h1,h2.mono (Nat.le_refl _) (Le.add hg)⟩⟩
theorem Ext.add {b:Nat} {k:Bk} (h:Ext G H G' H') (hg:G' b=none) (hb:H b=none):Ext G H (gset G' b k) H':=
  ⟨h.le.trans (Le.add hg),fun x hx=>by
    by_cases e:x=b;subst e;exact .inr hb
    . rw [Zfb e] at hx;exact h.new x hx,h.kp,h.inn⟩
theorem Ty.free (h:Ty B G H) {b:Nat} (hb:H b=none):G b=none:=by
  cases e:G b with
  | none=>rfl
  | some k=>exact absurd hb (h.live (by rw [e];simp))
theorem Ty.new (h:Ty B G H) {k:Bk} {cs:List Value} {K:Nat->Heap->Prop} (hgood: ∀b,G b=none->Good B (gset G b k) k cs)
    (hK: ∀b H',H b=none->Ty B (gset G b k) H'->Ext G H (gset G b k) H'->Keep Nil H H'->K b H'):NewW H (.cells ⟨cs⟩ k.ty) K:=
  newB fun b H' hb hblk kk=>hK b H' hb ((h.keep kk).add (h.free hb) hblk (hgood b (h.free hb))) ((Ext.nil kk).add (h.free hb) hb) kk
theorem Ty.elem (h:Ty B G H) {r:Rk} {a:Option Addr} {n c i:Nat} (hs:Sl G r a n c) (hi:i<n): ∃b x,a=some ⟨b,0,none⟩∧r.ok G x∧∀j,j<r.sz->H.cell ⟨b,i*r.sz+j,none⟩=x[j]? :=by
  rcases hs with ⟨_,e,_⟩ | ⟨b,m,rfl,hb,hn⟩;omega
  . obtain ⟨cs,h1,h2,h3,h4⟩:=h.at_ b _ hb;obtain ⟨x,e1,e2,e3⟩:=h4 i (by omega)
    refine ⟨b,x,rfl,e2,fun j hj=>?_⟩;rw [← e3 j hj,h1.cell];simp
theorem Ty.app (h:Ty B G H) {r:Rk} {a:Option Addr} {n c q:Nat} {st by_:Nat} {it:TypeInfo} {z v:List Value} {K:Value->Heap->Prop}
    (hu:Tryz.prog.underlying st=some (.slice r.ty)) (hi:Tryz.prog.info? r.ty=some it) (hsz:it.size=r.sz) (hby:it.bytes=by_) (hb0:by_≠0) (hz:Zew Tryz.prog r.ty=some z) (hzl:z.length=r.sz)
    (hs:Sl G r a n c) (hv:r.ok G v) (hq:Blk H q r.ty ⟨v⟩) (hfit:(2*(n+1)+192)*by_ <= 2^48)
    (hK: ∀a' c' G' H',Ty B G' H'->Ext G H G' H'->Sl G' r a' (n+1) c'->K (.slice a' (n+1) c') H'):
    AppW Tryz.prog #[st,st] st [.slice a n c,.slice (some ⟨q,0,none⟩) 1 1] H K:=by
  have hvl:=hv.len;have hs0:0<r.sz:=by cases r<;>decide
  have hnew:Reads H (some ⟨q,0,none⟩) (1*r.sz) v:=Reads.blk hq (by omega) fun j hj=>by rw [Nat.zero_add];simp
  have hold: ∃old,Reads H a (n*r.sz) old∧∀i,i<n->∃x,x.length=r.sz∧r.ok G x∧∀j,j<r.sz->old[i*r.sz+j]? =x[j]? :=by
    rcases hs with ⟨e1,e2,e3⟩ | ⟨b,m,e,hb,hn⟩;subst e1 e2;exact ⟨[],⟨by simp,by simp⟩,fun i hi=>by omega⟩
    . subst e;obtain ⟨cs,h1,h2,h3,h4⟩:=h.at_ b _ hb;have hle:n*r.sz <= cs.length:=by have h2:cs.length=c*r.sz:=h2;rw [h2];exact Nat.mul_le_mul_right _ (Nat.le_trans hn h3)
      refine ⟨cs.take (n*r.sz),Reads.blk h1 (by rw [List.length_take];omega) fun j hj=>by rw [Nat.zero_add,List.getElem?_take_of_lt hj];simp,fun i hi=>?_⟩
      obtain ⟨x,e1,e2,e3⟩:=h4 i (by omega)
      refine ⟨x,e1,e2,fun j hj=>?_⟩;have:i*r.sz+j<n*r.sz:=by have h5:(i+1)*r.sz <= n*r.sz:=Nat.mul_le_mul_right _ hi;rw [Nat.add_mul] at h5;omega
      rw [List.getElem?_take_of_lt this];exact e3 j hj
  obtain ⟨old,hold,hel⟩:=hold;have hol:=hold.len;refine AppW.intro2 (n:=1) (sLen:=n) (sCap:=c) (sz:=r.sz) (by_:=by_) hu hu hi hsz hby hb0 hz hzl hold hnew (.inl hfit) ?_ ?_
  . intro hle;rcases hs with ⟨e1,e2,e3⟩ | ⟨b,m,e,hb,hn⟩;omega
    . subst e;obtain ⟨cs,h1,h2,h3,h4⟩:=h.at_ b _ hb;have h2:cs.length=c*r.sz:=h2;have hrow:(n+1)*r.sz <= c*r.sz:=Nat.mul_le_mul_right _ hle;have hr1:(n+1)*r.sz=n*r.sz+r.sz:=by rw [Nat.add_mul,Nat.one_mul]
      refine ⟨rfl,⟨cs⟩,r.ty,h1,by simp only [Nat.zero_add];exact Nat.le_of_eq h2.symm,hv.plain,fun H' hb' hne=>?_⟩
      simp only at hb';rw [Nat.zero_add] at hb';obtain ⟨ds,hds⟩: ∃ds,putRow ⟨cs⟩ (n*r.sz) v=⟨ds⟩:=⟨_,rfl⟩;rw [hds] at hb';have hget: ∀j,ds[j]? =if n*r.sz <= j∧j<n*r.sz+r.sz then v[j - n*r.sz]? else cs[j]? :=fun j=>by
        have:=Zbab v ⟨cs⟩ (n*r.sz) j (by simp only [List.size_toArray];omega)
        rw [hds,hvl] at this;simpa using this
      have hdl:ds.length=cs.length:=by have:=Zbhi v ⟨cs⟩ (n*r.sz);rw [hds] at this;simpa using this
      have hne':G b≠none:=by rw [hb];simp
      let G':=gset G b (.row r (max m (n+1)) c)
      have hle':Le G G':=by
        have key: ∀x κ,x≠b->G x=some κ->G' x=some κ:=fun x κ e1 e2=>by show gset G b _ x=_;rw [Zfb e1];exact e2
        refine ⟨fun x e=>key x _ (fun z=>by rw [z,hb] at e;cases e) e,fun x e=>key x _ (fun z=>by rw [z,hb] at e;cases e) e,fun x e=>key x _ (fun z=>by rw [z,hb] at e;cases e) e,fun x e=>key x _ (fun z=>by rw [z,hb] at e;cases e) e,fun x r' m' c' e=>?_⟩
        by_cases z:x=b;subst z;rw [hb] at e;cases e;exact ⟨max m (n+1),Nat.le_max_left _ _,Zda⟩;exact ⟨m',Nat.le_refl _,key x _ z e⟩
      have kk:Keep (fun x=>x=b) H H':=⟨fun x hx _=>hne x hx,fun x hx=>by
        by_cases z:x=b;rw [z];exact hb'.some
        . rw [hne x z];exact hx⟩
      refine hK _ _ G' H' ⟨fun x κ hx=>?_⟩ ⟨hle',fun x hx=>?_,(kk.mono fun x e=>by rw [e];exact hne'),fun x hx hI=>hI.same (hne x fun e=>by rw [e,hb] at hx;cases hx)⟩ (.inr ⟨b,max m (n+1),rfl,Zda,Nat.le_max_right _ _⟩)
      . by_cases z:x=b
        . subst z;have hx:gset G x _ x=_:=hx;rw [Zda] at hx;cases hx;refine ⟨ds,hb',?_,?_,fun i hi=>?_⟩;show ds.length=c*r.sz;rw [hdl,h2];omega
          . by_cases ei:i=n
            . subst ei;refine ⟨v,hvl,hv.mono hle',fun j hj=>?_⟩;rw [hget,if_pos (by omega)]
              congr 1;omega
            . obtain ⟨x',e1,e2,e3⟩:=h4 i (by omega)
              refine ⟨x',e1,e2.mono hle',fun j hj=>?_⟩;rw [hget,if_neg ?_];exact e3 j hj;rcases Nat.lt_or_gt_of_ne ei with hlt | hgt;have h5:(i+1)*r.sz <= n*r.sz:=Nat.mul_le_mul_right _ hlt;rw [Nat.add_mul] at h5;omega;have h5:(n+1)*r.sz <= i*r.sz:=Nat.mul_le_mul_right _ hgt;omega
        have hx:gset G b _ x=_:=hx;rw [Zfb z] at hx;obtain ⟨cs',g1,g2⟩:=h.at_ x κ hx;exact ⟨cs',kk.blk g1 z,g2.mono (Nat.le_refl _) hle'⟩
      by_cases z:x=b;left;rw [z];exact hne';left;have hx:gset G b _ x≠none:=hx;rw [Zfb z] at hx;exact hx
  . intro hlt m cap hm hcap _;have hgm:=h.free hm;have kk:Keep Nil H (H.upd m (.cells ⟨old++v++repL (cap - (n+1)) z⟩ r.ty)):=(Keep.refl _ _).new hm;have hb':Blk (H.upd m (.cells ⟨old++v++repL (cap - (n+1)) z⟩ r.ty)) m (Bk.row r (n+1) cap).ty ⟨old++v++repL (cap - (n+1)) z⟩:=Blk.upd_eq;generalize H.upd m (.cells ⟨old++v++repL (cap - (n+1)) z⟩ r.ty)=H' at*;have hr1:(n+1)*r.sz=n*r.sz+r.sz:=by rw [Nat.add_mul,Nat.one_mul]
    have hgood:Good B (gset G m (.row r (n+1) cap)) (.row r (n+1) cap) (old++v++repL (cap - (n+1)) z):=by
      refine ⟨?_,hcap,fun i hi=>?_⟩;rw [List.length_append,List.length_append,Zmu,hzl,hvl,hol,Nat.sub_mul,hr1];have:(n+1)*r.sz <= cap*r.sz:=Nat.mul_le_mul_right _ hcap;omega
      . by_cases ei:i=n
        . subst ei;refine ⟨v,hvl,hv.mono (Le.add hgm),fun j hj=>?_⟩;rw [List.append_assoc,List.getElem?_append_right (by omega),List.getElem?_append_left (by omega)]
          congr 1;omega
        . obtain ⟨x',e1,e2,e3⟩:=hel i (by omega)
          refine ⟨x',e1,e2.mono (Le.add hgm),fun j hj=>?_⟩;have h5:(i+1)*r.sz <= n*r.sz:=Nat.mul_le_mul_right _ (by omega)
          rw [Nat.add_mul] at h5;rw [List.append_assoc,List.getElem?_append_left (by omega)]
          exact e3 j hj
    exact hK _ _ _ H' ((h.keep kk).add hgm hb' hgood) ((Ext.nil kk).add hgm hm) (.inr ⟨m,n+1,rfl,Zda,Nat.le_refl _⟩)
end
end Go.Proofs.YtaljkjokbdpdoaaGreat
end
section
set_option maxRecDepth 100000
namespace Go.Proofs.YtaljkjokbdpdoaaGreat
open Go.Sh Go.Pc Go.Conn
section
variable {H0 H H':Heap}
theorem Zdu (a n:Int):FnW Tryz.prog Zdm ⟨[.int .u32 a,.int .i64 n]⟩ H fun v H'=>∃z:Int,v= .int .u32 z∧H=H':=by refine Zcei a n ?_;unfold Zbku;exact fun H2 hs=>⟨_,rfl,Zf hs⟩
theorem Znk (a b:Int):FnW Tryz.prog Zgy ⟨[.int .u32 a,.int .u32 b]⟩ H fun v H'=>∃z:Int,v= .int .u32 z∧0 <= z∧z<4294967296∧H=H':=by
  refine Zcis a b ?_;unfold Zbov;refine IfB.intro (fun e H2 hs=>?_) fun e H2 hs=>?_;exact ⟨_,rfl,by rw [w32];omega,by rw [w32];omega,Zf hs⟩
  exact ⟨_,rfl,by rw [w32];omega,by rw [w32];omega,Zf hs⟩
theorem Zcew (a b:Int):FnW Tryz.prog Zwk ⟨[.int .u32 a,.int .u32 b]⟩ H fun v H'=>∃z:Bool,v= .bool z∧H=H':=by refine Zcex a b ?_;unfold Zbli;refine (Znk a b).mono ?_;rintro _ _ ⟨z,rfl,_,_,rfl⟩;refine ⟨_,rfl,IfB.intro (fun e H2 hs=>?_) fun e H2 hs=>?_⟩;exact ⟨_,rfl,Zf hs⟩;exact ⟨_,rfl,Zf hs⟩
theorem Zcet (a b:Int):FnW Tryz.prog Zwj ⟨[.int .i64 a,.int .i64 b]⟩ H fun v H'=>∃z:Bool,v= .bool z∧H=H':=by refine Zceu a b ?_;unfold Zblf;have fin: ∀z:Bool,∀H2,Shut H H H2->∃y:Bool,(Value.bool z)= .bool y∧H=H2:=fun z H2 hs=>⟨_,rfl,Zf hs⟩;exact IfB.intro (fun e=>IfB.intro (fun e=>IfB.intro (fun e=>fin _) fun e=>fin _) fun e=>fin _) fun e=>fin _
theorem Zbcr (a b n:Int):FnW Tryz.prog Zmf ⟨[.int .u32 a,.int .u32 b,.int .i64 n]⟩ H fun v H'=>∃z:Bool,v= .bool z∧H=H':=by refine Zckh a b n ?_;unfold Zbqu;refine IfB.intro (fun e=>IfB.intro (fun e=>(Znk b a).mono ?_) fun e H2 hs=>⟨_,rfl,Zf hs⟩) fun e H2 hs=>⟨_,rfl,Zf hs⟩;rintro _ _ ⟨z,rfl,_,_,rfl⟩;exact ⟨_,rfl,fun H2 hs=>⟨_,rfl,Zf hs⟩⟩
theorem Zcjt (a n b m:Int):FnW Tryz.prog Zyf ⟨[.int .u32 a,.int .i64 n,.int .u32 b,.int .i64 m]⟩ H fun v H'=>∃(z:Bool) (e:Int),v= .tuple ⟨[.bool z,.int .i64 e]⟩∧H=H':=by
  refine Zcju a n b m ?_;unfold Zbqd;have fin: ∀(z:Bool) (e:Int),∀H2,Shut H H H2->∃(y:Bool) (d:Int),(Value.tuple ⟨[.bool z,.int .i64 e]⟩)= .tuple ⟨[.bool y,.int .i64 d]⟩∧H=H2:=fun z e H2 hs=>⟨_,_,rfl,Zf hs⟩;refine (Zcet n m).mono ?_;rintro _ _ ⟨z,rfl,rfl⟩;have j0: ∀x:Bool,Zud a n b m x H fun v H1=>∀H2,Shut H H1 H2->∃(z:Bool) (e:Int),v= .tuple ⟨[.bool z,.int .i64 e]⟩∧H=H2:=by intro x;unfold Zud;refine IfB.intro (fun e=>fin _ _) fun e=>IfB.intro (fun e=>(Zbcr _ _ _).mono ?_) fun e=>(Zbcr _ _ _).mono ?_;rintro _ _ ⟨z,rfl,rfl⟩;exact ⟨_,rfl,fin _ _⟩;rintro _ _ ⟨z,rfl,rfl⟩;refine ⟨_,rfl,IfB.intro (fun e=>fin _ _) fun e=>(Zdu _ _).mono ?_⟩;rintro _ _ ⟨z,rfl,rfl⟩;refine ⟨_,rfl,(Zbcr _ _ _).mono ?_⟩;rintro _ _ ⟨z,rfl,rfl⟩;exact ⟨_,rfl,fin _ _⟩
  exact ⟨_,rfl,IfB.intro (fun e=>fin _ _) fun e=>IfB.intro (fun e=>j0 _) fun e=>j0 _⟩
theorem Zbcg (n:Int):FnW Tryz.prog Zmb ⟨[.int .u32 n]⟩ H fun v H'=>∃z:Int,v= .int .u32 z∧H=H':=by
  refine Zcja n ?_;unfold Zbpf;refine Zbo (fun k s H'=>H=H'∧∃(x:Int) (i:Nat),s=(x,((i:Int),()))∧k+i=3) 3 ⟨rfl,n,0,rfl,rfl⟩ ?_;rintro k s H' ⟨rfl,x,i,rfl,hk⟩ g;unfold Zbpe;refine IfB.intro (fun e=>?_) fun e H2 hs=>⟨_,rfl,Zf hs⟩;have e:=of_decide_eq_true e;simp only at e;have w1:IntKind.wrap .i64 ((i:Int)+1)=((i+1:Nat):Int):=by rw [Zi (by omega) (by omega)];omega
  exact ⟨by decide,by decide,k - 1,by omega,rfl,_,i+1,Prod.ext rfl (Prod.ext w1 rfl),by omega⟩
theorem Zbcc {a:Option Addr} {n c:Nat} {l:List Int} (p:Int) (hr:Reads H a n (bv l)) (hn:n <= 1000000):FnW Tryz.prog Zlx ⟨[.int .u32 p,.slice a n c]⟩ H fun v H'=>∃z:Int,v= .int .u32 z∧H=H':=by
  refine Zcii p a n c ?_;unfold Zboi;refine (Zbcg p).mono ?_;rintro _ _ ⟨z,rfl,rfl⟩;refine ⟨_,rfl,Zbo (fun k s Hx=>H=Hx∧∃(x:Int) (i:Nat),s=(x,((i:Int),()))∧k=n - i∧i <= n+1) n ⟨rfl,z,0,rfl,rfl,by omega⟩ ?_⟩
  rintro k s _ ⟨rfl,x,i,rfl,hk,hi⟩ g;unfold Zboh;refine IfB.intro (fun e=>?_) fun e H2 hs=>⟨_,rfl,Zf hs⟩;have e:=of_decide_eq_true e;simp only at e;have j0: ∀w:Int,Ztd a n c x i (fun x' Hy=>∃k'<k,H=Hy∧∃(x:Int) (i:Nat),x'=(x,((i:Int),()))∧k'=n - i∧i <= n+1) w H fun v H1=>∀H2,Shut H H1 H2->∃z:Int,v= .int .u32 z∧H=H2:=by
    intro w;unfold Ztd;refine (Zbcg _).mono ?_;rintro _ _ ⟨y,rfl,rfl⟩;refine ⟨_,rfl,n - (i+2),by omega,rfl,y,i+2,?_,rfl,by omega⟩
    rw [Zi (by omega) (by omega)];rfl
  have w1:IntKind.wrap .i64 ((i:Int)+1)=((i+1:Nat):Int):=by rw [Zi (by omega) (by omega)];omega
  refine byte_at hr rfl (by omega) ?_
  rw [w1];refine IfB.intro (fun e2=>?_) fun e2=>j0 _;have e2:=of_decide_eq_true e2;exact byte_at hr rfl (by omega) (j0 _)
theorem Zqo (z:Int):isB (IntKind.wrap .u8 z):=by rw [w8];exact Zzh z
theorem rd12 {q:Nat} {z0 z1 z2 z3 z4 z5 z6 z7 z8 z9 za zb:Int} (b1:Blk H q Zh ⟨[.int .u8 z0,.int .u8 z1,.int .u8 z2,.int .u8 z3,.int .u8 z4,.int .u8 z5,.int .u8 z6,.int .u8 z7,.int .u8 z8,.int .u8 z9,.int .u8 za,.int .u8 zb]⟩): ∃l:List Int,Reads H (some ⟨q,0,none⟩) 12 (bv l):=
  ⟨[z0,z1,z2,z3,z4,z5,z6,z7,z8,z9,za,zb],Reads.blk b1 rfl fun j hj=>by rw [Nat.zero_add];simp [bv]⟩
theorem Zbrl (x y k n:Int):FnW Tryz.prog Zqc ⟨[.int .u32 x,.int .u32 y,.int .u8 k,.int .i64 n]⟩ H fun v H'=>∃z:Int,v= .int .u32 z∧Keep Nil H H':=by
  refine Zckv x y k n ?_;unfold Zbrm;refine ⟨by decide,by decide,by decide,by decide,by decide,by decide,by decide,by decide,by decide,by decide,by decide,by decide,by decide,by decide,by decide,newB fun q H1 hq b1 k1=>?_⟩
  have hr: ∃l:List Int,Reads H1 (some ⟨q,0,none⟩) 12 (bv l):=rd12 b1;obtain ⟨l,hr⟩:=hr;refine (Zbcc 0 hr (by omega)).mono ?_
  rintro _ _ ⟨z,rfl,rfl⟩;exact ⟨_,rfl,fun H2 hs=>⟨_,rfl,Zk k1 hs⟩⟩
theorem Zcek (p:Int):FnW Tryz.prog Zwi ⟨[.int .u32 p]⟩ H fun v H'=>∃z:Int,v= .int .u16 z∧H=H':=by refine Zcel p ?_;unfold Zbkw;refine (Zbcg p).mono ?_;rintro _ _ ⟨z,rfl,rfl⟩;exact ⟨_,rfl,fun H2 hs=>⟨_,rfl,Zf hs⟩⟩
def By (H0 H:Heap) (a:Option Addr) (n c:Nat):Prop:=∃l,AllB l∧l.length=n∧Sh.Own H0 H a n c 1 Zh (bv l)
theorem By.reads {a:Option Addr} {n c:Nat} (h:By H0 H a n c): ∃l,AllB l∧l.length=n∧Reads H a n (bv l):=by obtain ⟨l,h1,h2,h3⟩:=h;have:=h3.reads;rw [Nat.mul_one] at this;exact ⟨l,h1,h2,this⟩
theorem By.keep {a:Option Addr} {n c:Nat} {Z:Nat->Prop} (h:By H0 H a n c) (k:Keep Z H H') (hz: ∀y,a=some ⟨y,0,none⟩->¬Z y):By H0 H' a n c:=by obtain ⟨l,h1,h2,h3⟩:=h;exact ⟨l,h1,h2,h3.keep k hz⟩
theorem By.base {H1:Heap} {a:Option Addr} {n c:Nat} (h:By H1 H a n c) {Z:Nat->Prop} (k:Keep Z H0 H1):By H0 H a n c:=by obtain ⟨l,h1,h2,h3⟩:=h;exact ⟨l,h1,h2,h3.mono k⟩
theorem By.app {a xb:Option Addr} {n c k xc:Nat} {l:List Int} {K:Value->Heap->Prop} (o:By H0 H a n c) (k0:Keep Nil H0 H) (hl:AllB l) (hr:Reads H xb k (bv l)) (hn:n+k <= 1000000)
    (h: ∀a' c' H',By H0 H' a' (n+k) c'->Keep Nil H0 H'->Keep (fun b=>a=some ⟨b,0,none⟩) H H'->K (.slice a' (n+k) c') H'):AppW Tryz.prog #[Zd,Zd] Zd [.slice a n c,.slice xb k xc] H K:=by
  obtain ⟨m,h1,h2,h3⟩:=o;have hk:l.length=k:=by have:=hr.len;simpa using this
  refine Zgt h3 k0 hr hn fun a' c' H' q1 q2 q3 q4=>h a' c' H' ⟨m++l,h1.app hl,by rw [List.length_append];omega,q1⟩ q4 q3
theorem Zkf {q:Nat} {l:List Int} (h0:H0 q=none) (hb:Blk H q Zh ⟨bv l⟩) (hl:AllB l):By H0 H (some ⟨q,0,none⟩) l.length l.length:=
  ⟨l,hl,rfl,Sh.Own.row h0 hb (by simp [bv])⟩
theorem Zob {x y:Int} (hx:isB x) (hy:isB y):AllB [x,y]:=fun z hz=>by rcases List.mem_cons.1 hz with rfl | hz;exact hx;rw [List.mem_singleton.1 hz];exact hy
theorem Znl (n:Int):FnW Tryz.prog Zic ⟨[.int .i64 n]⟩ H fun v H'=>v= .bool (i16 n)∧H=H':=by
  refine Zcit n ?_;unfold Zbow;refine IfB.intro (fun e H2 hs=>⟨?_,Zf hs⟩) fun e H2 hs=>⟨?_,Zf hs⟩;have e:=of_decide_eq_true e;unfold i16;rw [decide_eq_true (show 0 <= n from e),Bool.true_and]
  have e:=of_decide_eq_false e;unfold i16;rw [decide_eq_false (show ¬0 <= n from e),Bool.false_and]
theorem Zgo (n:Int):FnW Tryz.prog Zdn ⟨[.int .i64 n]⟩ H fun v H'=>∃a c,v= .slice a 2 c∧By H H' a 2 c∧Keep Nil H H':=by
  refine Zchp n ?_;unfold Zbnl;refine ⟨by decide,by decide,by decide,newB fun q H1 hq b1 k1=>fun H2 hs=>⟨_,_,rfl,?_,Zk k1 hs⟩⟩
  exact Zkf (l:=[_,_]) hq (Zcb b1 hs) (Zob (Zqo _) (Zqo _))
theorem Zbrj (n:Int):FnW Tryz.prog Zqb ⟨[.int .u32 n]⟩ H fun v H'=>∃a c,v= .slice a 4 c∧By H H' a 4 c∧Keep Nil H H':=by
  refine Zcku n ?_;unfold Zbrk;refine ⟨by decide,(Zgo _).mono ?_⟩
  rintro _ H1 ⟨a1,c1,rfl,o1,k1⟩;refine ⟨_,_,_,rfl,by decide,(Zgo _).mono ?_⟩
  rintro _ H2 ⟨a2,c2,rfl,o2,k2⟩;obtain ⟨l,hl,_,r2⟩:=o2.reads;refine ⟨_,_,_,rfl,By.app (o1.keep k2 fun _ _ h=>h) (k1.trans k2) hl r2 (by omega) fun a' c' H3 o3 k3 _=>⟨_,_,_,rfl,fun H4 hs=>⟨a',c',rfl,?_,Zk k3 hs⟩⟩⟩
  obtain ⟨m,e1,e2,e3⟩:=o3;exact ⟨m,e1,e2,Zbn e3 hs⟩
theorem Zcdn {a:Option Addr} {n c:Nat} {l:List Int} (hr:Reads H a n (bv l)) (hl:AllB l) (hn:2 <= n):FnW Tryz.prog Zq ⟨[.slice a n c]⟩ H fun v H'=>∃z:Int,v= .int .i64 z∧i16 z=true∧H=H':=by
  have hln:l.length=n:=by have:=hr.len;simpa using this
  refine Zcdo a n c ?_;unfold Zbjq;refine byte_at hr (i:=0) rfl (by omega) (byte_at hr (i:=1) rfl (by omega) fun H2 hs=>⟨_,rfl,?_,Zf hs⟩)
  obtain ⟨a0,a1⟩:=hl.get (show 0<l.length by omega)
  obtain ⟨b0,b1⟩:=hl.get (show 1<l.length by omega)
  rw [Zi (n:=l.getD 0 0) (by omega) (by omega),Zi (n:=l.getD 1 0) (by omega) (by omega),Zi (n:=256*l.getD 0 0) (by omega) (by omega),Zi (by omega) (by omega)]
  exact Zge (by omega) (by omega)
theorem Zbhn {a:Option Addr} {n c:Nat} {l:List Int} (hr:Reads H a n (bv l)) {i j:Nat} (h1:i <= j) (h2:j <= n) (h3:n <= c):Reads H (if c=i then a else Option.map (fun x=>Addr.add x (i*1)) a) (j - i) (bv ((l.take j).drop i)):=by
  have h:=hr.take (m:=j) h2;have e:(bv l).take j=bv (l.take j):=by simp [bv,List.map_take]
  rw [e] at h;exact Zio h h1 (by omega)
theorem Zbdi {l:List Int} (h:AllB l) (i j:Nat):AllB ((l.take j).drop i):=fun x hx=>h x (List.mem_of_mem_take (List.mem_of_mem_drop hx))
theorem Zbjp {a:Option Addr} {n c:Nat} {l:List Int} (hr:Reads H a n (bv l)) (hl:AllB l) {i j:Nat} (h1:i+2 <= j) (h2:j <= n) (h3:n <= c):FnW Tryz.prog Zq ⟨[.slice (if c=i then a else Option.map (fun x=>Addr.add x (i*1)) a) (j - i) (c - i)]⟩ H fun v H'=>∃z:Int,v= .int .i64 z∧i16 z=true∧H=H':=
  Zcdn (Zbhn hr (by omega) h2 h3) (Zbdi hl i j) (by omega)
end
end Go.Proofs.YtaljkjokbdpdoaaGreat
end
section
set_option maxRecDepth 100000
namespace Go.Proofs.YtaljkjokbdpdoaaGreat
open Go.Sh Go.Pc Go.Conn
def sgI (i0 i1 i2 i3 i4 i5 i6 i7:Int) (a:Option Addr) (n c:Nat):List Value:=[.int .i64 i0,.int .i64 i1,.int .u32 i2,.int .u32 i3,.int .i64 i4,.int .i64 i5,.int .i64 i6,.int .i64 i7,.slice a n c]
theorem ld9x {H:Heap} {q n c:Nat} {T:TypeId} {i0 i1 i2 i3 i4 i5 i6 i7:Int} {a:Option Addr} {K:Int->Int->Int->Int->Int->Int->Int->Int->Option Addr->Nat->Nat->Prop} (hb:Blk H q T ⟨sgI i0 i1 i2 i3 i4 i5 i6 i7 a n c⟩) (h:K i0 i1 i2 i3 i4 i5 i6 i7 a n c):
    ∃x0:Int,H.cell ⟨q,0,none⟩=some (Value.int .i64 x0)∧∃x1:Int,H.cell ⟨q,1,none⟩=some (Value.int .i64 x1)∧∃x2:Int,H.cell ⟨q,2,none⟩=some (Value.int .u32 x2)∧∃x3:Int,H.cell ⟨q,3,none⟩=some (Value.int .u32 x3)∧∃x4:Int,H.cell ⟨q,4,none⟩=some (Value.int .i64 x4)∧∃x5:Int,H.cell ⟨q,5,none⟩=some (Value.int .i64 x5)∧∃x6:Int,H.cell ⟨q,6,none⟩=some (Value.int .i64 x6)∧∃x7:Int,H.cell ⟨q,7,none⟩=some (Value.int .i64 x7)∧∃(x8:Option Addr) (x9 x10:Nat),H.cell ⟨q,8,none⟩=some (Value.slice x8 x9 x10)∧K x0 x1 x2 x3 x4 x5 x6 x7 x8 x9 x10:=
  ⟨_,cellL hb 0 rfl,_,cellL hb 1 rfl,_,cellL hb 2 rfl,_,cellL hb 3 rfl,_,cellL hb 4 rfl,_,cellL hb 5 rfl,_,cellL hb 6 rfl,_,cellL hb 7 rfl,_,_,_,cellL hb 8 rfl,h⟩
theorem sl9x {H:Heap} {q:Nat} {T:TypeId} {v0 v1 v2 v3 v4 v5 v6 v7 v8:Value} {i0 i1 i2 i3 i4 i5 i6 i7:Int} {a:Option Addr} {n c:Nat} {K:Int->Int->Int->Int->Int->Int->Int->Int->Option Addr->Nat->Nat->Heap->Prop} (hb:Blk H q T ⟨[v0,v1,v2,v3,v4,v5,v6,v7,v8]⟩) (h: ∀H',Blk H' q T ⟨sgI i0 i1 i2 i3 i4 i5 i6 i7 a n c⟩->Keep (fun x=>x=q) H H'->K i0 i1 i2 i3 i4 i5 i6 i7 a n c H'):
    Za H ⟨q,0,none⟩ (.int .i64 i0) fun H1=>Za H1 ⟨q,1,none⟩ (.int .i64 i1) fun H2=>Za H2 ⟨q,2,none⟩ (.int .u32 i2) fun H3=>Za H3 ⟨q,3,none⟩ (.int .u32 i3) fun H4=>Za H4 ⟨q,4,none⟩ (.int .i64 i4) fun H5=>Za H5 ⟨q,5,none⟩ (.int .i64 i5) fun H6=>Za H6 ⟨q,6,none⟩ (.int .i64 i6) fun H7=>Za H7 ⟨q,7,none⟩ (.int .i64 i7) fun H8=>Za H8 ⟨q,8,none⟩ (.slice a n c) fun H=>
    ∃x0:Int,H.cell ⟨q,0,none⟩=some (Value.int .i64 x0)∧∃x1:Int,H.cell ⟨q,1,none⟩=some (Value.int .i64 x1)∧∃x2:Int,H.cell ⟨q,2,none⟩=some (Value.int .u32 x2)∧∃x3:Int,H.cell ⟨q,3,none⟩=some (Value.int .u32 x3)∧∃x4:Int,H.cell ⟨q,4,none⟩=some (Value.int .i64 x4)∧∃x5:Int,H.cell ⟨q,5,none⟩=some (Value.int .i64 x5)∧∃x6:Int,H.cell ⟨q,6,none⟩=some (Value.int .i64 x6)∧∃x7:Int,H.cell ⟨q,7,none⟩=some (Value.int .i64 x7)∧∃(x8:Option Addr) (x9 x10:Nat),H.cell ⟨q,8,none⟩=some (Value.slice x8 x9 x10)∧K x0 x1 x2 x3 x4 x5 x6 x7 x8 x9 x10 H:=
  stL hb (by simp) rfl fun H1 b1 k1=>stL b1 (by simp) rfl fun H2 b2 k2=>stL b2 (by simp) rfl fun H3 b3 k3=>stL b3 (by simp) rfl fun H4 b4 k4=>stL b4 (by simp) rfl fun H5 b5 k5=>stL b5 (by simp) rfl fun H6 b6 k6=>stL b6 (by simp) rfl fun H7 b7 k7=>stL b7 (by simp) rfl fun H8 b8 k8=>stL b8 (by simp) rfl fun H9 b9 k9=>
    ld9x b9 (h H9 b9 ((((((((k1.trans k2).trans k3).trans k4).trans k5).trans k6).trans k7).trans k8).trans k9))
section
variable {H0 H H':Heap} {i0 i1 i2 i3 i4 i5 i6 i7:Int} {da:Option Addr} {dn dc:Nat}
theorem Ztw {w:Int} (hw:w≠0):FnW Tryz.prog Zjv ⟨[.agg ⟨sgI i0 i1 i2 i3 i4 i5 i6 i7 da dn dc⟩,.int .i64 w]⟩ H fun v H'=>∃z:Bool,v= .bool z∧Keep Nil H H':=by refine Zcjj _ _ _ _ _ _ _ _ _ _ _ w ?_;unfold Zbpr;refine newB fun q H1 hq b1 k1=>⟨_,cellL b1 4 rfl,IfB.intro (fun e=>⟨_,cellL b1 4 rfl,hw,by decide,fun H2 hs=>⟨_,rfl,Zk k1 hs⟩⟩) fun e H2 hs=>⟨_,rfl,Zk k1 hs⟩⟩
theorem Zbce:FnW Tryz.prog Zma ⟨[.agg ⟨sgI i0 i1 i2 i3 i4 i5 i6 i7 da dn dc⟩]⟩ H fun v H'=>∃z:Int,v= .int .i64 z∧Keep Nil H H':=by
  refine Zciq _ _ _ _ _ _ _ _ _ _ _ ?_;unfold Zbos;refine newB fun q H1 hq b1 k1=>⟨_,_,_,cellL b1 8 rfl,ld9x b1 ((Ztw (by decide)).mono ?_)⟩
  rintro _ H2 ⟨z,rfl,k2⟩;have k02:=k1.trans k2;have j0: ∀m:Int,Zti q m H2 fun v H1=>∀H2,Shut H H1 H2->∃z:Int,v= .int .i64 z∧Keep Nil H H2:=by
    intro m;unfold Zti;refine ld9x (k2.blk b1 id) ((Ztw (by decide)).mono ?_)
    rintro _ H3 ⟨z,rfl,k3⟩;exact ⟨_,rfl,IfB.intro (fun e H4 hs=>⟨_,rfl,Zk (k02.trans k3) hs⟩) fun e H4 hs=>⟨_,rfl,Zk (k02.trans k3) hs⟩⟩
  exact ⟨_,rfl,IfB.intro (fun e=>j0 _) fun e=>j0 _⟩
theorem Zbrr:FnW Tryz.prog Zqe ⟨[.agg ⟨sgI i0 i1 i2 i3 i4 i5 i6 i7 da dn dc⟩]⟩ H fun v H'=>∃(j0 j1 j2 j3 j4 j5 j6 j7:Int) (z:Bool),v= .tuple ⟨[.agg ⟨sgI j0 j1 j2 j3 j4 j5 j6 j7 none 0 0⟩,.bool z]⟩∧Keep Nil H H':=by
  refine Zcky _ _ _ _ _ _ _ _ _ _ _ ?_;unfold Zbrs;refine newB fun q H1 hq b1 k1=>newB fun r H2 hr b2 k2=>ld9x (k2.blk b1 id) ((Ztw (by decide)).mono ?_)
  rintro _ H3 ⟨z,rfl,k3⟩;have k03:=(k1.trans k2).trans k3;have b3:=k3.blk b2 id;have c3:=k3.blk (k2.blk b1 id) id;have hr0:H r=none:=k1.free hr;refine ⟨_,rfl,IfB.intro (fun e=>sl9x b3 fun H4 b4 k4 H5 hs=>⟨_,_,_,_,_,_,_,_,_,rfl,Zk (k03.then k4 fun y hy=> .inr (hy▸hr0)) hs⟩) fun e=>ld9x c3 ((Ztw (by decide)).mono ?_)⟩
  rintro _ H4 ⟨z2,rfl,k4⟩;have b4:=k4.blk b3 id;have c4:=k4.blk c3 id;have k04:=k03.trans k4;refine ⟨_,rfl,IfB.intro (fun e=>⟨_,cellL c4 1 rfl,_,cellL c4 0 rfl,_,cellL c4 3 rfl,sl9x b4 fun H5 b5 k5 H6 hs=>⟨_,_,_,_,_,_,_,_,_,rfl,Zk (k04.then k5 fun y hy=> .inr (hy▸hr0)) hs⟩⟩) fun e=>?_⟩;obtain ⟨kp1,kp0⟩:=Zcq c4.some;refine ⟨[q],kp1,List.mem_singleton.2 rfl,_,cellL c4 1 rfl,List.mem_singleton.2 rfl,_,cellL c4 0 rfl,List.mem_singleton.2 rfl,_,cellL c4 2 rfl,ld9x c4 (Zbce.mono ?_)⟩;rintro _ H5 ⟨w,rfl,k5⟩;refine ⟨_,rfl,fun y hy=>?_,sl9x (k5.blk b4 id) fun H6 b6 k6 H7 hs=>⟨_,_,_,_,_,_,_,_,_,rfl,Zk ((k04.trans k5).then k6 fun y hy=> .inr (hy▸hr0)) hs⟩⟩;rw [List.mem_singleton.1 hy];obtain ⟨o,ho⟩:=kp1 q (List.mem_singleton.2 rfl);exact ⟨⟨o,ho⟩,k5.same _ id c4.some⟩
theorem Zbfi:i16 0=true:=by decide
theorem Zchw {a:Option Addr} {n c:Nat} {l:List Int} (hr:Reads H a n (bv l)) (hl:AllB l) (hc:n <= c) (hn:n <= 1000000):FnW Tryz.prog Zxn ⟨[.slice a n c]⟩ H fun v H'=>∃(m:Int) (z:Bool),v= .tuple ⟨[.int .i64 m,.bool z]⟩∧i16 m=true∧H=H':=by
  have hln:l.length=n:=by have:=hr.len;simpa using this
  refine Zchx a n c ?_;unfold Zbns;refine Zbo (fun k s Hx=>H=Hx∧∃(m:Int) (i:Nat),s=(m,((i:Int),()))∧i16 m=true∧k+i=n) n ⟨rfl,0,0,rfl,Zbfi,rfl⟩ ?_;rintro k s _ ⟨rfl,m,i,rfl,hm,hk⟩ g;unfold Zbnr;refine IfB.intro (fun e=>?_) fun e H2 hs=>⟨_,_,rfl,hm,Zf hs⟩;have e:=of_decide_eq_true e;simp only at e;have w1:IntKind.wrap .i64 ((i:Int)+1)=((i+1:Nat):Int):=by rw [Zi (by omega) (by omega)];omega
  have w2:IntKind.wrap .i64 ((i:Int)+2)=((i+2:Nat):Int):=by rw [Zi (by omega) (by omega)];omega
  have w4:IntKind.wrap .i64 ((i:Int)+4)=((i+4:Nat):Int):=by rw [Zi (by omega) (by omega)];omega
  have wn:IntKind.wrap .i64 ((n:Int) - i)=((n - i:Nat):Int):=by rw [Zi (by omega) (by omega)];omega
  have nx: ∀(j:Nat) (m':Int) (z:Int),z=(j:Int)->i<j->j <= n->i16 m'=true->∃k'<k,H=H∧∃(m:Int) (i:Nat),((m',(z,())):Int×Int×Unit)=(m,((i:Int),()))∧i16 m=true∧k'+i=n:=fun j m' z hz h1 h2 h3=>⟨n - j,by omega,rfl,m',j,by rw [hz],h3,by omega⟩
  have j0: ∀x:Bool,(x=false->i+1<n∧2 <= l.getD (i+1) 0∧l.getD (i+1) 0 <= ((n - i:Nat):Int)∧(l.getD i 0=2->l.getD (i+1) 0=4))->Ziu a n c m i (fun x' Hy=>∃k'<k,H=Hy∧∃(m:Int) (i:Nat),x'=(m,((i:Int),()))∧i16 m=true∧k'+i=n) x H fun v H1=>∀H2,Shut H H1 H2->∃(m:Int) (z:Bool),v= .tuple ⟨[.int .i64 m,.bool z]⟩∧i16 m=true∧H=H2:=by
    intro x hx;unfold Ziu;refine IfB.intro (fun e2 H2 hs=>⟨_,_,rfl,Zbfi,Zf hs⟩) fun e2=>?_;obtain ⟨h1,h2,h3,h4⟩:=hx e2;have hB:=hl.get (show i+1<l.length by omega)
    have j1: ∀m':Int,i16 m'=true->Zsr a n c i (fun x' Hy=>∃k'<k,H=Hy∧∃(m:Int) (i:Nat),x'=(m,((i:Int),()))∧i16 m=true∧k'+i=n) m' H fun v H1=>∀H2,Shut H H1 H2->∃(m:Int) (z:Bool),v= .tuple ⟨[.int .i64 m,.bool z]⟩∧i16 m=true∧H=H2:=by
      intro m' hm';unfold Zsr;rw [w1];refine byte_at hr (i:=i+1) rfl (by omega) ?_
      obtain ⟨q0,q1⟩:=hB;exact nx (i+(l.getD (i+1) 0).toNat) m' _ (by rw [Zi (n:=l.getD (i+1) 0) (by omega) (by omega),Zi (by omega) (by omega)];omega) (by omega) (by omega) hm'
    refine byte_at hr (i:=i) rfl (by omega) (IfB.intro (fun e3=>?_) fun e3=>j1 m hm)
    have h5:=h4 (eq_of_beq e3);rw [w4,w2];refine InC.intro (i+4) rfl (by omega) (InC.intro (i+2) rfl (by omega) ((Zbjp hr hl (by omega) (by omega) hc).mono ?_))
    rintro _ _ ⟨z,rfl,hz,rfl⟩;exact ⟨_,rfl,j1 z hz⟩
  refine byte_at hr (i:=i) rfl (by omega) (IfB.intro (fun e2 H2 hs=>⟨_,_,rfl,hm,Zf hs⟩) fun e2=>byte_at hr (i:=i) rfl (by omega) (IfB.intro (fun e3=>nx (i+1) m _ w1 (by omega) (by omega) hm) fun e3=>?_))
  rw [w1];refine IfB.intro (fun e4=>j0 true fun h=>by cases h) fun e4=>?_
  have e4:=of_decide_eq_false e4;refine byte_at hr (i:=i+1) rfl (by omega) (IfB.intro (fun e5=>j0 true fun h=>by cases h) fun e5=>byte_at hr (i:=i+1) rfl (by omega) ?_)
  have e5:=of_decide_eq_false e5;obtain ⟨q0,q1⟩:=hl.get (show i+1<l.length by omega)
  rw [wn,Zi (n:=l.getD (i+1) 0) (by omega) (by omega)]
  refine IfB.intro (fun e6=>j0 true fun h=>by cases h) fun e6=>?_
  have e6:=of_decide_eq_false e6;refine byte_at hr (i:=i) rfl (by omega) (IfB.intro (fun e7=>byte_at hr (i:=i+1) rfl (by omega) (j0 _ fun h=>⟨by omega,by omega,by omega,fun _=>?_⟩)) fun e7=>j0 false fun _=>⟨by omega,by omega,by omega,fun h=>?_⟩)
  simpa using h;rw [h] at e7;cases e7
end
end Go.Proofs.YtaljkjokbdpdoaaGreat
end
section
set_option maxRecDepth 100000
namespace Go.Proofs.YtaljkjokbdpdoaaGreat
open Go.Sh Go.Pc Go.Conn
structure Rm (i0 i1 i4 i5 i6 i7:Int):Prop where
  a:i16 i0=true
  b:i16 i1=true
  f0:0 <= i4
  f1:i4 <= 63
  w:i16 i5=true
  u:i16 i6=true
  g:i16 i7=true
section
variable {H0 H H':Heap} {i0 i1 i2 i3 i4 i5 i6 i7:Int} {da:Option Addr} {dn dc:Nat}
theorem Zci {b:Nat} (h:H b≠none) (k:Keep Nil H H'):Zb [b] H H':=fun y hy=>by
  rw [List.mem_singleton.1 hy];cases e:H b with
  | none=>exact absurd e h
  | some o=>exact ⟨⟨o,rfl⟩,by rw [← e];exact k.same b id h⟩
theorem Zcp {b:Nat} (h:H b≠none): ∀y∈[b],∃o,H y=some o:=fun y hy=>by
  rw [List.mem_singleton.1 hy];cases e:H b with
  | none=>exact absurd e h
  | some o=>exact ⟨o,rfl⟩
theorem By.shut {H1 H2:Heap} {a:Option Addr} {n c:Nat} (h:By H0 H1 a n c) (hs:Shut H H1 H2):By H0 H2 a n c:=by obtain ⟨l,e1,e2,e3⟩:=h;exact ⟨l,e1,e2,Zbn e3 hs⟩
theorem Zbcf {x y:Int} {l:List Int} (hr:Reads H da dn (bv l)) (hl:AllB l):FnW Tryz.prog Zlw ⟨[.int .u32 x,.int .u32 y,.agg ⟨sgI i0 i1 i2 i3 i4 i5 i6 i7 da dn dc⟩]⟩ H fun v H'=>∃(a:Option Addr) (n c:Nat) (e:Int),v= .tuple ⟨[.slice a n c,.int .i64 e]⟩∧By H H' a n c∧n <= 65600∧n <= dn+24∧(e=0↔Rm i0 i1 i4 i5 i6 i7∧dn <= 65495)∧Keep Nil H H':=by
  refine Zcir x y _ _ _ _ _ _ _ _ _ _ _ ?_;unfold Zbou;refine newB fun q H1 hq b1 k1=>?_;have r1:=hr.keep k1 fun _ _ h=>h;have no: ∀e:Int,e≠0->¬(Rm i0 i1 i4 i5 i6 i7∧dn <= 65495)->∀H2,Shut H H1 H2->∃(a:Option Addr) (n c:Nat) (e':Int),(Value.tuple ⟨[.slice none 0 0,.int .i64 e]⟩)= .tuple ⟨[.slice a n c,.int .i64 e']⟩∧By H H2 a n c∧n <= 65600∧n <= dn+24∧(e'=0↔Rm i0 i1 i4 i5 i6 i7∧dn <= 65495)∧Keep Nil H H2:=fun e he hno H2 hs=>⟨none,0,0,e,rfl,⟨[],AllB.nil,rfl,Sh.Own.nil⟩,by omega,by omega,⟨fun h=>absurd h he,fun h=>absurd h hno⟩,Zk k1 hs⟩
  have j0: ∀z:Bool,(z=false↔Rm i0 i1 i4 i5 i6 i7)->Zgp x y q z H1 fun v H1=>∀H2,Shut H H1 H2->∃(a:Option Addr) (n c:Nat) (e:Int),v= .tuple ⟨[.slice a n c,.int .i64 e]⟩∧By H H2 a n c∧n <= 65600∧n <= dn+24∧(e=0↔Rm i0 i1 i4 i5 i6 i7∧dn <= 65495)∧Keep Nil H H2:=by
    intro z hz;unfold Zgp;refine IfB.intro (fun e=>no 2 (by decide) fun h=>by rw [hz.2 h.1] at e;cases e) fun e=>⟨_,_,_,cellL b1 8 rfl,IfB.intro (fun e2=>no 3 (by decide) fun h=>by have:=of_decide_eq_true e2;omega) fun e2=>?_⟩
    have hrm:=hz.1 e;have e2:=of_decide_eq_false e2;refine ⟨[q],Zcp b1.some,_,cellL b1 0 rfl,List.mem_singleton.2 rfl,_,cellL b1 1 rfl,(Zgo _).mono ?_⟩;rintro _ H2 ⟨a2,c2,rfl,o2,k2⟩;refine ⟨_,_,_,rfl,Zci b1.some k2,(Zgo _).mono ?_⟩;rintro _ H3 ⟨a3,c3,rfl,o3,k3⟩;obtain ⟨l3,hl3,_,r3⟩:=o3.reads;refine ⟨_,_,_,rfl,By.app (o2.keep k3 fun _ _ h=>h) (k2.trans k3) hl3 r3 (by omega) fun a4 c4 H4 o4 k4 _=>⟨_,_,_,rfl,?_⟩⟩
    have b4:=k4.blk b1 id;refine ⟨[q],Zcp b4.some,_,cellL b4 2 rfl,List.mem_singleton.2 rfl,_,cellL b4 3 rfl,(Zbrj _).mono ?_⟩;rintro _ H5 ⟨a5,c5,rfl,o5,k5⟩;obtain ⟨l5,hl5,_,r5⟩:=o5.reads;refine ⟨_,_,_,rfl,Zci b4.some k5,By.app (o4.keep k5 fun _ _ h=>h) (k4.trans k5) hl5 r5 (by omega) fun a6 c6 H6 o6 k6 k56=>⟨_,_,_,rfl,?_,(Zbrj _).mono ?_⟩⟩
    have b6:=k6.blk b1 id;intro y hy;rw [List.mem_singleton.1 hy];exact ⟨⟨_,b4⟩,by have h6:H6 q=_:=b6;have h4:H4 q=_:=b4;rw [h6,h4]⟩
    rintro _ H7 ⟨a7,c7,rfl,o7,k7⟩;obtain ⟨l7,hl7,_,r7⟩:=o7.reads;refine ⟨_,_,_,rfl,By.app (o6.keep k7 fun _ _ h=>h) (k6.trans k7) hl7 r7 (by omega) fun a8 c8 H8 o8 k8 _=>⟨_,_,_,rfl,?_⟩⟩
    have b8:=k8.blk b1 id;have j4: ∀(a:Option Addr) (n c:Nat) (Hx:Heap),By H1 Hx a n c->20 <= n->n <= 24->Keep Nil H1 Hx->Ztk x y q a n c Hx fun v H1=>∀H2,Shut H H1 H2->∃(a:Option Addr) (n c:Nat) (e:Int),v= .tuple ⟨[.slice a n c,.int .i64 e]⟩∧By H H2 a n c∧n <= 65600∧n <= dn+24∧(e=0↔Rm i0 i1 i4 i5 i6 i7∧dn <= 65495)∧Keep Nil H H2:=by
      intro a n c Hx ox hn1 hn2 kx;unfold Ztk;have rx:=r1.keep kx fun _ _ h=>h;refine ⟨_,_,_,cellL (kx.blk b1 id) 8 rfl,By.app ox kx hl rx (by omega) fun a9 c9 H9 o9 k9 _=>⟨_,_,_,rfl,(Zbrl _ _ _ _).mono ?_⟩⟩
      rintro _ Ha ⟨za,rfl,ka⟩;have oa:=o9.keep ka fun _ _ h=>h;obtain ⟨la,hla,_,ra⟩:=oa.reads;refine ⟨_,rfl,(Zbcc _ ra (by omega)).mono ?_⟩
      rintro _ _ ⟨zb,rfl,rfl⟩;refine ⟨_,rfl,(Zcek _).mono ?_⟩;rintro _ _ ⟨zc,rfl,rfl⟩;refine ⟨_,rfl,(Zgo _).mono ?_⟩;rintro _ Hb ⟨ab,cb,rfl,ob,kb⟩;obtain ⟨lb,hlb,hlen,rb⟩:=ob.reads;have ob2:=oa.keep kb fun _ _ h=>h;have kall:=(k9.trans ka).trans kb;refine ⟨_,_,_,rfl,byte_at rb (i:=0) rfl (by omega) (byte_at rb (i:=1) rfl (by omega) ?_)⟩
      obtain ⟨lc,hlc,hlc2,hown⟩:=ob2;have hlc0:isB (lb.getD 0 0):=hlb.get (by omega)
      have hlc1:isB (lb.getD 1 0):=hlb.get (by omega)
      rcases hown.2.2 with ⟨_,e0,_⟩ | ⟨m,rest,rfl,hm,hB,hrest⟩;omega;have hfree:H1 m=none:=hm;refine NilP.intro _ rfl (InB.intro 16 rfl (by omega) ?_)
      rw [Zw];have hbl:(bv lc++rest).length≥20:=by rw [List.length_append];simp [bv];omega
      refine stL hB (by omega) rfl fun Hc bc kc=>NilP.intro _ rfl (InB.intro 17 rfl (by omega) ?_)
      rw [Zw];refine stL bc (by rw [List.length_set];omega) rfl fun Hd bd kd=>fun He hs=>⟨_,_,_,0,rfl,?_,by omega,by omega,⟨fun _=>⟨hrm,by omega⟩,fun _=>rfl⟩,?_⟩
      . have e1:(((bv lc++rest).set (0+16*1) (.int .u8 (lb.getD 0 0))).set (0+17*1) (.int .u8 (lb.getD 1 0)))=bv ((lc.set 16 (lb.getD 0 0)).set 17 (lb.getD 1 0))++rest:=by rw [List.set_append_left _ _ (by simp [bv];omega),Zgv,List.set_append_left _ _ (by simp [bv];omega),Zgv]
        rw [e1] at bd;refine ⟨(lc.set 16 (lb.getD 0 0)).set 17 (lb.getD 1 0),fun z hz=>?_,by simp [hlc2],Zbn ⟨by simp [bv];omega,hown.2.1,.inr ⟨m,rest,rfl,k1.free hm,bd,hrest⟩⟩ hs⟩
        rcases List.mem_or_eq_of_mem_set hz with hz | rfl;rcases List.mem_or_eq_of_mem_set hz with hz | rfl;exact hlc z hz;exact hlc0;exact hlc1
      exact Zk (k1.trans ((kall.then kc fun y hy=> .inr (hy▸hm)).then kd fun y hy=> .inr (hy▸hm))) hs
    have j3: ∀(a:Option Addr) (c:Nat) (Hx:Heap),By H1 Hx a 20 c->Keep Nil H1 Hx->Zkz x y q a 20 c Hx fun v H1=>∀H2,Shut H H1 H2->∃(a:Option Addr) (n c:Nat) (e:Int),v= .tuple ⟨[.slice a n c,.int .i64 e]⟩∧By H H2 a n c∧n <= 65600∧n <= dn+24∧(e=0↔Rm i0 i1 i4 i5 i6 i7∧dn <= 65495)∧Keep Nil H H2:=by
      intro a c Hx ox kx;unfold Zkz Zbot;have bx:=kx.blk b1 id;refine ⟨_,cellL bx 7 rfl,IfB.intro (fun e3=>⟨[q],Zcp bx.some,List.mem_singleton.2 rfl,_,cellL bx 7 rfl,newB fun r Hy hry by1 ky=>?_⟩) fun e3=>j4 a 20 c Hx ox (by omega) (by omega) kx⟩
      obtain ⟨ll,hll,_,rl⟩:=(Zkf (l:=[2,4]) hry by1 (Zob (by unfold isB;decide) (by unfold isB;decide))).reads
      refine By.app (ox.keep ky fun _ _ h=>h) (kx.trans ky) hll rl (by decide) fun ae ce He oe ke kye=>⟨_,_,_,rfl,?_,(Zgo _).mono ?_⟩
      intro y hy;rw [List.mem_singleton.1 hy];exact ⟨⟨_,bx⟩,by have h6:He q=_:=ke.blk b1 id;have h4:Hx q=_:=bx;rw [h6,h4]⟩
      rintro _ Hf ⟨af,cf,rfl,of,kf⟩;obtain ⟨lf,hlf,_,rf⟩:=of.reads;exact ⟨_,_,_,rfl,By.app (oe.keep kf fun _ _ h=>h) (ke.trans kf) hlf rf (by decide) fun ag cg Hg og kg _=>⟨_,_,_,rfl,j4 _ _ _ Hg og (by decide) (by decide) kg⟩⟩
    have j1: ∀w:Int,Ztj x y q a8 (2+2+4+4) c8 w H8 fun v H1=>∀H2,Shut H H1 H2->∃(a:Option Addr) (n c:Nat) (e:Int),v= .tuple ⟨[.slice a n c,.int .i64 e]⟩∧By H H2 a n c∧n <= 65600∧n <= dn+24∧(e=0↔Rm i0 i1 i4 i5 i6 i7∧dn <= 65495)∧Keep Nil H H2:=by
      intro w;unfold Ztj;refine ⟨_,cellL b8 4 rfl,newB fun r Hy hry by1 ky=>?_⟩;obtain ⟨ll,hll,_,rl⟩:=(Zkf (l:=[_,_]) hry by1 (Zob (Zqo _) (Zqo _))).reads;refine By.app (o8.keep ky fun _ _ h=>h) (k8.trans ky) hll rl (by decide) fun a9 c9 H9 o9 k9 _=>⟨_,_,_,rfl,?_⟩
      have b9:=k9.blk b1 id;refine ⟨[q],Zcp b9.some,List.mem_singleton.2 rfl,_,cellL b9 6 rfl,_,cellL b9 5 rfl,?_⟩;have kq: ∀{Hx:Heap},Keep Nil H1 Hx->Zb [q] H9 Hx:=fun kx y hy=>by rw [List.mem_singleton.1 hy];exact ⟨⟨_,b9⟩,by have h6:=kx.blk b1 id;unfold Blk at h6 b9;rw [h6,b9]⟩
      have last: ∀(Hx:Heap) (ax:Option Addr) (cx:Nat) (rr:Nat),By H1 Hx ax 16 cx->Keep Nil H1 Hx->Blk Hx rr Zh ⟨[.int .u8 0,.int .u8 0]⟩->AppW Tryz.prog #[Zd,Zd] Zd [.slice ax 16 cx,.slice (some ⟨rr,0,none⟩) 2 2] Hx fun v H'=>∃(p:Option Addr) (m d:Nat),v= .slice p m d∧Zb [q] H9 H'∧FnW Tryz.prog Zdn ⟨[.int .i64 i6]⟩ H' fun v H''=>∃(p2:Option Addr) (m2 d2:Nat),v= .slice p2 m2 d2∧AppW Tryz.prog #[Zd,Zd] Zd [.slice p m d,.slice p2 m2 d2] H'' fun v H3=>∃(p3:Option Addr) (m3 d3:Nat),v= .slice p3 m3 d3∧Zkz x y q p3 m3 d3 H3 fun v H1=>∀H2,Shut H H1 H2->∃(a:Option Addr) (n c:Nat) (e:Int),v= .tuple ⟨[.slice a n c,.int .i64 e]⟩∧By H H2 a n c∧n <= 65600∧n <= dn+24∧(e=0↔Rm i0 i1 i4 i5 i6 i7∧dn <= 65495)∧Keep Nil H H2:=by
        intro Hx ax cx rr ox kx br;have rz:Reads Hx (some ⟨rr,0,none⟩) 2 (bv [0,0]):=Reads.blk br rfl fun j hj=>by rw [Nat.zero_add];simp [bv]
        refine By.app ox kx (l:=[0,0]) (Zob (by unfold isB;decide) (by unfold isB;decide)) rz (by decide) fun ay cy Hy oy ky _=>⟨_,_,_,rfl,kq ky,(Zgo _).mono ?_⟩
        rintro _ Hz ⟨az,cz,rfl,oz,kz⟩;obtain ⟨lz,hlz,_,rz⟩:=oz.reads;exact ⟨_,_,_,rfl,By.app (oy.keep kz fun _ _ h=>h) (ky.trans kz) hlz rz (by decide) fun a1 c1 H1' o1 k1' _=>⟨_,_,_,rfl,j3 _ _ H1' o1 k1'⟩⟩
      refine ⟨newB fun r2 Hy2 hr2 br2 ky2=>(Zgo _).mono ?_,(Zgo _).mono ?_⟩
      . rintro _ Ha ⟨aa,ca,rfl,oa,ka⟩;obtain ⟨la,hla,_,ra⟩:=oa.reads;refine ⟨_,_,_,rfl,kq ((k9.trans ky2).trans ka),By.app ((o9.keep ky2 fun _ _ h=>h).keep ka fun _ _ h=>h) ((k9.trans ky2).trans ka) hla ra (by decide) fun ab cb Hb ob kb kab=>⟨_,_,_,rfl,kq kb,last Hb _ _ r2 ob kb (kab.blk (ka.blk br2 id) fun e=>?_)⟩⟩
        have:=o9;obtain ⟨l9,_,_,w9⟩:=this;obtain ⟨cs,hb9⟩:=w9.live e;exact hb9.some hr2
      . rintro _ Ha ⟨aa,ca,rfl,oa,ka⟩;obtain ⟨la,hla,_,ra⟩:=oa.reads;refine ⟨_,_,_,rfl,kq (k9.trans ka),newB fun r2 Hy2 hr2 br2 ky2=>?_,?_⟩
        . refine By.app ((o9.keep ka fun _ _ h=>h).keep ky2 fun _ _ h=>h) ((k9.trans ka).trans ky2) hla (ra.keep ky2 fun _ _ h=>h) (by decide) fun ab cb Hb ob kb kab=>⟨_,_,_,rfl,kq kb,last Hb _ _ r2 ob kb (kab.blk br2 fun e=>?_)⟩
          obtain ⟨l9,_,_,w9⟩:=o9.keep ka fun _ _ h=>h;obtain ⟨cs,hb9⟩:=w9.live e;exact hb9.some hr2
        . refine By.app (o9.keep ka fun _ _ h=>h) (k9.trans ka) hla ra (by decide) fun ab cb Hb ob kb kab=>⟨_,_,_,rfl,kq kb,newB fun r2 Hy2 hr2 br2 ky2=>?_⟩
          exact last Hy2 _ _ r2 (ob.keep ky2 fun _ _ h=>h) (kb.trans ky2) br2
    exact ⟨_,cellL b8 7 rfl,IfB.intro (fun _=>j1 6) fun _=>j1 5⟩
  refine ⟨_,cellL b1 0 rfl,(Znl _).mono ?_⟩;rintro _ _ ⟨rfl,rfl⟩;refine ⟨_,rfl,IfB.intro (fun e=>j0 true ⟨(fun h=>by cases h),fun h=>by rw [h.a] at e;cases e⟩) fun e0=>⟨_,cellL b1 1 rfl,(Znl _).mono ?_⟩⟩
  rintro _ _ ⟨rfl,rfl⟩;refine ⟨_,rfl,IfB.intro (fun e=>j0 true ⟨(fun h=>by cases h),fun h=>by rw [h.b] at e;cases e⟩) fun e1=>⟨_,cellL b1 4 rfl,IfB.intro (fun e=>j0 true ⟨(fun h=>by cases h),fun h=>by have:=of_decide_eq_true e;have:=h.f0;omega⟩) fun e4=>⟨_,cellL b1 4 rfl,IfB.intro (fun e=>j0 true ⟨(fun h=>by cases h),fun h=>by have:=of_decide_eq_true e;have:=h.f1;omega⟩) fun e5=>⟨_,cellL b1 5 rfl,(Znl _).mono ?_⟩⟩⟩⟩
  rintro _ _ ⟨rfl,rfl⟩;refine ⟨_,rfl,IfB.intro (fun e=>j0 true ⟨(fun h=>by cases h),fun h=>by rw [h.w] at e;cases e⟩) fun e6=>⟨_,cellL b1 6 rfl,(Znl _).mono ?_⟩⟩
  rintro _ _ ⟨rfl,rfl⟩;refine ⟨_,rfl,IfB.intro (fun e=>j0 true ⟨(fun h=>by cases h),fun h=>by rw [h.u] at e;cases e⟩) fun e7=>⟨_,cellL b1 7 rfl,(Znl _).mono ?_⟩⟩
  rintro _ _ ⟨rfl,rfl⟩;have yes: ∀{z:Bool},(!z)=false->z=true:=fun {z} h=>by cases z<;>simp_all
  refine ⟨_,rfl,j0 _ ⟨fun e8=>?_,fun h=>by rw [h.g];rfl⟩⟩
  exact ⟨yes e0,yes e1,by have:=of_decide_eq_false e4;omega,by have:=of_decide_eq_false e5;omega,yes e6,yes e7,yes e8⟩
theorem rm0:Rm 0 0 0 0 0 0:=⟨by decide,by decide,by decide,by decide,by decide,by decide,by decide⟩
theorem Zccd {x:Int} (h:isB x):IntKind.wrap .i64 (4*(IntKind.wrap .i64 (IntKind.wrap .u8 (Int.tdiv x 16))))=((4*(x.toNat/16):Nat):Int):=by
  obtain ⟨h0,h1⟩:=h;have e:IntKind.wrap .u8 (Int.tdiv x 16)=((x.toNat/16:Nat):Int):=by rw [w8,Int.tdiv_eq_ediv_of_nonneg h0];unfold lo;omega
  rw [e,Zi (n:=((x.toNat/16:Nat):Int)) (by omega) (by omega),Zi (by omega) (by omega)];omega
theorem Zcjg {x y:Int} {a:Option Addr} {n c:Nat} {l:List Int} (hr:Reads H a n (bv l)) (hl:AllB l) (hc:n <= c) (hn:n <= 400000):FnW Tryz.prog Zxz ⟨[.int .u32 x,.int .u32 y,.slice a n c]⟩ H fun v H'=>
    ∃(i0 i1 i2 i3 i4 i5 i6 i7:Int) (da:Option Addr) (dn dc:Nat) (e:Int),v= .tuple ⟨[.agg ⟨sgI i0 i1 i2 i3 i4 i5 i6 i7 da dn dc⟩,.int .i64 e]⟩∧By H H' da dn dc∧dn <= n∧Rm i0 i1 i4 i5 i6 i7∧Keep Nil H H':=by
  have hln:l.length=n:=by have:=hr.len;simpa using this
  refine Zcjh x y a n c ?_;unfold Zbpo;refine newB fun b H1 hb b1 k1=>?_;have r1:=hr.keep k1 fun _ _ h=>h;have bad: ∀{Hx H2:Heap} {e:Int},Keep Nil H1 Hx->∀H',Blk H' b Zr ⟨sgI 0 0 0 0 0 0 0 0 none 0 0⟩->Keep (fun x=>x=b) Hx H'->Shut H H' H2->∃(i0 i1 i2 i3 i4 i5 i6 i7:Int) (da:Option Addr) (dn dc:Nat) (e':Int),(Value.tuple ⟨[.agg ⟨sgI 0 0 0 0 0 0 0 0 none 0 0⟩,.int .i64 e]⟩)= .tuple ⟨[.agg ⟨sgI i0 i1 i2 i3 i4 i5 i6 i7 da dn dc⟩,.int .i64 e']⟩∧By H H2 da dn dc∧dn <= n∧Rm i0 i1 i4 i5 i6 i7∧Keep Nil H H2:=
    fun kx H' _ k' hs=>⟨_,_,_,_,_,_,_,_,none,0,0,_,rfl,⟨[],AllB.nil,rfl,Sh.Own.nil⟩,Nat.zero_le _,rm0,Zk ((k1.trans kx).then k' fun y hy=> .inr (hy▸hb)) hs⟩
  refine IfB.intro (fun e=>sl9x b1 fun H' b' k' H2 hs=>bad (Keep.refl _ _) H' b' k' hs) fun e=>?_;have h20:20 <= n:=by have:=of_decide_eq_false e;omega
  have g12:=hl.get (show 12<l.length by omega)
  have g13:=hl.get (show 13<l.length by omega)
  have hsz:=Zccd g12;have hs64:(l.getD 12 0).toNat/16 <= 15:=by obtain ⟨q0,q1⟩:=g12;omega
  generalize hS:4*((l.getD 12 0).toNat/16)=S at hsz;have hS60:S <= 60:=by omega
  have j0: ∀(z:Bool) (H2:Heap),Keep Nil H1 H2->(z=false->20 <= S∧S <= n)->Zno a n c b (l.getD 12 0) z H2 fun v H1=>∀H2,Shut H H1 H2->
      ∃(i0 i1 i2 i3 i4 i5 i6 i7:Int) (da:Option Addr) (dn dc:Nat) (e:Int),v= .tuple ⟨[.agg ⟨sgI i0 i1 i2 i3 i4 i5 i6 i7 da dn dc⟩,.int .i64 e]⟩∧By H H2 da dn dc∧dn <= n∧Rm i0 i1 i4 i5 i6 i7∧Keep Nil H H2:=by
    intro z H2 k2 hz;unfold Zno;have k02:=k1.trans k2;have b2:=k2.blk b1 id;have r2:=r1.keep k2 fun _ _ h=>h;refine IfB.intro (fun e=>sl9x b2 fun H' b' k' H2 hs=>bad k2 H' b' k' hs) fun e=>?_;obtain ⟨s1,s2⟩:=hz e;rw [hsz];refine InC.intro S rfl (by omega) (InC.intro 20 rfl s1 ((Zchw (Zbhn r2 s1 s2 hc) (Zbdi hl 20 S) (by omega) (by omega)).mono ?_))
    rintro _ _ ⟨m,zz,rfl,hm,rfl⟩;refine ⟨_,_,rfl,IfB.intro (fun e=>sl9x b2 fun H' b' k' H2 hs=>bad k2 H' b' k' hs) fun e=>?_⟩;cases a with
    | none=>have:=hr.2;simp only at this;omega
    | some a=>
      have hlive:H2 a.block≠none:=by
        obtain ⟨_,cs,T,fr,hb2,_⟩:=r2.2 (by omega)
        rw [hb2];simp
      have hsp:a.spot=none:=(r2.2 (by omega)).1
      have kp: ∀{Hx:Heap},Keep Nil H2 Hx->Zb [a.block] H2 Hx:=fun kx=>Zci hlive kx;have fin: ∀(z0 z1 z5 z6 q2 q3:Int) (i0:i16 z0=true) (i1:i16 z1=true) (i5:i16 z5=true) (i6:i16 z6=true) (q:Nat) (Hx:Heap),H2 q=none->Blk Hx q Zh ⟨[]⟩->Keep Nil H2 Hx->
          AppW Tryz.prog #[Zd,Zd] Zd [.slice (some ⟨q,0,none⟩) 0 0,.slice (if c=S then some a else Option.map (fun x=>Addr.add x (S*1)) (some a)) (n - S) (c - S)] Hx fun v H'=>
          ∃(p:Option Addr) (m' d:Nat),v= .slice p m' d∧Zb [a.block] H2 H'∧
          (Za H' ⟨b,0,none⟩ (.int .i64 z0) fun H1=>Za H1 ⟨b,1,none⟩ (.int .i64 z1) fun H2=>Za H2 ⟨b,2,none⟩ (.int .u32 q2) fun H3=>Za H3 ⟨b,3,none⟩ (.int .u32 q3) fun H4=>Za H4 ⟨b,4,none⟩ (.int .i64 (IntKind.wrap .i64 (Int.tmod (l.getD 13 0) 64))) fun H5=>Za H5 ⟨b,5,none⟩ (.int .i64 z5) fun H6=>Za H6 ⟨b,6,none⟩ (.int .i64 z6) fun H7=>Za H7 ⟨b,7,none⟩ (.int .i64 m) fun H8=>Za H8 ⟨b,8,none⟩ (.slice p m' d) fun H9=>
          ∃x0:Int,H9.cell ⟨b,0,none⟩=some (Value.int .i64 x0)∧∃x1:Int,H9.cell ⟨b,1,none⟩=some (Value.int .i64 x1)∧∃x2:Int,H9.cell ⟨b,2,none⟩=some (Value.int .u32 x2)∧∃x3:Int,H9.cell ⟨b,3,none⟩=some (Value.int .u32 x3)∧∃x4:Int,H9.cell ⟨b,4,none⟩=some (Value.int .i64 x4)∧∃x5:Int,H9.cell ⟨b,5,none⟩=some (Value.int .i64 x5)∧∃x6:Int,H9.cell ⟨b,6,none⟩=some (Value.int .i64 x6)∧∃x7:Int,H9.cell ⟨b,7,none⟩=some (Value.int .i64 x7)∧∃(x8:Option Addr) (x9 x10:Nat),H9.cell ⟨b,8,none⟩=some (Value.slice x8 x9 x10)∧
          ∀H2,Shut H H9 H2->∃(i0 i1 i2 i3 i4 i5 i6 i7:Int) (da:Option Addr) (dn dc:Nat) (e:Int),(Value.tuple ⟨[.agg ⟨[.int .i64 x0,.int .i64 x1,.int .u32 x2,.int .u32 x3,.int .i64 x4,.int .i64 x5,.int .i64 x6,.int .i64 x7,.slice x8 x9 x10]⟩,.int .i64 0]⟩)= .tuple ⟨[.agg ⟨sgI i0 i1 i2 i3 i4 i5 i6 i7 da dn dc⟩,.int .i64 e]⟩∧By H H2 da dn dc∧dn <= n∧Rm i0 i1 i4 i5 i6 i7∧Keep Nil H H2):=by
        intro z0 z1 z5 z6 q2 q3 i0 i1 i5 i6 q Hx hq bq kx;have rx:=r2.keep kx fun _ _ h=>h;have hq0:H q=none:=k02.free hq;have o0:By H2 Hx (some ⟨q,0,none⟩) 0 0:=Zkf (l:=[]) hq bq AllB.nil;have rt:=Zio rx (k:=S) (by omega) hc
        refine By.app o0 kx (fun z hz=>hl z (List.mem_of_mem_drop hz)) rt (by omega) fun a' c' H3 o3 k3 _=>⟨_,_,_,rfl,kp k3,sl9x ((k2.trans k3).blk b1 id) fun H4 b4 k4 H5 hs=>⟨_,_,_,_,_,_,_,_,a',_,c',_,rfl,?_,by omega,⟨i0,i1,?_,?_,i5,i6,hm⟩,Zk ((k02.trans k3).then k4 fun y hy=> .inr (hy▸hb)) hs⟩⟩
        refine (((o3.keep k4 fun y hy e=>?_).base k02).shut hs);obtain ⟨ll,_,_,w⟩:=o3;have hf:=w.free hy;subst e;exact b2.some hf
        . obtain ⟨q0,q1⟩:=g13;rw [Int.tmod_eq_emod_of_nonneg q0,Zi (by omega) (by omega)];omega
        . obtain ⟨q0,q1⟩:=g13;rw [Int.tmod_eq_emod_of_nonneg q0,Zi (by omega) (by omega)];omega
      have G: ∀(i j:Nat) {Hx:Heap} {K:Int->Heap->Prop},i+2 <= j->j <= 20->Keep Nil H2 Hx->(∀z,i16 z=true->K z Hx)->FnW Tryz.prog Zq ⟨[.slice (if c=i then some a else Option.map (fun x=>Addr.add x (i*1)) (some a)) (j - i) (c - i)]⟩ Hx fun v H=>∃z:Int,v= .int .i64 z∧Zb [a.block] H2 H∧K z H:=by
        intro i j Hx K h1 h2 kx h;refine (Zbjp (r2.keep kx fun _ _ h=>h) hl h1 (by omega) hc).mono ?_
        rintro _ _ ⟨z,rfl,hz,rfl⟩;exact ⟨_,rfl,kp kx,h z hz⟩
      have kr:=Keep.refl Nil H2;refine ⟨[a.block],Zcp hlive,NilP.intro _ rfl (InB.intro 13 rfl (by omega) ?_)⟩
      obtain ⟨ab,ao,sp⟩:=a;simp only at hsp;subst hsp;rw [Zw];refine ⟨List.mem_singleton.2 rfl,_,by have:=r2.cell (j:=13) (by omega);simpa [bv,List.getElem?_map,List.getElem?_eq_getElem (show 13<l.length by omega)] using this,InC.intro 2 rfl (by omega) (InC.intro 0 rfl (by omega) (InC.intro 4 rfl (by omega) (InC.intro 2 rfl (by omega) (InC.intro 6 rfl (by omega) (InC.intro 4 rfl (by omega) (InC.intro 8 rfl (by omega) (InC.intro 6 rfl (by omega) (InC.intro 10 rfl (by omega) (InC.intro 8 rfl (by omega) (InC.intro 12 rfl (by omega) (InC.intro 10 rfl (by omega) ⟨by decide,InC.intro 16 rfl (by omega) (InC.intro 14 rfl (by omega) (InC.intro 20 rfl (by omega) (InC.intro 18 rfl (by omega) (InC.intro S rfl (by omega) ?_))))⟩)))))))))))⟩
      have e13:l[13]'(by omega)=l.getD 13 0:=by rw [List.getD_eq_getElem?_getD,List.getElem?_eq_getElem (by omega)];rfl
      rw [e13];exact ⟨newB fun q Hx hq bq kx=>G 0 2 (by decide) (by decide) kx fun z0 h0=>G 2 4 (by decide) (by decide) kx fun z1 h1=>G 4 6 (by decide) (by decide) kx fun z2 h2=>G 6 8 (by decide) (by decide) kx fun z3 h3=>G 8 10 (by decide) (by decide) kx fun z4 h4=>G 10 12 (by decide) (by decide) kx fun z5 h5=>G 14 16 (by decide) (by decide) kx fun z6 h6=>G 18 20 (by decide) (by decide) kx fun z7 h7=>fin z0 z1 z6 z7 _ _ h0 h1 h6 h7 q Hx hq bq kx,G 0 2 (by decide) (by decide) kr fun z0 h0=>⟨newB fun q Hx hq bq kx=>G 2 4 (by decide) (by decide) kx fun z1 h1=>G 4 6 (by decide) (by decide) kx fun z2 h2=>G 6 8 (by decide) (by decide) kx fun z3 h3=>G 8 10 (by decide) (by decide) kx fun z4 h4=>G 10 12 (by decide) (by decide) kx fun z5 h5=>G 14 16 (by decide) (by decide) kx fun z6 h6=>G 18 20 (by decide) (by decide) kx fun z7 h7=>fin z0 z1 z6 z7 _ _ h0 h1 h6 h7 q Hx hq bq kx,G 2 4 (by decide) (by decide) kr fun z1 h1=>⟨newB fun q Hx hq bq kx=>G 4 6 (by decide) (by decide) kx fun z2 h2=>G 6 8 (by decide) (by decide) kx fun z3 h3=>G 8 10 (by decide) (by decide) kx fun z4 h4=>G 10 12 (by decide) (by decide) kx fun z5 h5=>G 14 16 (by decide) (by decide) kx fun z6 h6=>G 18 20 (by decide) (by decide) kx fun z7 h7=>fin z0 z1 z6 z7 _ _ h0 h1 h6 h7 q Hx hq bq kx,G 4 6 (by decide) (by decide) kr fun z2 h2=>⟨newB fun q Hx hq bq kx=>G 6 8 (by decide) (by decide) kx fun z3 h3=>G 8 10 (by decide) (by decide) kx fun z4 h4=>G 10 12 (by decide) (by decide) kx fun z5 h5=>G 14 16 (by decide) (by decide) kx fun z6 h6=>G 18 20 (by decide) (by decide) kx fun z7 h7=>fin z0 z1 z6 z7 _ _ h0 h1 h6 h7 q Hx hq bq kx,G 6 8 (by decide) (by decide) kr fun z3 h3=>⟨newB fun q Hx hq bq kx=>G 8 10 (by decide) (by decide) kx fun z4 h4=>G 10 12 (by decide) (by decide) kx fun z5 h5=>G 14 16 (by decide) (by decide) kx fun z6 h6=>G 18 20 (by decide) (by decide) kx fun z7 h7=>fin z0 z1 z6 z7 _ _ h0 h1 h6 h7 q Hx hq bq kx,G 8 10 (by decide) (by decide) kr fun z4 h4=>⟨newB fun q Hx hq bq kx=>G 10 12 (by decide) (by decide) kx fun z5 h5=>G 14 16 (by decide) (by decide) kx fun z6 h6=>G 18 20 (by decide) (by decide) kx fun z7 h7=>fin z0 z1 z6 z7 _ _ h0 h1 h6 h7 q Hx hq bq kx,G 10 12 (by decide) (by decide) kr fun z5 h5=>⟨newB fun q Hx hq bq kx=>G 14 16 (by decide) (by decide) kx fun z6 h6=>G 18 20 (by decide) (by decide) kx fun z7 h7=>fin z0 z1 z6 z7 _ _ h0 h1 h6 h7 q Hx hq bq kx,G 14 16 (by decide) (by decide) kr fun z6 h6=>⟨newB fun q Hx hq bq kx=>G 18 20 (by decide) (by decide) kx fun z7 h7=>fin z0 z1 z6 z7 _ _ h0 h1 h6 h7 q Hx hq bq kx,G 18 20 (by decide) (by decide) kr fun z7 h7=>newB fun q Hx hq bq kx=>fin z0 z1 z6 z7 _ _ h0 h1 h6 h7 q Hx hq bq kx⟩⟩⟩⟩⟩⟩⟩⟩
  refine byte_at r1 (i:=12) rfl (by omega) ⟨by decide,?_⟩
  rw [hsz];refine IfB.intro (fun e=>j0 true H1 (Keep.refl _ _) fun h=>by cases h) fun e=>IfB.intro (fun e2=>j0 true H1 (Keep.refl _ _) fun h=>by cases h) fun e2=>(Zbrl _ _ _ _).mono ?_
  rintro _ H2 ⟨z1,rfl,k2⟩;refine ⟨_,rfl,(Zbcc _ (r1.keep k2 fun _ _ h=>h) (by omega)).mono ?_⟩
  rintro _ _ ⟨z2,rfl,rfl⟩;have e:=of_decide_eq_false e;have e2:=of_decide_eq_false e2;exact ⟨_,rfl,j0 _ H2 k2 fun _=>⟨by omega,by omega⟩⟩
end
end Go.Proofs.YtaljkjokbdpdoaaGreat
end
section
set_option maxRecDepth 100000
namespace Go.Proofs.YtaljkjokbdpdoaaGreat
open Go.Sh Go.Pc Go.Conn
theorem Zii {T:TypeId} {k:Nat} (h:(Tryz.prog.info? T).map (fun i=>i.size==k&&i.bytes !=0&&decide (i.bytes <= 200))=some true): ∃it,Tryz.prog.info? T=some it∧it.size=k∧it.bytes≠0∧it.bytes <= 200:=by
  cases hi:Tryz.prog.info? T with
  | none=>rw [hi] at h;cases h
  | some it=>
    rw [hi] at h;simp only [Option.map_some,Option.some.injEq,Bool.and_eq_true,beq_iff_eq,bne_iff_ne,decide_eq_true_eq] at h;exact ⟨it,rfl,h.1.1,h.1.2,h.2⟩
theorem Zbie (r:Rk): ∃it,Tryz.prog.info? r.ty=some it∧it.size=r.sz∧it.bytes≠0∧it.bytes <= 200:=by
  cases r;exact Zii (by kernel_rfl)
  exact Zii (by kernel_rfl)
  exact Zii (by kernel_rfl)
  exact Zii (by kernel_rfl)
  exact Zii (by kernel_rfl)
  exact Zii (by kernel_rfl)
  exact Zii (by kernel_rfl)
theorem row_zero (r:Rk): ∃z,Zew Tryz.prog r.ty=some z∧z.length=r.sz:=by
  cases r;exact ⟨[.int .i64 0],by kernel_rfl,rfl⟩
  exact ⟨[.int .i64 0,.int .u32 0,.pointer none],by kernel_rfl,rfl⟩
  exact ⟨[.int .u8 0],by kernel_rfl,rfl⟩
  exact ⟨[.int .i64 0,.int .u8 0],by kernel_rfl,rfl⟩
  exact ⟨[.int .i64 0,.int .i64 0,.int .u32 0,.int .u32 0,.int .i64 0,.int .i64 0,.int .i64 0,.int .i64 0,.slice none 0 0],by kernel_rfl,rfl⟩
  exact ⟨[.int .u32 0,.slice none 0 0],by kernel_rfl,rfl⟩
  exact ⟨[.int .i64 0,.int .i64 0],by kernel_rfl,rfl⟩
section
variable {B:Nat} {G:Gm} {H H':Heap}
theorem Ty.push (h:Ty B G H) {r:Rk} {a:Option Addr} {n c q:Nat} {st:Nat} {v:List Value} {K:Value->Heap->Prop} (hu:Tryz.prog.underlying st=some (.slice r.ty))
    (hs:Sl G r a n c) (hv:r.ok G v) (hq:Blk H q r.ty ⟨v⟩) (hn:n <= 1000000000)
    (hK: ∀a' c' G' H',Ty B G' H'->Ext G H G' H'->Sl G' r a' (n+1) c'->K (.slice a' (n+1) c') H'):
    AppW Tryz.prog #[st,st] st [.slice a n c,.slice (some ⟨q,0,none⟩) 1 1] H K:=by
  obtain ⟨it,h1,h2,h3,h4⟩:=Zbie r;obtain ⟨z,h5,h6⟩:=row_zero r;refine h.app hu h1 h2 rfl h3 h5 h6 hs hv hq ?_ hK;have:(2*(n+1)+192)*it.bytes <= (2*(1000000000+1)+192)*200:=Nat.mul_le_mul (by omega) h4
  omega
theorem Ty.shut {H1 H2:Heap} (h:Ty B G H1) (hs:Shut H H1 H2):Ty B G H2:=⟨fun b k hb=>by
  obtain ⟨cs,e1,e2⟩:=h.at_ b k hb;exact ⟨cs,Zcb e1 hs,e2⟩⟩
theorem Ext.shut {G':Gm} {H1 H2:Heap} (h:Ext G H G' H1) (hs:Shut H H1 H2):Ext G H G' H2:=⟨h.le,h.new,Zbl h.kp hs,fun b hb hi=>by
  obtain ⟨x,hx⟩:=h.inn b hb hi;exact ⟨x,by rw [hs.cell];exact hx⟩⟩
theorem Ro.shut {H1 H2:Heap} {a:Option Addr} {n:Nat} {l:List Int} (h:Ro G H1 a n l) (hs:Shut H H1 H2):Ro G H2 a n l:=by refine ⟨Zbaf h.1 hs,fun h0 x hx=>⟨?_,(h.2 h0 x hx).2⟩⟩;rcases hs x.block with e | ⟨_,_,e⟩;rw [e];exact (h.2 h0 x hx).1;rw [e];simp
theorem Ty.at_elem (h:Ty B G H) {r:Rk} {a:Option Addr} {n c i:Nat} {z:Int} {K:Addr->Prop} (hs:Sl G r a n c) (hz:z=i) (hi:i<n) (hK: ∀b x,r.ok G x->(∀j,j<r.sz->H.cell ⟨b,0+i*r.sz+j,none⟩=x[j]?)->K ⟨b,0+i*r.sz,none⟩):
    NilP a fun q=>InB z n fun m=>elemAt q m r.sz K:=by
  obtain ⟨b,x,rfl,h1,h2⟩:=h.elem hs hi;refine NilP.intro _ rfl (InB.intro i hz hi ?_);rw [Zw];exact hK b x h1 fun j hj=>by rw [Nat.zero_add];exact h2 j hj
theorem Ty.bytes (h:Ty B G H) {a:Option Addr} {n c:Nat} (hs:Sl G .bytes a n c): ∃l,AllB l∧l.length=n∧Reads H a n (bv l):=by
  rcases hs with ⟨rfl,rfl,_⟩ | ⟨b,m,rfl,hb,hn⟩;exact ⟨[],AllB.nil,rfl,Reads.nil⟩
  . obtain ⟨cs,h1,h2,h3,h4⟩:=h.at_ b _ hb;have key: ∀k,k <= n->∃l:List Int,AllB l∧l.length=k∧∀j,j<k->cs[j]? =(bv l)[j]? :=by
      intro k;induction k with
      | zero=>exact fun _=>⟨[],AllB.nil,rfl,fun j hj=>by omega⟩
      | succ k ih=>
        intro hk;obtain ⟨l,e1,e2,e3⟩:=ih (by omega)
        obtain ⟨x,f1,⟨z,rfl,hz⟩,f3⟩:=h4 k (by omega)
        have:=f3 0 (by decide)
        have this:cs[k*1+0]? =some (.int .u8 z):=this;refine ⟨l++[z],e1.app (fun y hy=>by rw [List.mem_singleton.1 hy];exact hz),by rw [List.length_append,e2];rfl,fun j hj=>?_⟩
        have hbl:(bv l).length=k:=by simp [bv,e2]
        rw [Zof];by_cases ej:j=k
        . subst ej;rw [List.getElem?_append_right (by omega),hbl]
          have e0:j*1+0=j:=by omega
          rw [e0] at this;rw [this,Nat.sub_self];rfl
        . rw [List.getElem?_append_left (by omega)];exact e3 j (by omega)
    obtain ⟨l,e1,e2,e3⟩:=key n (Nat.le_refl _);exact ⟨l,e1,e2,Reads.blk h1 (by simp [bv,e2]) fun j hj=>by rw [Nat.zero_add];simpa using e3 j hj⟩
theorem Ty.adopt (h0:Ty B G H) (k:Keep Nil H H') {a:Option Addr} {n c:Nat} (o:By H H' a n c): ∃G',Ty B G' H'∧Ext G H G' H'∧Sl G' .bytes a n c:=by
  obtain ⟨l,hl,hn,hlen,hle,ho⟩:=o;rcases ho with ⟨rfl,rfl,rfl⟩ | ⟨m,rest,rfl,hm,hb,hr⟩;exact ⟨G,h0.keep k,Ext.nil k,.inl ⟨rfl,rfl,rfl⟩⟩
  . have hg:=h0.free hm;refine ⟨gset G m (.row .bytes n c),(h0.keep k).add hg hb ⟨?_,hle,fun i hi=>⟨[.int .u8 (l.getD i 0)],rfl,⟨_,rfl,hl.get (by omega)⟩,fun j hj=>?_⟩⟩,(Ext.nil k).add hg hm,.inr ⟨m,n,rfl,Zda,Nat.le_refl _⟩⟩
    show (bv l++rest).length=c*1;rw [List.length_append,hr,hlen];omega
    . have hj0:j=0:=by have:j<1:=hj;omega
      subst hj0;have e0:i*Rk.bytes.sz+0=i:=by show i*1+0=i;omega
      rw [e0,List.getElem?_append_left (by omega)]
      simp only [bv,List.getElem?_map,List.getD_eq_getElem?_getD];rw [List.getElem?_eq_getElem (by omega)];rfl
end
section
variable {B:Nat} {G:Gm} {H H':Heap} {jb:Nat}
theorem Ty.joint (h:Ty B G H) (hj:G jb=some .joint): ∃next ga gn gc ha hn hc,Blk H jb Zva ⟨Zke next ga gn gc ha hn hc⟩∧Sl G .bytes ga gn gc∧gn <= B∧Sl G .held ha hn hc∧hn <= B:=by
  obtain ⟨cs,h1,next,ga,gn,gc,ha,hn,hc,rfl,r⟩:=h.at_ jb _ hj
  exact ⟨next,ga,gn,gc,ha,hn,hc,h1,r⟩
theorem Zbcp (h:Ty B G H) (hj:G jb=some .joint):FnW Tryz.prog Zmd ⟨[.pointer (some ⟨jb,0,none⟩)]⟩ H fun v H'=>∃z:Int,v= .int .i64 z∧(B <= 1000000000->z <= 4096)∧H=H':=by
  obtain ⟨next,ga,gn,gc,ha,hn,hc,hb,_,hgn,_⟩:=h.joint hj
  refine Zckf jb ?_;unfold Zbqs;refine ⟨_,cellL hb 1 rfl,_,_,_,cellL hb 2 rfl,fun H2 hs=>⟨_,rfl,fun hB=>?_,Zf hs⟩⟩;rw [Zi (by omega) (by omega)];omega
theorem Zbqi (h:Ty B G H) (hB:B <= 1000000000) (hj:G jb=some .joint) (k:Int):FnW Tryz.prog Zpt ⟨[.pointer (some ⟨jb,0,none⟩),.int .i64 k]⟩ H fun v H'=>∃(y:Int) (z:Bool),v= .tuple ⟨[.int .u8 y,.bool z]⟩∧isB y∧H=H':=by
  obtain ⟨next,ga,gn,gc,ha,hn,hc,hb,_,_,hsl,hhn⟩:=h.joint hj
  refine Zcjz jb k ?_;unfold Zbqk;refine Zbo (fun m s Hx=>H=Hx∧∃i:Nat,s=((i:Int),())∧m+i=hn) hn ⟨rfl,0,rfl,rfl⟩ ?_;rintro m s _ ⟨rfl,i,rfl,hm⟩ g;unfold Zbqj;refine ⟨_,_,_,cellL hb 3 rfl,IfB.intro (fun e=>?_) fun e H2 hs=>⟨_,_,rfl,by unfold isB;decide,Zf hs⟩⟩
  have e:=of_decide_eq_true e;simp only at e;have w1:IntKind.wrap .i64 ((i:Int)+1)=((i+1:Nat):Int):=by rw [Zi (by omega) (by omega)];omega
  refine ⟨_,_,_,cellL hb 3 rfl,h.at_elem (r:= .held) hsl rfl (by omega) ?_⟩
  rintro b x ⟨z,y,rfl,hy⟩ hc;refine ⟨z,hc 0 (by decide),IfB.intro (fun e2=>⟨_,_,_,cellL hb 3 rfl,h.at_elem (r:= .held) hsl rfl (by omega) ?_⟩) fun e2=>⟨m - 1,by omega,rfl,i+1,Prod.ext w1 rfl,by omega⟩⟩
  rintro b x ⟨z,y,rfl,hy⟩ hc;exact ⟨y,hc 1 (by decide),fun H2 hs=>⟨_,_,rfl,hy,Zf hs⟩⟩
theorem Zbqe (h:Ty B G H) (n:Int):FnW Tryz.prog Zyg ⟨[.int .u32 n,.int .i64 4096]⟩ H fun v H'=>∃b,v= .tuple ⟨[.pointer (some ⟨b,0,none⟩),.int .i64 0]⟩∧H b=none∧Ty B (gset G b .joint) H'∧Ext G H (gset G b .joint) H':=by refine Zcjv n 4096 ?_;unfold Zbqf Zbcm;refine ifF rfl (ifF rfl (h.new (k:= .joint) (fun b hb=>⟨n,none,0,0,none,0,0,rfl,.inl ⟨rfl,rfl,rfl⟩,Nat.zero_le _,.inl ⟨rfl,rfl,rfl⟩,Nat.zero_le _⟩) fun b H' hb h1 x1 k1=>fun H2 hs=>⟨b,rfl,hb,h1.shut hs,x1.shut hs⟩))
end
end Go.Proofs.YtaljkjokbdpdoaaGreat
end
section
set_option maxRecDepth 100000
namespace Go.Proofs.YtaljkjokbdpdoaaGreat
open Go.Sh Go.Pc Go.Conn
theorem Zir {G:Gm} {r:Rk} {b:Nat}:Sl (gset G b (.row r 0 0)) r (some ⟨b,0,none⟩) 0 0:= .inr ⟨b,0,rfl,Zda,Nat.le_refl _⟩
theorem Zqj {B:Nat} {G:Gm} {r:Rk}:Good B G (.row r 0 0) []:=⟨(Nat.zero_mul _).symm,Nat.le_refl _,fun i hi=>by omega⟩
section
variable {B:Nat} {G:Gm} {H H':Heap} {jb:Nat}
theorem Zbjb:Tryz.prog.underlying Zhv=some (.slice Zlc):=by kernel_rfl
theorem Zcld (h:Ty B G H) (hB:B <= 800000) (hj:G jb=some .joint) {k:Int} {a:Option Addr} {n c:Nat} {l:List Int} (ro:Ro G H a n l) (hl:AllB l):
    FnW Tryz.prog Zyp ⟨[.pointer (some ⟨jb,0,none⟩),.int .u32 k,.slice a n c]⟩ H fun v H'=>∃(x y:Int) (G':Gm),v= .tuple ⟨[.int .i64 x,.int .i64 y]⟩∧Ty (B+n+4100) G' H'∧Ext G H G' H':=by
  have hln:l.length=n:=by have:=ro.1.len;simpa using this
  refine Zcle jb k a n c ?_;unfold Zbsg;refine IfB.intro (fun e H2 hs=>⟨_,_,G,rfl,(h.mono (by omega)).shut hs,Ext.refl.shut hs⟩) fun e=>?_
  have hn:n <= 65536:=by have:=of_decide_eq_false e;omega
  refine (Zbcp h hj).mono ?_;rintro _ _ ⟨w,rfl,hw,rfl⟩;have hw:=hw (by omega)
  refine ⟨_,rfl,Zbo (fun m s Hi=>∃(i:Nat) (Gi:Gm),s=((i:Int),())∧m+i=n∧Ty (B+i) Gi Hi∧Ext G H Gi Hi) n ⟨0,G,rfl,rfl,h,Ext.refl⟩ ?_⟩;rintro m s Hi ⟨i,Gi,rfl,hm,hi,xi⟩ g;unfold Zbsf;refine IfB.intro (fun e=>?_) fun e=>?_
  . have e:=of_decide_eq_true e;simp only at e;have w1:IntKind.wrap .i64 ((i:Int)+1)=((i+1:Nat):Int):=by rw [Zi (by omega) (by omega)];omega
    have nx: ∀(Hx:Heap) (Gx:Gm),Ty (B+(i+1)) Gx Hx->Ext G H Gx Hx->Znq jb k a n c w i (fun x' Hy=>∃k'<m,∃(i:Nat) (Gi:Gm),x'=((i:Int),())∧k'+i=n∧Ty (B+i) Gi Hy∧Ext G H Gi Hy) Hx fun v H1=>∀H2,Shut H H1 H2->∃(x y:Int) (G':Gm),v= .tuple ⟨[.int .i64 x,.int .i64 y]⟩∧Ty (B+n+4100) G' H2∧Ext G H G' H2:=by intro Hx Gx hx xx;unfold Znq;exact ⟨m - 1,by omega,i+1,Gx,Prod.ext w1 rfl,by omega,hx,xx⟩
    have hji:=xi.le.jo jb hj;obtain ⟨next,ga,gn,gc,ha,hn',hc,hb,_⟩:=hi.joint hji
    refine ⟨[jb],Zcp hb.some,List.mem_singleton.2 rfl,_,cellL hb 0 rfl,(Zdu _ _).mono ?_⟩;rintro _ _ ⟨z1,rfl,rfl⟩;refine ⟨_,rfl,Zci hb.some (Keep.refl _ _),(Znk _ _).mono ?_⟩;rintro _ _ ⟨z2,rfl,_,_,rfl⟩;refine ⟨_,rfl,IfB.intro (fun e2=>nx _ Gi (hi.mono (by omega)) xi) fun e2=>(Zbqi hi (by omega) hji _).mono ?_⟩
    rintro _ _ ⟨y,z,rfl,_,rfl⟩;refine ⟨_,_,rfl,IfB.intro (fun e3=>?_) fun e3=>nx _ Gi (hi.mono (by omega)) xi⟩
    obtain ⟨next,ga,gn,gc,ha,hn',hc,hb,_,_,hsl,hhn⟩:=hi.joint hji
    refine ⟨_,_,_,cellL hb 3 rfl,byte_at (ro.ext xi).1 rfl (by omega) (newB fun q H7 hq bq k7=>?_)⟩
    have h7:=hi.keep k7;refine h7.push (r:= .held) Zbjb hsl ⟨_,_,rfl,hl.get (by omega)⟩ bq (by omega) fun a' c' G8 H8 h8 x8 s8=>⟨_,_,_,rfl,?_⟩
    obtain ⟨next2,ga2,gn2,gc2,ha2,hn2,hc2,hb2,q1,q2,q3,q4⟩:=h8.joint (x8.le.jo jb hji);refine h8.put (B':=B+(i+1)) (x8.le.jo jb hji) hb2 (by simp [Zke]) rfl (by omega) ⟨next2,ga2,gn2,gc2,a',hn'+1,c',rfl,q1,by omega,s8,by omega⟩ fun H9 h9 x9 _ _=>?_
    exact nx H9 G8 h9 (((xi.trans (Ext.nil k7)).trans x8).trans x9)
  have e:=of_decide_eq_false e;simp only at e;have hi:=hi.mono (B':=B+n) (by omega)
  refine Zbo (fun m' s Hx=>∃(j:Nat) (x:Int) (Gx:Gm),s=(x,((j:Int),()))∧m'+j=4097∧Ty (B+n+j) Gx Hx∧Ext G H Gx Hx) 4097 ⟨0,0,Gi,rfl,rfl,hi,xi⟩ ?_;rintro m' s Hx ⟨j,x,Gx,rfl,hm',hx,xx⟩ g;have hjx:=xx.le.jo jb hj;have j1:Zuv jb x (fun x' H'=>∃k'<m,∃(i:Nat) (Gi:Gm),x'=((i:Int),())∧k'+i=n∧Ty (B+i) Gi H'∧Ext G H Gi H') (fun x' H'=>∃k'<m',∃(j:Nat) (x:Int) (Gx:Gm),x'=(x,((j:Int),()))∧k'+j=4097∧Ty (B+n+j) Gx H'∧Ext G H Gx H') Hx fun v H1=>∀H2,Shut H H1 H2->∃(x y:Int) (G':Gm),v= .tuple ⟨[.int .i64 x,.int .i64 y]⟩∧Ty (B+n+4100) G' H2∧Ext G H G' H2:=by
    unfold Zuv;refine hx.new (k:= .row .held 0 0) (fun b hb=>Zqj) fun b H3 hb h3 x3 _=>?_;refine Zbo (fun m3 s Hy=>∃(p:Nat) (la:Option Addr) (ln lc:Nat) (Gy:Gm),s=((la,ln,lc),((p:Int),()))∧m3+p=B+n+j∧ln <= p∧Sl Gy .held la ln lc∧Ty (B+n+j) Gy Hy∧Ext G H Gy Hy) (B+n+j) ⟨0,_,0,0,_,rfl,rfl,Nat.le_refl _,Zir,h3,xx.trans x3⟩ ?_;rintro m3 s Hy ⟨p,la,ln,lc,Gy,rfl,hm3,hlp,hsy,hy,xy⟩ g;have hjy:=xy.le.jo jb hj;obtain ⟨next,ga,gn,gc,ha,hn',hc,hb,q1,q2,hsl,hhn⟩:=hy.joint hjy
    unfold Zbse;refine ⟨_,_,_,cellL hb 3 rfl,IfB.intro (fun e=>?_) fun e=>?_⟩
    . have e:=of_decide_eq_true e;simp only at e;have w1:IntKind.wrap .i64 ((p:Int)+1)=((p+1:Nat):Int):=by rw [Zi (by omega) (by omega)];omega
      have j2: ∀(Hz:Heap) (Gz:Gm) (la:Option Addr) (ln lc:Nat),ln <= p+1->Sl Gz .held la ln lc->Ty (B+n+j) Gz Hz->Ext G H Gz Hz->Zuw jb x p (fun x' H'=>∃k'<m,∃(i:Nat) (Gi:Gm),x'=((i:Int),())∧k'+i=n∧Ty (B+i) Gi H'∧Ext G H Gi H') (fun x' H'=>∃k'<m',∃(j:Nat) (x:Int) (Gx:Gm),x'=(x,((j:Int),()))∧k'+j=4097∧Ty (B+n+j) Gx H'∧Ext G H Gx H') (fun x' H'=>∃k'<m3,∃(p:Nat) (la:Option Addr) (ln lc:Nat) (Gy:Gm),x'=((la,ln,lc),((p:Int),()))∧k'+p=B+n+j∧ln <= p∧Sl Gy .held la ln lc∧Ty (B+n+j) Gy H'∧Ext G H Gy H') la ln lc Hz fun v H1=>∀H2,Shut H H1 H2->∃(x y:Int) (G':Gm),v= .tuple ⟨[.int .i64 x,.int .i64 y]⟩∧Ty (B+n+4100) G' H2∧Ext G H G' H2:=by intro Hz Gz la ln lc h1 h2 h3 h4;unfold Zuw;exact ⟨m3 - 1,by omega,p+1,la,ln,lc,Gz,Prod.ext rfl (Prod.ext w1 rfl),by omega,h1,h2,h3,h4⟩
      refine ⟨_,_,_,cellL hb 3 rfl,hy.at_elem (r:= .held) hsl rfl (by omega) ?_⟩
      rintro b x1 ⟨z,y,rfl,hyb⟩ hcell;refine ⟨z,hcell 0 (by decide),IfB.intro (fun e2=>⟨_,_,_,cellL hb 3 rfl,hy.at_elem (r:= .held) hsl rfl (by omega) ?_⟩) fun e2=>j2 Hy Gy la ln lc (by omega) hsy hy xy⟩
      rintro b x1 ⟨z,y,rfl,hyb⟩ hcell;refine ⟨z,hcell 0 (by decide),_,_,_,cellL hb 3 rfl,hy.at_elem (r:= .held) hsl rfl (by omega) ?_⟩
      rintro b x1 ⟨z2,y,rfl,hyb⟩ hcell;refine ⟨y,hcell 1 (by decide),newB fun q H7 hq bq k7=>?_⟩
      exact (hy.keep k7).push (r:= .held) Zbjb hsy ⟨_,_,rfl,hyb⟩ bq (by show ln <= _;omega) fun a' c' G8 H8 h8 x8 s8=>⟨_,_,_,rfl,j2 H8 G8 a' (ln+1) c' (by omega) s8 h8 ((xy.trans (Ext.nil k7)).trans x8)⟩
    . refine hy.put (B':=B+n+4100) hjy hb (by simp [Zke]) rfl (by omega) ⟨next,ga,gn,gc,la,ln,lc,rfl,q1,by omega,hsy,by omega⟩ fun H4 h4 x4 b4 _=>⟨_,cellL b4 0 rfl,(Zdu _ _).mono ?_⟩
      rintro _ _ ⟨z,rfl,rfl⟩;obtain ⟨next2,ga2,gn2,gc2,ha2,hn2,hc2,hb2,r1,r2,r3,r4⟩:=h4.joint hjy;refine ⟨_,rfl,h4.put hjy hb2 (by simp [Zke]) rfl (Nat.le_refl _) ⟨z,ga2,gn2,gc2,ha2,hn2,hc2,rfl,r1,r2,r3,r4⟩ fun H5 h5 x5 _ _=>fun H6 hs=>⟨_,_,Gy,rfl,h5.shut hs,((xy.trans x4).trans x5).shut hs⟩⟩
  unfold Zbsd;refine IfB.intro (fun e=>?_) fun e=>j1;have e:=of_decide_eq_true e;simp only at e;refine (Zbqi hx (by omega) hjx _).mono ?_
  rintro _ _ ⟨y,z,rfl,hyb,rfl⟩;refine ⟨_,_,rfl,IfB.intro (fun e3=>j1) fun e3=>newB fun q H3 hq bq k3=>?_⟩;have h3:=hx.keep k3;obtain ⟨next,ga,gn,gc,ha,hn',hc,hb,q1,q2,hsl,hhn⟩:=h3.joint hjx
  obtain ⟨lg,hlg,hlg2,rg⟩:=h3.bytes q1;have o0:By Hx H3 (some ⟨q,0,none⟩) 0 0:=Zkf (l:=[]) hq bq AllB.nil;refine ⟨_,_,_,cellL hb 2 rfl,By.app o0 k3 hlg rg (by omega) fun a4 c4 H4 o4 k4 _=>⟨_,_,_,rfl,newB fun q2 H5 hq2 bq2 k5=>?_⟩⟩
  obtain ⟨l5,hl5,_,r5⟩:=(Zkf (l:=[y]) hq2 bq2 (fun z hz=>by rw [List.mem_singleton.1 hz];exact hyb)).reads
  refine By.app (o4.keep k5 fun _ _ h=>h) (k4.trans k5) hl5 r5 (by show 0+gn+1 <= 1000000;omega) fun a6 c6 H6 o6 k6 _=>⟨_,_,_,rfl,?_⟩
  obtain ⟨G6,h6,x6,s6⟩:=hx.adopt k6 o6;have hj6:=x6.le.jo jb hjx;obtain ⟨next2,ga2,gn2,gc2,ha2,hn2,hc2,hb2,r1,r2,r3,r4⟩:=h6.joint hj6;have w1:IntKind.wrap .i64 ((j:Int)+1)=((j+1:Nat):Int):=by rw [Zi (by omega) (by omega)];omega
  refine h6.put (B':=B+n+(j+1)) hj6 hb2 (by simp [Zke]) rfl (by omega) ⟨next2,a6,_,c6,ha2,hn2,hc2,rfl,s6,by show 0+gn+1 <= _;omega,r3,by omega⟩ fun H7 h7 x7 _ _=>⟨m' - 1,by omega,j+1,_,G6,Prod.ext rfl (Prod.ext w1 rfl),by omega,h7,(xx.trans x6).trans x7⟩
end
end Go.Proofs.YtaljkjokbdpdoaaGreat
end
section
set_option maxRecDepth 100000
namespace Go.Proofs.YtaljkjokbdpdoaaGreat
open Go.Sh Go.Pc Go.Conn
section
variable {B:Nat} {G:Gm} {H H':Heap} {ob jb cb:Nat}
theorem Ty.outb (h:Ty B G H) (ho:G ob=some .out): ∃una room win big now es ev any timed till at_,Blk H ob Zvb ⟨Zim una room win big now es ev any timed till at_⟩:=by obtain ⟨cs,h1,una,room,win,big,now,es,ev,any,timed,till,at_,rfl⟩:=h.at_ ob _ ho;exact ⟨una,room,win,big,now,es,ev,any,timed,till,at_,h1⟩
theorem Ty.conn (h:Ty B G H) (hc:G cb=some .conn): ∃st from_ to first ob jp b1 b2 b3 b4 now due,Blk H cb Zhs ⟨Zbx st from_ to first ob jp b1 b2 b3 b4 now due⟩∧G ob=some .out∧(∀x,jp=some x->∃jb,x=⟨jb,0,none⟩∧G jb=some .joint)∧(st=0∨st=1∨jp≠none):=by
  obtain ⟨cs,h1,st,f,t,first,ob,jp,b1,b2,b3,b4,now,due,rfl,r⟩:=h.at_ cb _ hc
  exact ⟨st,f,t,first,ob,jp,b1,b2,b3,b4,now,due,h1,r⟩
theorem Ztx (n m:Int):FnW Tryz.prog Zjw ⟨[.int .i64 n,.int .i64 m]⟩ H fun v H'=>v= .bool (decide (m <= n)&&decide (n <= 65535))∧H=H':=by refine Zcjk n m ?_;unfold Zbps;refine IfB.intro (fun e H2 hs=>⟨?_,Zf hs⟩) fun e H2 hs=>⟨?_,Zf hs⟩;have e:decide (m <= n)=true:=e;rw [e];rfl;have e:decide (m <= n)=false:=e;rw [e];rfl
theorem Zbpp (h:Ty B G H) (una:Int) {big:Int} (h1:1 <= big) (h2:big <= 65535):FnW Tryz.prog Zya ⟨[.int .u32 una,.int .i64 4096,.int .i64 0,.int .i64 big]⟩ H fun v H'=>∃b,v= .tuple ⟨[.pointer (some ⟨b,0,none⟩),.int .i64 0]⟩∧H b=none∧Ty B (gset G b .out) H'∧Ext G H (gset G b .out) H'∧Keep Nil H H':=by
  refine Zcji una 4096 0 big ?_;unfold Zbpq;refine (Ztx _ _).mono ?_;rintro _ _ ⟨rfl,rfl⟩;refine ⟨_,rfl,ifF rfl ((Ztx _ _).mono ?_)⟩;rintro _ _ ⟨rfl,rfl⟩;refine ⟨_,rfl,ifF rfl ((Ztx _ _).mono ?_)⟩;rintro _ _ ⟨rfl,rfl⟩;have e:(decide (1 <= big)&&decide (big <= 65535))=true:=by rw [decide_eq_true h1,decide_eq_true h2];rfl
  rw [e];refine ⟨_,rfl,?_⟩;unfold Ztv;exact ifF rfl (h.new (k:= .out) (fun b hb=>⟨una,4096,0,big,0,0,0,false,false,0,0,rfl⟩) fun b H' hb h1 x1 k1=>fun H2 hs=>⟨b,rfl,hb,h1.shut hs,x1.shut hs,Zk k1 hs⟩)
theorem Zrn (h:Ty B G H) (ho:G ob=some .out):FnW Tryz.prog Zjo ⟨[.pointer (some ⟨ob,0,none⟩)]⟩ H fun v H'=>∃z:Int,v= .int .u32 z∧H=H':=by obtain ⟨una,room,win,big,now,es,ev,any,timed,till,at_,hb⟩:=h.outb ho;refine Zcee ob ?_;unfold Zbkq;refine ⟨_,cellL hb 0 rfl,_,cellL hb 2 rfl,(Zdu _ _).mono ?_⟩;rintro _ _ ⟨z,rfl,rfl⟩;exact ⟨_,rfl,fun H2 hs=>⟨_,rfl,Zf hs⟩⟩
theorem Zbzb (h:Ty B G H) (ho:G ob=some .out) (t:Int):FnW Tryz.prog Zxh ⟨[.pointer (some ⟨ob,0,none⟩),.int .i64 t]⟩ H fun v H'=>∃z e:Int,v= .tuple ⟨[.int .u32 z,.slice none 0 0,.int .i64 e]⟩∧e≠0∧Ty B G H'∧Ext G H G H':=by
  obtain ⟨una,room,win,big,now,es,ev,any,timed,till,at_,hb⟩:=h.outb ho;refine Zchf ob t ?_;unfold Zbne;refine ⟨_,cellL hb 6 rfl,IfB.intro (fun e H2 hs=>⟨_,_,rfl,by decide,h.shut hs,Ext.refl.shut hs⟩) fun e=>h.put ho hb (by simp [Zim]) rfl (Nat.le_refl _) ⟨una,room,win,big,t,es,ev,any,timed,till,at_,rfl⟩ fun H1 h1 x1 b1 _=>?_⟩
  refine ⟨_,cellL b1 5 rfl,_,_,_,cellL b1 1 rfl,_,cellL b1 2 rfl,_,cellL b1 4 rfl,_,cellL b1 2 rfl,ifT ?_ fun H2 hs=>⟨_,_,rfl,by decide,h1.shut hs,x1.shut hs⟩⟩
  have e0:IntKind.wrap .i64 (((0:Nat):Int) - 0)=0:=rfl;rw [e0];exact decide_eq_true (by omega)
theorem Zcdl {z:Int} (h0:0 <= z) (h1:z<4294967296):IntKind.wrap .u64 z=z:=by show z%18446744073709551616=z;omega
theorem Zrm (h:Ty B G H) (ho:G ob=some .out) (t k w:Int):FnW Tryz.prog Zjs ⟨[.pointer (some ⟨ob,0,none⟩),.int .i64 t,.int .u32 k,.int .i64 w]⟩ H fun v H'=>∃z e:Int,v= .tuple ⟨[.int .i64 z,.int .i64 e]⟩∧Ty B G H'∧Ext G H G H'∧Keep (fun x=>x=ob) H H':=by
  obtain ⟨una,room,win,big,now,es,ev,any,timed,till,at_,hb⟩:=h.outb ho;refine Zcif ob t k w ?_;unfold Zbof;refine ⟨_,cellL hb 0 rfl,(Znk _ _).mono ?_⟩;rintro _ _ ⟨z,rfl,z0,z1,rfl⟩;have j0: ∀x:Bool,(x=false->z=0)->Zng ob t k w z x H fun v H1=>∀H2,Shut H H1 H2->∃z e:Int,v= .tuple ⟨[.int .i64 z,.int .i64 e]⟩∧Ty B G H2∧Ext G H G H2∧Keep (fun x=>x=ob) H H2:=by intro x hx;unfold Zng;refine IfB.intro (fun e H2 hs=>⟨_,_,rfl,h.shut hs,Ext.refl.shut hs,Zbl (Keep.refl _ _) hs⟩) fun e=>?_;have hz:=hx e;refine h.put ho hb (by simp [Zim]) rfl (Nat.le_refl _) ⟨una,room,win,big,t,es,ev,any,timed,till,at_,rfl⟩ fun H1 h1 x1 b1 k1=>h1.put ho b1 (by simp [Zim]) rfl (Nat.le_refl _) ⟨una,room,w,big,t,es,ev,any,timed,till,at_,rfl⟩ fun H2 h2 x2 b2 k2=>ifT (by rw [hz];rfl) fun H3 hs=>⟨_,_,rfl,h2.shut hs,(x1.trans x2).shut hs,Zbl (k1.trans k2) hs⟩
  refine ⟨_,rfl,_,cellL hb 6 rfl,IfB.intro (fun e=>j0 true fun h=>by cases h) fun e=>⟨_,cellL hb 2 rfl,IfB.intro (fun e=>j0 true fun h=>by cases h) fun e2=>(Ztx _ _).mono ?_⟩⟩
  rintro _ _ ⟨rfl,rfl⟩;refine ⟨_,rfl,j0 _ fun _=>?_⟩;have e2:=of_decide_eq_false e2;rw [Zcdl z0 z1] at e2;have:IntKind.wrap .u64 0=0:=rfl;rw [this] at e2;omega
theorem Zbza (h:Ty B G H) (ho:G ob=some .out):FnW Tryz.prog Zyb ⟨[.pointer (some ⟨ob,7,none⟩)]⟩ H fun v H'=>∃z:Int,v= .int .i64 z∧H=H':=by
  obtain ⟨una,room,win,big,now,es,ev,any,timed,till,at_,hb⟩:=h.outb ho;refine Zcjm ob 7 ?_;unfold Zbpv;have j0: ∀w:Int,Ztz ob 7 w H fun v H1=>∀H2,Shut H H1 H2->∃z:Int,v= .int .i64 z∧H=H2:=by intro w;unfold Ztz;refine Zbo (fun m s Hx=>H=Hx∧∃x:Int,s=(x,(0,()))) 0 ⟨rfl,w,rfl⟩ ?_;rintro m s _ ⟨rfl,x,rfl⟩ g;unfold Zbpu;exact ⟨_,cellL hb 9 rfl,ifF rfl fun H2 hs=>⟨_,rfl,Zf hs⟩⟩
  exact ⟨_,cellL hb 10 rfl,IfB.intro (fun e=>⟨_,cellL hb 7 rfl,by decide,_,cellL hb 8 rfl,j0 _⟩) fun e=>j0 _⟩
theorem Zbrv (n:Int):FnW Tryz.prog Zqf ⟨[.int .i64 n]⟩ H fun v H'=>v= .bool (Zbf n)∧H=H':=by
  refine Zckz n ?_;unfold Zbrw;refine IfB.intro (fun e H2 hs=>⟨?_,Zf hs⟩) fun e H2 hs=>⟨?_,Zf hs⟩;have e:=of_decide_eq_true e;unfold Zbf;rw [decide_eq_true (show 1 <= n from e),Bool.true_and]
  have e:=of_decide_eq_false e;unfold Zbf;rw [decide_eq_false (show ¬1 <= n from e),Bool.false_and]
theorem Zro (h:Ty B G H) (hc:G cb=some .conn):FnW Tryz.prog Zji ⟨[.pointer (some ⟨cb,0,none⟩)]⟩ H fun v H'=>∃z:Int,v= .int .u32 z∧H=H':=by
  obtain ⟨st,f,t,first,ob,jp,b1,b2,b3,b4,now,due,hb,ho,hj,hs⟩:=h.conn hc
  refine Zcdv cb ?_;unfold Zbkd;refine ⟨_,cellL hb 5 rfl,IfB.intro (fun e H2 hs=>⟨_,rfl,Zf hs⟩) fun e=>?_⟩;cases jp with
  | none=>cases e
  | some x=>
    obtain ⟨jb,rfl,hjb⟩:=hj x rfl;obtain ⟨next,ga,gn,gc,ha,hn,hc',bj,_⟩:=h.joint hjb
    refine ⟨_,cellL hb 9 rfl,IfB.intro (fun e=>⟨_,cellL hb 5 rfl,NilP.intro _ rfl ⟨_,cellL bj 0 rfl,(Zdu _ _).mono ?_⟩⟩) fun e=>⟨_,cellL hb 5 rfl,NilP.intro _ rfl ⟨_,cellL bj 0 rfl,fun H2 hs=>⟨_,rfl,Zf hs⟩⟩⟩⟩;rintro _ _ ⟨z,rfl,rfl⟩;exact ⟨_,rfl,fun H2 hs=>⟨_,rfl,Zf hs⟩⟩
theorem Zbhr (h:Ty B G H) (hc:G cb=some .conn):FnW Tryz.prog Zpl ⟨[.pointer (some ⟨cb,0,none⟩)]⟩ H fun v H'=>∃z:Int,v= .int .u32 z∧H=H':=by
  obtain ⟨st,f,t,first,ob,jp,b1,b2,b3,b4,now,due,hb,ho,hj,hs⟩:=h.conn hc
  refine Zcgh cb ?_;unfold Zbmg;refine ⟨_,cellL hb 7 rfl,IfB.intro (fun e=>⟨_,cellL hb 4 rfl,(Zrn h ho).mono ?_⟩) fun e=>⟨_,cellL hb 4 rfl,(Zrn h ho).mono ?_⟩⟩;rintro _ _ ⟨z,rfl,rfl⟩;refine ⟨_,rfl,(Zdu _ _).mono ?_⟩;rintro _ _ ⟨z,rfl,rfl⟩;exact ⟨_,rfl,fun H2 hs=>⟨_,rfl,Zf hs⟩⟩;rintro _ _ ⟨z,rfl,rfl⟩;exact ⟨_,rfl,fun H2 hs=>⟨_,rfl,Zf hs⟩⟩
theorem Zbzj (h:Ty B G H) (hc:G cb=some .conn):FnW Tryz.prog Zwy ⟨[.pointer (some ⟨cb,0,none⟩)]⟩ H fun v H'=>∃z:Bool,v= .bool z∧H=H':=by
  obtain ⟨st,f,t,first,ob,jp,b1,b2,b3,b4,now,due,hb,ho,hj,hs⟩:=h.conn hc
  obtain ⟨una,room,win,big,now',es,ev,any,timed,till,at_,bo⟩:=h.outb ho;have fin: ∀z:Bool,∀H2,Shut H H H2->∃y:Bool,(Value.bool z)= .bool y∧H=H2:=fun z H2 hs=>⟨_,rfl,Zf hs⟩;refine Zcgv cb ?_;unfold Zbmu;refine ⟨_,cellL hb 0 rfl,IfB.intro (fun e=>fin _) fun e=>⟨_,cellL hb 0 rfl,IfB.intro (fun e=>fin _) fun e=>⟨_,cellL hb 4 rfl,NilP.intro _ rfl ⟨_,cellL bo 2 rfl,IfB.intro (fun e=>fin _) fun e=>⟨_,cellL hb 7 rfl,?_⟩⟩⟩⟩⟩;refine IfB.intro (fun e=>⟨_,cellL hb 8 rfl,IfB.intro (fun e=>fin _) fun e=>⟨_,cellL hb 4 rfl,NilP.intro _ rfl ⟨_,cellL bo 4 rfl,IfB.intro (fun e=>⟨_,cellL hb 4 rfl,NilP.intro _ rfl ⟨_,_,_,cellL bo 1 rfl,fin _⟩⟩) fun e=>fin _⟩⟩⟩) fun e=>⟨_,cellL hb 4 rfl,NilP.intro _ rfl ⟨_,cellL bo 4 rfl,IfB.intro (fun e=>⟨_,cellL hb 4 rfl,NilP.intro _ rfl ⟨_,_,_,cellL bo 1 rfl,fin _⟩⟩) fun e=>fin _⟩⟩
end
end Go.Proofs.YtaljkjokbdpdoaaGreat
end
section
set_option maxRecDepth 100000
namespace Go.Proofs.YtaljkjokbdpdoaaGreat
open Go.Sh Go.Pc Go.Conn
theorem st9x {H:Heap} {q:Nat} {T:TypeId} {v0 v1 v2 v3 v4 v5 v6 v7 v8:Value} {i0 i1 i2 i3 i4 i5 i6 i7:Int} {a:Option Addr} {n c:Nat} {K:Heap->Prop} (hb:Blk H q T ⟨[v0,v1,v2,v3,v4,v5,v6,v7,v8]⟩) (h: ∀H',Blk H' q T ⟨sgI i0 i1 i2 i3 i4 i5 i6 i7 a n c⟩->Keep (fun x=>x=q) H H'->K H'):
    Za H ⟨q,0,none⟩ (.int .i64 i0) fun H1=>Za H1 ⟨q,1,none⟩ (.int .i64 i1) fun H2=>Za H2 ⟨q,2,none⟩ (.int .u32 i2) fun H3=>Za H3 ⟨q,3,none⟩ (.int .u32 i3) fun H4=>Za H4 ⟨q,4,none⟩ (.int .i64 i4) fun H5=>Za H5 ⟨q,5,none⟩ (.int .i64 i5) fun H6=>Za H6 ⟨q,6,none⟩ (.int .i64 i6) fun H7=>Za H7 ⟨q,7,none⟩ (.int .i64 i7) fun H8=>Za H8 ⟨q,8,none⟩ (.slice a n c) K:=
  stL hb (by simp) rfl fun H1 b1 k1=>stL b1 (by simp) rfl fun H2 b2 k2=>stL b2 (by simp) rfl fun H3 b3 k3=>stL b3 (by simp) rfl fun H4 b4 k4=>stL b4 (by simp) rfl fun H5 b5 k5=>stL b5 (by simp) rfl fun H6 b6 k6=>stL b6 (by simp) rfl fun H7 b7 k7=>stL b7 (by simp) rfl fun H8 b8 k8=>stL b8 (by simp) rfl fun H9 b9 k9=>
    h H9 b9 ((((((((k1.trans k2).trans k3).trans k4).trans k5).trans k6).trans k7).trans k8).trans k9)
def hasB (f w:Int):Bool:=(Int.tmod (IntKind.wrap .i64 (Int.tdiv f w)) 2:Int)==1
theorem Zbje:Tryz.prog.underlying Zcx=some (.slice Zr):=by kernel_rfl
section
variable {B:Nat} {G:Gm} {H H':Heap} {ob jb cb:Nat} {i0 i1 i2 i3 i4 i5 i6 i7:Int} {da:Option Addr} {dn dc:Nat}
def SegV (v:Value):Prop:=∃i0 i1 i2 i3 i4 i5 i6 i7:Int,v= .agg ⟨sgI i0 i1 i2 i3 i4 i5 i6 i7 none 0 0⟩
theorem Zbat:Rk.segs.ok G (sgI i0 i1 i2 i3 i4 i5 i6 i7 none 0 0):=⟨_,_,_,_,_,_,_,_,rfl⟩
theorem Zdv {w:Int} (hw:w≠0):FnW Tryz.prog Zcz ⟨[.agg ⟨sgI i0 i1 i2 i3 i4 i5 i6 i7 da dn dc⟩,.int .i64 w]⟩ H fun v H'=>v= .bool (hasB i4 w)∧Keep Nil H H':=by refine Zckl _ _ _ _ _ _ _ _ _ _ _ w ?_;unfold Zbqz;exact newB fun q H1 hq b1 k1=>⟨_,cellL b1 4 rfl,hw,by decide,fun H2 hs=>⟨rfl,Zk k1 hs⟩⟩
theorem Zbkl (hg:i16 i7=true):FnW Tryz.prog Zwf ⟨[.agg ⟨sgI i0 i1 i2 i3 i4 i5 i6 i7 da dn dc⟩]⟩ H fun v H'=>∃z:Int,v= .int .i64 z∧1 <= z∧z <= 65535∧Keep Nil H H':=by
  refine Zceb _ _ _ _ _ _ _ _ _ _ _ ?_;unfold Zbkm;unfold i16 at hg;simp only [Bool.and_eq_true,decide_eq_true_eq] at hg;refine newB fun q H1 hq b1 k1=>⟨_,cellL b1 7 rfl,IfB.intro (fun e H2 hs=>⟨_,rfl,by decide,by decide,Zk k1 hs⟩) fun e=>⟨_,cellL b1 7 rfl,fun H2 hs=>⟨_,rfl,?_,by omega,Zk k1 hs⟩⟩⟩
  have:i7≠0:=fun h=>by subst h;cases e
  omega
theorem Zbrx {l:List Int} (hr:Reads H da dn (bv l)) (hl:AllB l):FnW Tryz.prog Zqg ⟨[.agg ⟨sgI i0 i1 i2 i3 i4 i5 i6 i7 da dn dc⟩]⟩ H fun v H'=>∃z:Bool,v= .bool z∧(z=true↔Rm i0 i1 i4 i5 i6 i7∧dn <= 65495)∧Keep Nil H H':=by refine Zcla _ _ _ _ _ _ _ _ _ _ _ ?_;unfold Zbry;refine newB fun q H1 hq b1 k1=>ld9x b1 ((Zbcf (hr.keep k1 fun _ _ h=>h) hl).mono ?_);rintro _ H2 ⟨a,n,c,e,rfl,_,_,_,he,k2⟩;refine ⟨_,_,_,_,rfl,fun H3 hs=>⟨_,rfl,?_,Zk (k1.trans k2) hs⟩⟩;rw [← he];exact beq_iff_eq
theorem Zbah (h:Ty B G H) (hc:G cb=some .conn) (at_ fl:Int):FnW Tryz.prog Zjx ⟨[.pointer (some ⟨cb,0,none⟩),.int .u32 at_,.int .i64 fl,.slice none 0 0]⟩ H fun v H'=>SegV v∧Keep Nil H H':=by
  refine Zcjl cb at_ fl none 0 0 ?_;unfold Zbpt;refine newB fun q H1 hq b1 k1=>?_;have h1:=h.keep k1;obtain ⟨st,f,t,first,ob,jp,c1,c2,c3,c4,now,due,hb,ho,hj,hs⟩:=h1.conn hc
  have j0: ∀w:Int,Zty cb at_ fl none 0 0 q w H1 fun v H1=>∀H2,Shut H H1 H2->SegV v∧Keep Nil H H2:=by intro w;unfold Zty;refine ⟨[cb],Zcp hb.some,List.mem_singleton.2 rfl,_,cellL hb 1 rfl,List.mem_singleton.2 rfl,_,cellL hb 2 rfl,(Zro h1 hc).mono ?_⟩;rintro _ _ ⟨z,rfl,rfl⟩;exact ⟨_,rfl,Zci hb.some (Keep.refl _ _),sl9x b1 fun H2 b2 k2 H3 hs=>⟨⟨_,_,_,_,_,_,_,_,rfl⟩,Zk (k1.then k2 fun y hy=> .inr (hy▸hq)) hs⟩⟩
  refine ⟨_,cellL hb 5 rfl,IfB.intro (fun e=>?_) fun e=>j0 _⟩;cases jp with
  | none=>cases e
  | some x=>
    obtain ⟨jb,rfl,hjb⟩:=hj x rfl;refine ⟨_,cellL hb 5 rfl,(Zbcp h1 hjb).mono ?_⟩;rintro _ _ ⟨z,rfl,_,rfl⟩;exact ⟨_,rfl,j0 _⟩
theorem Zbhv (h:Ty B G H) (hc:G cb=some .conn):FnW Tryz.prog Zpv ⟨[.pointer (some ⟨cb,0,none⟩)]⟩ H fun v H'=>SegV v∧Keep Nil H H':=by
  refine Zckc cb ?_;unfold Zbqo;refine newB fun q H1 hq b1 k1=>?_;have h1:=h.keep k1;obtain ⟨st,f,t,first,ob,jp,c1,c2,c3,c4,now,due,hb,ho,hj,hs⟩:=h1.conn hc
  refine ⟨_,cellL hb 3 rfl,(Zbah h1 hc _ _).mono ?_⟩;rintro _ H2 ⟨⟨j0,j1,j2,j3,j4,j5,j6,j7,rfl⟩,k2⟩;refine ⟨_,_,_,_,_,_,_,_,_,_,_,rfl,newB fun r H3 hr b3 k3=>st9x b3 fun H4 b4 k4=>stL b4 (by simp [sgI]) rfl fun H5 b5 k5=>?_⟩
  have hqr:q≠r:=fun e=>(k2.blk b1 id).some (e▸hr);have hcr:cb≠r:=fun e=>(k2.blk hb id).some (e▸hr);have kr:=k4.trans k5;have k03:Keep Nil H H3:=(k1.trans k2).trans k3;have hr0:H r=none:=(k1.trans k2).free hr;have k05:Keep Nil H H5:=k03.then kr fun y hy=> .inr (hy▸hr0);have bq5:=kr.blk (k3.blk (k2.blk b1 id) id) hqr;have hb5:=kr.blk (k3.blk (k2.blk hb id) id) hcr;have jx: ∀(Hx:Heap) (m:Int),Keep (fun y=>y=r) H5 Hx->Blk Hx r Zr ⟨sgI j0 j1 j2 j3 m j5 j6 1460 none 0 0⟩->Zuj q r Hx fun v H1=>∀H2,Shut H H1 H2->SegV v∧Keep Nil H H2:=by intro Hx m kx bx;unfold Zuj;exact ld9x bx (sl9x (kx.blk bq5 hqr) fun H6 b6 k6 H7 hs=>⟨⟨_,_,_,_,_,_,_,_,rfl⟩,Zk ((k05.then kx fun y hy=> .inr (hy▸hr0)).then k6 fun y hy=> .inr (hy▸hq)) hs⟩)
  exact ⟨_,cellL hb5 0 rfl,IfB.intro (fun e=>stL b5 (by simp [sgI]) rfl fun H6 b6 k6=>jx H6 18 k6 b6) fun e=>jx H5 j4 (Keep.refl _ _) b5⟩
theorem Zbhs (h:Ty B G H) (hc:G cb=some .conn):FnW Tryz.prog Zfa ⟨[.pointer (some ⟨cb,0,none⟩)]⟩ H fun v H'=>SegV v∧Keep Nil H H':=by refine Zcjo cb ?_;unfold Zbpz;refine newB fun q H1 hq b1 k1=>(Zbhr (h.keep k1) hc).mono ?_;rintro _ _ ⟨z,rfl,rfl⟩;refine ⟨_,rfl,(Zbah (h.keep k1) hc _ _).mono ?_⟩;rintro _ H2 ⟨⟨j0,j1,j2,j3,j4,j5,j6,j7,rfl⟩,k2⟩;exact ⟨_,_,_,_,_,_,_,_,_,_,_,rfl,sl9x (k2.blk b1 id) fun H3 b3 k3 H4 hs=>⟨⟨_,_,_,_,_,_,_,_,rfl⟩,Zk ((k1.trans k2).then k3 fun y hy=> .inr (hy▸hq)) hs⟩⟩
theorem Zbzh (h:Ty B G H) (hc:G cb=some .conn):FnW Tryz.prog Zxi ⟨[.pointer (some ⟨cb,0,none⟩)]⟩ H fun v H'=>SegV v∧Keep Nil H H':=by
  refine Zchg cb ?_;unfold Zbnf;refine newB fun q H1 hq b1 k1=>?_;obtain ⟨st,f,t,first,ob,jp,c1,c2,c3,c4,now,due,hb,ho,hj,hs⟩:=(h.keep k1).conn hc
  refine ⟨_,cellL hb 4 rfl,(Zrn (h.keep k1) ho).mono ?_⟩;rintro _ _ ⟨z,rfl,rfl⟩;refine ⟨_,rfl,(Zbah (h.keep k1) hc _ _).mono ?_⟩;rintro _ H2 ⟨⟨j0,j1,j2,j3,j4,j5,j6,j7,rfl⟩,k2⟩;exact ⟨_,_,_,_,_,_,_,_,_,_,_,rfl,sl9x (k2.blk b1 id) fun H3 b3 k3 H4 hs=>⟨⟨_,_,_,_,_,_,_,_,rfl⟩,Zk ((k1.trans k2).then k3 fun y hy=> .inr (hy▸hq)) hs⟩⟩
theorem Ty.one_seg {G0:Gm} {H0:Heap} {K:Nat->Heap->Prop} (h:Ty B G H) (hK: ∀b G' H',Ty B G' H'->Ext G H G' H'->Keep Nil H H'->Sl G' .segs (some ⟨b,0,none⟩) 1 1->K b H'):NewW H (.cells ⟨sgI i0 i1 i2 i3 i4 i5 i6 i7 none 0 0⟩ Zr) K:=
  h.new (k:= .row .segs 1 1) (fun b hb=>⟨rfl,Nat.le_refl _,fun i hi=>⟨_,rfl,Zbat,fun j hj=>by
      have:i=0:=by omega
      subst this;rw [Nat.zero_mul,Nat.zero_add]⟩⟩) fun b H' hb h1 x1 k1=>hK b _ H' h1 x1 k1 (.inr ⟨b,1,rfl,Zda,Nat.le_refl _⟩)
def OutS (B:Nat) (G:Gm) (H:Heap) (v:Value) (H':Heap):Prop:=∃a n c G',v= .slice a n c∧Sl G' .segs a n c∧n <= 1∧Ty B G' H'∧Ext G H G' H'
theorem Zbjr (h:Ty B G H):FnW Tryz.prog Zom ⟨[.agg ⟨sgI i0 i1 i2 i3 i4 i5 i6 i7 da dn dc⟩]⟩ H fun v H'=>OutS B G H v H'∧Keep Nil H H':=by refine Zcdp _ _ _ _ _ _ _ _ _ _ _ ?_;unfold Zbjs;refine newB fun q H1 hq b1 k1=>ld9x b1 (Zbrr.mono ?_);rintro _ H2 ⟨j0,j1,j2,j3,j4,j5,j6,j7,z,rfl,k2⟩;refine ⟨_,_,_,_,_,_,_,_,_,_,_,_,rfl,newB fun r H3 hr b3 k3=>st9x b3 fun H4 b4 k4=>?_⟩;have k02:=k1.trans k2;have k04:Keep Nil H H4:=(k02.trans k3).then k4 fun y hy=> .inr (hy▸k02.free hr);have h4:=h.keep k04;refine IfB.intro (fun e H5 hs=>⟨⟨none,0,0,G,rfl,.inl ⟨rfl,rfl,rfl⟩,by decide,h4.shut hs,(Ext.nil k04).shut hs⟩,Zk k04 hs⟩) fun e=>ld9x b4 (h4.one_seg (G0:=G) (H0:=H) fun b G' H5 h5 x5 k5 s5=>fun H6 hs=>⟨⟨_,1,1,G',rfl,s5,Nat.le_refl _,h5.shut hs,((Ext.nil k04).trans x5).shut hs⟩,Zk (k04.trans k5) hs⟩)
theorem Zbht (h:Ty B G H) (hc:G cb=some .conn):FnW Tryz.prog Zpw ⟨[.pointer (some ⟨cb,0,none⟩)]⟩ H fun v H'=>v= .tuple ⟨[]⟩∧Ty B G H'∧Ext G H G H':=by
  obtain ⟨st,f,t,first,ob,jp,c1,c2,c3,c4,now,due,hb,ho,hj,hs⟩:=h.conn hc
  refine Zckd cb ?_;unfold Zbqp;have j0: ∀x:Bool,Zuk cb x H fun v H1=>∀H2,Shut H H1 H2->v= .tuple ⟨[]⟩∧Ty B G H2∧Ext G H G H2:=by
    intro x;unfold Zuk;refine IfB.intro (fun e=>h.put hc hb (by simp [Zbx]) rfl (Nat.le_refl _) ⟨st,f,t,first,ob,jp,c1,c2,c3,c4,now, -1,rfl,ho,hj,hs⟩ fun H1 h1 x1 _ _=>fun H2 hs=>⟨rfl,h1.shut hs,x1.shut hs⟩) fun e=>⟨_,cellL hb 11 rfl,IfB.intro (fun e2=>?_) fun e2 H2 hs=>⟨rfl,h.shut hs,Ext.refl.shut hs⟩⟩
    refine ⟨[cb],Zcp hb.some,List.mem_singleton.2 rfl,_,cellL hb 10 rfl,_,cellL hb 4 rfl,NilP.intro _ rfl ((Zbza h ho).mono ?_)⟩;rintro _ _ ⟨z,rfl,rfl⟩;exact ⟨_,rfl,Zci hb.some (Keep.refl _ _),h.put hc hb (by simp [Zbx]) rfl (Nat.le_refl _) ⟨st,f,t,first,ob,jp,c1,c2,c3,c4,now,_,rfl,ho,hj,hs⟩ fun H1 h1 x1 _ _=>fun H2 hs=>⟨rfl,h1.shut hs,x1.shut hs⟩⟩
  refine ⟨_,cellL hb 0 rfl,IfB.intro (fun e H2 hs=>⟨rfl,h.shut hs,Ext.refl.shut hs⟩) fun e=>⟨_,cellL hb 0 rfl,IfB.intro (fun e=>j0 true) fun e=>(Zbzj h hc).mono ?_⟩⟩;rintro _ _ ⟨z,rfl,rfl⟩;exact ⟨_,rfl,j0 _⟩
theorem Zrp (h:Ty B G H) (hc:G cb=some .conn):FnW Tryz.prog Zjm ⟨[.pointer (some ⟨cb,0,none⟩)]⟩ H fun v H'=>v= .tuple ⟨[]⟩∧Ty B G H'∧Ext G H G H':=by
  obtain ⟨st,f,t,first,ob,jp,c1,c2,c3,c4,now,due,hb,ho,hj,hs⟩:=h.conn hc
  refine Zcea cb ?_;unfold Zbkk;refine h.put hc hb (by simp [Zbx]) rfl (Nat.le_refl _) ⟨st,f,t,first,ob,jp,c1,c2,c3,c4,now, -1,rfl,ho,hj,hs⟩ fun H1 h1 x1 b1 _=>⟨_,cellL b1 4 rfl,NilP.intro _ rfl ?_⟩
  obtain ⟨una,room,win,big,now',es,ev,any,timed,till,at_,bo⟩:=h1.outb ho;exact h1.put ho bo (by simp [Zim]) rfl (Nat.le_refl _) ⟨una,room,win,big,now',es,ev,any,timed,till,at_,rfl⟩ fun H2 h2 x2 _ _=>fun H3 hs=>⟨rfl,h2.shut hs,(x1.trans x2).shut hs⟩
theorem InOk.jp {st f t first:Int} {ob:Nat} {jp:Option Addr} {c1 c2 c3 c4:Bool} {now due:Int} (h:InOk H cb) (hb:Blk H cb Zhs ⟨Zbx st f t first ob jp c1 c2 c3 c4 now due⟩):jp≠none:=by obtain ⟨x,hx⟩:=h;rw [cellL hb 5 rfl] at hx;rintro rfl;cases hx
theorem Zbhw (h:Ty B G H) (hc:G cb=some .conn) (hi:InOk H cb):FnW Tryz.prog Zpm ⟨[.pointer (some ⟨cb,0,none⟩)]⟩ H fun v H'=>v= .tuple ⟨[]⟩∧Ty B G H'∧Ext G H G H':=by
  obtain ⟨st,f,t,first,ob,jp,c1,c2,c3,c4,now,due,hb,ho,hj,hs⟩:=h.conn hc
  have hjp:=hi.jp hb;refine Zcgi cb ?_;unfold Zbmh;exact ⟨_,cellL hb 10 rfl,h.put hc hb (by simp [Zbx]) rfl (Nat.le_refl _) ⟨9,f,t,first,ob,jp,c1,c2,c3,c4,now,due,rfl,ho,hj,.inr (.inr hjp)⟩ fun H1 h1 x1 b1 _=>h1.put hc b1 (by simp [Zbx]) rfl (Nat.le_refl _) ⟨9,f,t,first,ob,jp,c1,c2,c3,c4,now,_,rfl,ho,hj,.inr (.inr hjp)⟩ fun H2 h2 x2 _ _=>fun H3 hs=>⟨rfl,h2.shut hs,(x1.trans x2).shut hs⟩⟩
theorem Zbag (h:Ty B G H) (hc:G cb=some .conn):FnW Tryz.prog Zls ⟨[.pointer (some ⟨cb,0,none⟩)]⟩ H fun v H'=>v= .tuple ⟨[]⟩∧Ty B G H'∧Ext G H G H':=by
  obtain ⟨st,f,t,first,ob,jp,c1,c2,c3,c4,now,due,hb,ho,hj,hs⟩:=h.conn hc
  refine Zceq cb ?_;unfold Zblc;exact h.put hc hb (by simp [Zbx]) rfl (Nat.le_refl _) ⟨0,f,t,first,ob,jp,c1,c2,c3,c4,now,due,rfl,ho,hj,.inl rfl⟩ fun H1 h1 x1 b1 _=>h1.put hc b1 (by simp [Zbx]) rfl (Nat.le_refl _) ⟨0,f,t,first,ob,jp,c1,c2,c3,c4,now, -1,rfl,ho,hj,.inl rfl⟩ fun H2 h2 x2 _ _=>fun H3 hs=>⟨rfl,h2.shut hs,(x1.trans x2).shut hs⟩
theorem Zbze (h:Ty B G H) (hc:G cb=some .conn) (hg:i16 i7=true):FnW Tryz.prog Zmj ⟨[.pointer (some ⟨cb,0,none⟩),.agg ⟨sgI i0 i1 i2 i3 i4 i5 i6 i7 da dn dc⟩]⟩ H fun v H'=>v= .tuple ⟨[]⟩∧∃G',Ty B G' H'∧Ext G H G' H'∧InOk H' cb:=by
  refine Zbrz cb _ _ _ _ _ _ _ _ _ _ _ ?_;unfold Zbcw;refine newB fun q H1 hq b1 k1=>⟨_,cellL b1 2 rfl,(Zdu _ _).mono ?_⟩;rintro _ _ ⟨z,rfl,rfl⟩;have h1:=h.keep k1;refine ⟨_,rfl,(Zbqe h1 _).mono ?_⟩;rintro _ H3 ⟨jb,rfl,hjb,h3,x3⟩;have hc3:=x3.le.cn cb hc;obtain ⟨b3,g3⟩:=x3.blk b1 (h.free hq);obtain ⟨st,f,t,first,ob,jp,c1,c2,c3,c4,now,due,hb,ho,hj,hs⟩:=h3.conn hc3
  refine ⟨_,_,rfl,h3.put hc3 hb (by simp [Zbx]) rfl (Nat.le_refl _) ⟨st,f,t,first,ob,some ⟨jb,0,none⟩,c1,c2,c3,c4,now,due,rfl,ho,fun x hx=>⟨jb,(by cases hx;rfl),Zda⟩,.inr (.inr (by simp))⟩ fun H4 h4 x4 b4 _=>?_⟩
  obtain ⟨s4,_⟩:=x4.blk b3 g3;refine ⟨[q],Zcp s4.some,_,cellL b4 3 rfl,List.mem_singleton.2 rfl,ld9x s4 ((Zdu _ _).mono ?_)⟩;rintro _ _ ⟨z,rfl,rfl⟩;refine ⟨_,rfl,Zci s4.some (Keep.refl _ _),(Zbkl hg).mono ?_⟩;rintro _ H5 ⟨m,rfl,m1,m2,k5⟩;refine ⟨_,rfl,Zci s4.some k5,(Zbpp (h4.keep k5) _ m1 m2).mono ?_⟩;rintro _ H6 ⟨o2,rfl,ho2,h6,x6,k6⟩;have hc6:=x6.le.cn cb hc3;have b6:=(k5.trans k6).blk b4 id;refine ⟨_,_,rfl,Zci s4.some (k5.trans k6),h6.put hc6 b6 (by simp [Zbx]) rfl (Nat.le_refl _) ⟨st,f,t,first,o2,some ⟨jb,0,none⟩,c1,c2,c3,c4,now,due,rfl,Zda,fun x hx=>⟨jb,(by cases hx;rfl),x6.le.jo jb Zda⟩,.inr (.inr (by simp))⟩ fun H7 h7 x7 b7 _=>fun H8 hs=>⟨rfl,_,h7.shut hs,((((((Ext.nil k1).trans x3).trans x4).trans (Ext.nil k5)).trans x6).trans x7).shut hs,⟨_,cellL (Zcb b7 hs) 5 rfl⟩⟩⟩
theorem Zbhu (h:Ty B G H) (hc:G cb=some .conn):FnW Tryz.prog Zpr ⟨[.pointer (some ⟨cb,0,none⟩)]⟩ H fun v H'=>OutS B G H v H':=by
  refine Zcjn cb ?_;unfold Zbpy;refine h.new (k:= .row .segs 0 0) (fun b hb=>Zqj) fun q H1 hq h1 x1 k1=>?_;have hc1:=x1.le.cn cb hc;obtain ⟨st,f,t,first,ob,jp,c1,c2,c3,c4,now,due,hb,ho,hj,hs⟩:=h1.conn hc1
  have j2: ∀(H2:Heap),Ty B (gset G q (.row .segs 0 0)) H2->Ext G H (gset G q (.row .segs 0 0)) H2->Zla cb (some ⟨q,0,none⟩) 0 0 (fun x' H'=>∃k'<0,x'=(((some ⟨q,0,none⟩,0,0):Option Addr×Nat×Nat),((0:Int),()))∧H'=H1) H2 fun v H1=>∀H2,Shut H H1 H2->OutS B G H v H2:=by
    intro H2 h2 x2;unfold Zla;obtain ⟨st,f,t,first,ob,jp,c1,c2,c3,c4,now,due,hb,ho,hj,hs⟩:=h2.conn hc1
    obtain ⟨una,room,win,big,now',es,ev,any,timed,till,at_,bo⟩:=h2.outb ho;have j3: ∀z:Bool,Zix cb (some ⟨q,0,none⟩) 0 0 (fun x' H'=>∃k'<0,x'=(((some ⟨q,0,none⟩,0,0):Option Addr×Nat×Nat),((0:Int),()))∧H'=H1) z H2 fun v H1=>∀H2,Shut H H1 H2->OutS B G H v H2:=by
      intro z;unfold Zix;refine IfB.intro (fun e=>(Zbzh h2 hc1).mono ?_) fun e H3 hs=>⟨_,_,_,_,rfl,Zir,by decide,h2.shut hs,x2.shut hs⟩
      rintro _ H3 ⟨⟨j0,j1,j2,j3,j4,j5,j6,j7,rfl⟩,k3⟩;refine ⟨_,_,_,_,_,_,_,_,_,_,_,rfl,newB fun r H4 hr b4 k4=>?_⟩;have h4:=(h2.keep k3).keep k4;refine h4.push (r:= .segs) Zbje Zir Zbat b4 (by decide) fun a' c' G5 H5 h5 x5 s5=>⟨_,_,_,rfl,?_⟩
      have hc5:=x5.le.cn cb hc1;obtain ⟨st,f,t,first,ob,jp,c1,c2,c3,c4,now,due,hb,ho,hj,hs⟩:=h5.conn hc5
      exact h5.put hc5 hb (by simp [Zbx]) rfl (Nat.le_refl _) ⟨st,f,t,first,ob,jp,c1,true,c3,c4,now,due,rfl,ho,hj,hs⟩ fun H6 h6 x6 _ _=>fun H7 hs=>⟨_,_,_,G5,rfl,s5,Nat.le_refl _,h6.shut hs,((((x2.trans (Ext.nil k3)).trans (Ext.nil k4)).trans x5).trans x6).shut hs⟩
    exact ⟨_,cellL hb 6 rfl,IfB.intro (fun e=>⟨_,cellL hb 7 rfl,IfB.intro (fun e=>⟨_,cellL hb 4 rfl,NilP.intro _ rfl ⟨_,cellL bo 2 rfl,_,cellL hb 4 rfl,NilP.intro _ rfl ⟨_,_,_,cellL bo 1 rfl,j3 _⟩⟩⟩) fun e=>j3 _⟩) fun e=>j3 _⟩
  have j0: ∀z:Bool,Ziw cb q z H1 fun v H1=>∀H2,Shut H H1 H2->OutS B G H v H2:=by
    intro z;unfold Ziw Zbpw;refine IfB.intro (fun e H3 hs=>⟨_,_,_,_,rfl,Zir,by decide,h1.shut hs,x1.shut hs⟩) fun e=>Zbo (fun m s Hx=>s=(((some ⟨q,0,none⟩,0,0):Option Addr×Nat×Nat),((0:Int),()))∧Hx=H1) 0 ⟨rfl,rfl⟩ ?_
    rintro m s _ ⟨rfl,rfl⟩ g;unfold Zbpx;refine ifT (decide_eq_true (by show (0:Int) <= 4096;decide)) ⟨_,cellL hb 4 rfl,_,cellL hb 10 rfl,(Zbzb h1 ho _).mono ?_⟩
    rintro _ H2 ⟨z,e,rfl,he,h2,x2⟩;have:=j2 H2 h2 (x1.trans x2);unfold Zla Zix at this;exact ⟨_,_,_,_,_,rfl,ifT (bne_iff_ne.2 he) (by unfold Zla Zix;exact this)⟩
  exact ⟨_,cellL hb 0 rfl,IfB.intro (fun e=>⟨_,cellL hb 0 rfl,IfB.intro (fun e=>⟨_,cellL hb 0 rfl,IfB.intro (fun e=>⟨_,cellL hb 0 rfl,IfB.intro (fun e=>⟨_,cellL hb 0 rfl,j0 _⟩) fun e=>j0 _⟩) fun e=>j0 _⟩) fun e=>j0 _⟩) fun e=>j0 _⟩
end
end Go.Proofs.YtaljkjokbdpdoaaGreat
end
section
set_option maxRecDepth 100000
namespace Go.Proofs.YtaljkjokbdpdoaaGreat
open Go.Sh Go.Pc Go.Conn
section
variable {B:Nat} {G:Gm} {H H':Heap} {ob jb cb:Nat} {i0 i1 i2 i3 i4 i5 i6 i7:Int} {da:Option Addr} {dn dc:Nat}
theorem Zkb {bs:List Nat} (h: ∀b∈bs,H b≠none): ∀y∈bs,∃o,H y=some o:=fun y hy=>by
  cases e:H y with
  | none=>exact absurd e (h y hy)
  | some o=>exact ⟨o,rfl⟩
theorem Zgh {bs:List Nat} {Z:Nat->Prop} (h: ∀b∈bs,H b≠none∧¬Z b) (k:Keep Z H H'):Zb bs H H':=fun y hy=>by
  obtain ⟨h1,h2⟩:=h y hy;cases e:H y with
  | none=>exact absurd e h1
  | some o=>exact ⟨⟨o,rfl⟩,by rw [← e];exact k.same y h2 h1⟩
theorem Zeu {p:Nat->Prop} {x y:Nat} (hx:p x) (hy:p y): ∀b∈[x,y],p b:=fun b hb=>by rcases List.mem_cons.1 hb with rfl | hb;exact hx;rw [List.mem_singleton.1 hb];exact hy
theorem Ty.conn_in (h:Ty B G H) (hc:G cb=some .conn) (hi:InOk H cb): ∃st from_ to first ob jb b1 b2 b3 b4 now due,Blk H cb Zhs ⟨Zbx st from_ to first ob (some ⟨jb,0,none⟩) b1 b2 b3 b4 now due⟩∧G ob=some .out∧G jb=some .joint:=by
  obtain ⟨st,f,t,first,ob,jp,b1,b2,b3,b4,now,due,hb,ho,hj,hs⟩:=h.conn hc
  cases jp with
  | none=>exact absurd rfl (hi.jp hb)
  | some x=>
    obtain ⟨jb,rfl,hjb⟩:=hj x rfl;exact ⟨st,f,t,first,ob,jb,b1,b2,b3,b4,now,due,hb,ho,hjb⟩
theorem Zqn {st f t first:Int} {ob:Nat} {jp:Option Addr} {c1 c2 c3 c4:Bool} {now due:Int} (hb:Blk H cb Zhs ⟨Zbx st f t first ob jp c1 c2 c3 c4 now due⟩) (h:jp≠none):InOk H cb:=by
  cases jp with
  | none=>exact absurd rfl h
  | some x=>exact ⟨x,cellL hb 5 rfl⟩
theorem Zbzd (h:Ty B G H) (hc:G cb=some .conn):FnW Tryz.prog Zyk ⟨[.pointer (some ⟨cb,0,none⟩),.agg ⟨sgI i0 i1 i2 i3 i4 i5 i6 i7 da dn dc⟩]⟩ H fun v H'=>∃z:Bool,v= .bool z∧Ty B G H'∧Ext G H G H':=by
  refine Zckw cb _ _ _ _ _ _ _ _ _ _ _ ?_;unfold Zbro;refine newB fun q H1 hq b1 k1=>?_;have h1:=h.keep k1;have x1:Ext G H G H1:=Ext.nil k1;have gq:G q=none:=h.free hq;have seg: ∀{Hx:Heap},Ext G H G Hx->H1 q=Hx q->Blk Hx q Zr ⟨sgI i0 i1 i2 i3 i4 i5 i6 i7 da dn dc⟩:=fun _ e=>b1.same e.symm;have fin: ∀(z:Bool) (Hx:Heap),Ty B G Hx->Ext G H G Hx->∀H2,Shut H Hx H2->∃y:Bool,(Value.bool z)= .bool y∧Ty B G H2∧Ext G H G H2:=fun z Hx hx xx H2 hs=>⟨_,rfl,hx.shut hs,xx.shut hs⟩;have qs: ∀{Ha Hb:Heap},Ext G Ha G Hb->Ha q≠none->Hb q=Ha q:=fun x hl=>x.kp.same q (fun e=>e gq) hl;have j0: ∀Hx:Heap,Ty B G Hx->Ext G H1 G Hx->Zgq cb q Hx fun v H1=>∀H2,Shut H H1 H2->∃y:Bool,v= .bool y∧Ty B G H2∧Ext G H G H2:=by
    intro Hx hx xx;have xt:=x1.trans xx;have bq:=b1.same (qs xx b1.some);unfold Zgq Zbrn;obtain ⟨st,f,t,first,ob,jp,c1,c2,c3,c4,now,due,hb,ho,hj,hs⟩:=hx.conn hc
    obtain ⟨una,room,win,big,now',es,ev,any,timed,till,at_,bo⟩:=hx.outb ho;exact ⟨_,cellL bq 5 rfl,IfB.intro (fun e=>⟨_,cellL hb 4 rfl,NilP.intro _ rfl (hx.put ho bo (by simp [Zim]) rfl (Nat.le_refl _) ⟨una,room,win,big,now',es,ev,any,timed,till,at_,rfl⟩ fun H2 h2 x2 _ _=>fin _ H2 h2 (xt.trans x2))⟩) fun e=>fin _ Hx hx xt⟩
  have j4: ∀Hx:Heap,Ty B G Hx->Ext G H1 G Hx->Zuu cb q Hx fun v H1=>∀H2,Shut H H1 H2->∃y:Bool,v= .bool y∧Ty B G H2∧Ext G H G H2:=by
    intro Hx hx xx;unfold Zuu;obtain ⟨st,f,t,first,ob,jp,c1,c2,c3,c4,now,due,hb,ho,hj,hs⟩:=hx.conn hc
    refine ⟨_,cellL hb 8 rfl,IfB.intro (fun e=>hx.put hc hb (by simp [Zbx]) rfl (Nat.le_refl _) ⟨st,f,t,first,ob,jp,c1,c2,true,c4,now,due,rfl,ho,hj,hs⟩ fun H2 h2 x2 b2 _=>?_) fun e=>j0 Hx hx xx⟩
    refine ⟨_,cellL b2 0 rfl,IfB.intro (fun e=>?_) fun e=>⟨_,cellL b2 0 rfl,IfB.intro (fun e2=>?_) fun e2=>⟨_,cellL b2 0 rfl,IfB.intro (fun e3=>(Zbag h2 hc).mono ?_) fun e3=>j0 H2 h2 (xx.trans x2)⟩⟩⟩;have e:st=4:=eq_of_beq e;exact h2.put hc b2 (by simp [Zbx]) rfl (Nat.le_refl _) ⟨5,f,t,first,ob,jp,c1,c2,true,c4,now,due,rfl,ho,hj,.inr (.inr (by rcases hs with hs | hs | hs;omega;omega;exact hs))⟩ fun H3 h3 x3 _ _=>j0 H3 h3 ((xx.trans x2).trans x3)
    . have e2:st=7:=eq_of_beq e2;refine (Zbhw h2 hc (Zqn (jp:=jp) b2 (by rcases hs with hs | hs | hs;omega;omega;exact hs))).mono ?_
      rintro _ H3 ⟨rfl,h3,x3⟩;exact ⟨rfl,j0 H3 h3 ((xx.trans x2).trans x3)⟩
    rintro _ H3 ⟨rfl,h3,x3⟩;exact ⟨rfl,j0 H3 h3 ((xx.trans x2).trans x3)⟩
  have j3: ∀(z:Bool) (Hx:Heap),Ty B G Hx->Ext G H1 G Hx->Zut cb q z Hx fun v H1=>∀H2,Shut H H1 H2->∃y:Bool,v= .bool y∧Ty B G H2∧Ext G H G H2:=by intro z Hx hx xx;unfold Zut;refine IfB.intro (fun e=>(Zrp hx hc).mono ?_) fun e=>j4 Hx hx xx;rintro _ H3 ⟨rfl,h3,x3⟩;exact ⟨rfl,j4 H3 h3 (xx.trans x3)⟩
  have j2: ∀z:Bool,Zus cb q z H1 fun v H1=>∀H2,Shut H H1 H2->∃y:Bool,v= .bool y∧Ty B G H2∧Ext G H G H2:=by
    intro z;unfold Zus;obtain ⟨st,f,t,first,ob,jp,c1,c2,c3,c4,now,due,hb,ho,hj,hs⟩:=h1.conn hc
    obtain ⟨una,room,win,big,now',es,ev,any,timed,till,at_,bo⟩:=h1.outb ho;have hco: ¬cb=ob:=fun e=>by rw [e,ho] at hc;cases hc
    have hqo: ¬q=ob:=fun e=>by rw [e,ho] at gq;cases gq
    refine IfB.intro (fun e=>⟨[cb,q],Zkb (Zeu hb.some b1.some),List.mem_cons_self,_,cellL hb 4 rfl,List.mem_cons_self,_,cellL hb 10 rfl,_,cellL hb 4 rfl,List.mem_cons_of_mem _ (List.mem_singleton.2 rfl),_,cellL b1 5 rfl,(Zrn h1 ho).mono ?_⟩) fun e=>⟨_,cellL b1 3 rfl,_,cellL hb 4 rfl,NilP.intro _ rfl ⟨_,cellL bo 0 rfl,(Zcew _ _).mono ?_⟩⟩
    . rintro _ _ ⟨z,rfl,rfl⟩;refine ⟨_,rfl,Zgh (Z:=Nil) (Zeu ⟨hb.some,id⟩ ⟨b1.some,id⟩) (Keep.refl _ _),(Zrm h1 ho _ _ _).mono ?_⟩;rintro _ H3 ⟨z2,e2,rfl,h3,x3,k3⟩;obtain ⟨st,f,t,first,ob',jp,c1,c2,c3,c4,now,due,hb3,_⟩:=h3.conn hc
      exact ⟨_,_,rfl,Zgh (Zeu ⟨hb.some,hco⟩ ⟨b1.some,hqo⟩) k3,IfB.intro (fun e=>j3 true H3 h3 x3) fun e=>⟨_,cellL hb3 8 rfl,j3 _ H3 h3 x3⟩⟩
    rintro _ _ ⟨z,rfl,rfl⟩;exact ⟨_,rfl,IfB.intro (fun e=>fin _ H1 h1 x1) fun e=>fin _ H1 h1 x1⟩
  obtain ⟨st,f,t,first,ob,jp,c1,c2,c3,c4,now,due,hb,ho,hj,hs⟩:=h1.conn hc
  obtain ⟨una,room,win,big,now',es,ev,any,timed,till,at_,bo⟩:=h1.outb ho;refine ⟨[cb,ob],Zkb (Zeu hb.some bo.some),_,cellL hb 4 rfl,NilP.intro _ rfl ⟨_,cellL bo 0 rfl,_,cellL b1 3 rfl,List.mem_cons_self,_,cellL hb 4 rfl,NilP.intro _ rfl ⟨List.mem_cons_of_mem _ (List.mem_singleton.2 rfl),_,cellL bo 2 rfl,(Znk _ _).mono ?_⟩⟩⟩;rintro _ _ ⟨z,rfl,_,_,rfl⟩;refine ⟨_,rfl,Zgh (Z:=Nil) (Zeu ⟨hb.some,id⟩ ⟨bo.some,id⟩) (Keep.refl _ _),IfB.intro (fun e=>⟨_,cellL hb 4 rfl,_,cellL hb 10 rfl,_,cellL b1 3 rfl,_,cellL b1 5 rfl,(Zrm h1 ho _ _ _).mono ?_⟩) fun e=>⟨[q],Zcp b1.some,_,cellL hb 7 rfl,IfB.intro (fun e=>⟨List.mem_singleton.2 rfl,_,cellL b1 3 rfl,(Zbhr h1 hc).mono ?_⟩) fun e=>j2 false⟩⟩;rintro _ H3 ⟨z2,e2,rfl,h3,x3,k3⟩;refine ⟨_,_,rfl,IfB.intro (fun e=>(Zrp h3 hc).mono ?_) fun e=>j0 H3 h3 x3⟩;rintro _ H4 ⟨rfl,h4,x4⟩;exact ⟨rfl,j0 H4 h4 (x3.trans x4)⟩;rintro _ _ ⟨z,rfl,rfl⟩;exact ⟨_,rfl,Zci b1.some (Keep.refl _ _),j2 _⟩
theorem Zbzg (h:Ty B G H) (hB:B <= 800000) (hc:G cb=some .conn) {l:List Int} (ro:Ro G H da dn l) (hl:AllB l):FnW Tryz.prog Zxw ⟨[.pointer (some ⟨cb,0,none⟩),.agg ⟨sgI i0 i1 i2 i3 i4 i5 i6 i7 da dn dc⟩]⟩ H fun v H'=>v= .tuple ⟨[]⟩∧∃G',Ty (B+dn+4100) G' H'∧Ext G H G' H':=by
  refine Zcix cb _ _ _ _ _ _ _ _ _ _ _ ?_;unfold Zbpa;refine newB fun q H1 hq b1 k1=>?_;have h1:=h.keep k1;have x1:Ext G H G H1:=Ext.nil k1;have gq:G q=none:=h.free hq;have done: ∀(Hx:Heap) (Gx:Gm),Ty (B+dn+4100) Gx Hx->Ext G H Gx Hx->∀H2,Shut H Hx H2->(Value.tuple ⟨[]⟩)= .tuple ⟨[]⟩∧∃G',Ty (B+dn+4100) G' H2∧Ext G H G' H2:=fun Hx Gx hx xx H2 hs=>⟨rfl,Gx,hx.shut hs,xx.shut hs⟩;obtain ⟨st,f,t,first,ob,jp,c1,c2,c3,c4,now,due,hb,ho,hj,hs⟩:=h1.conn hc
  have j1: ∀(z:Bool) (Hx:Heap) (Gx:Gm),Ty (B+dn+4100) Gx Hx->Ext G H Gx Hx->InOk Hx cb->Ztq cb z Hx fun v H1=>∀H2,Shut H H1 H2->v= .tuple ⟨[]⟩∧∃G',Ty (B+dn+4100) G' H2∧Ext G H G' H2:=by
    intro z Hx Gx hx xx hi;have hcx:=xx.le.cn cb hc;unfold Ztq;refine IfB.intro (fun e=>done Hx Gx hx xx) fun e=>?_;obtain ⟨st,f,t,first,ob,jp,c1,c2,c3,c4,now,due,hb,ho,hj,hs⟩:=hx.conn hcx
    have hjp:=hi.jp hb;refine hx.put hcx hb (by simp [Zbx]) rfl (Nat.le_refl _) ⟨st,f,t,first,ob,jp,c1,c2,c3,true,now,due,rfl,ho,hj,hs⟩ fun H2 h2 x2 b2 _=>⟨_,cellL b2 0 rfl,IfB.intro (fun e=>?_) fun e=>⟨_,cellL b2 0 rfl,IfB.intro (fun e=>?_) fun e=>(Zbhw h2 hcx (Zqn (jp:=jp) b2 hjp)).mono ?_⟩⟩
    exact h2.put hcx b2 (by simp [Zbx]) rfl (Nat.le_refl _) ⟨6,f,t,first,ob,jp,c1,c2,c3,true,now,due,rfl,ho,hj,.inr (.inr hjp)⟩ fun H3 h3 x3 _ _=>done H3 Gx h3 ((xx.trans x2).trans x3)
    exact h2.put hcx b2 (by simp [Zbx]) rfl (Nat.le_refl _) ⟨7,f,t,first,ob,jp,c1,c2,c3,true,now,due,rfl,ho,hj,.inr (.inr hjp)⟩ fun H3 h3 x3 _ _=>done H3 Gx h3 ((xx.trans x2).trans x3)
    rintro _ H3 ⟨rfl,h3,x3⟩;exact ⟨rfl,done H3 Gx h3 ((xx.trans x2).trans x3)⟩
  have j0: ∀z:Bool,(z=false->jp≠none)->Ztp cb q z H1 fun v H1=>∀H2,Shut H H1 H2->v= .tuple ⟨[]⟩∧∃G',Ty (B+dn+4100) G' H2∧Ext G H G' H2:=by
    intro z hz;unfold Ztp;refine IfB.intro (fun e=>done H1 G (h1.mono (by omega)) x1) fun e=>?_
    have hi1:InOk H1 cb:=Zqn hb (hz e);obtain ⟨st,f,t,first,ob,jb,c1,c2,c3,c4,now,due,hb,ho,hjb⟩:=h1.conn_in hc hi1
    refine ⟨_,cellL hb 5 rfl,_,cellL b1 2 rfl,_,_,_,cellL b1 8 rfl,(Zcld h1 hB hjb (ro.ext x1) hl).mono ?_⟩;rintro _ H3 ⟨z1,z2,G3,rfl,h3,x3⟩;have x03:=x1.trans x3;have hc3:=x3.le.cn cb hc;have hi3:=x3.inn cb hc hi1;obtain ⟨bq3,gq3⟩:=x3.blk b1 gq;obtain ⟨st,f,t,first,ob,jb3,c1,c2,c3,c4,now,due,hb3,ho3,hjb3⟩:=h3.conn_in hc3 hi3
    obtain ⟨next,ga,gn,gc,ha,hn',hc',bj3,_⟩:=h3.joint hjb3
    refine ⟨_,_,rfl,[cb,jb3],Zkb (Zeu hb3.some bj3.some),ld9x bq3 ((Zdv (by decide)).mono ?_)⟩
    rintro _ H4 ⟨rfl,k4⟩;have kk: ∀{Hx:Heap},Keep Nil H3 Hx->Zb [cb,jb3] H3 Hx:=fun k=>Zgh (Zeu ⟨hb3.some,id⟩ ⟨bj3.some,id⟩) k;have h4:=h3.keep k4;have x04:=x03.trans (Ext.nil k4);have hi4:InOk H4 cb:=(Ext.nil k4).inn cb hc3 hi3;have bq4:=k4.blk bq3 id;refine ⟨_,rfl,kk k4,IfB.intro (fun e=>j1 true H4 G3 h4 x04 hi4) fun e=>⟨_,cellL bq4 2 rfl,_,_,_,cellL bq4 8 rfl,List.mem_cons_self,_,cellL hb3 5 rfl,NilP.intro _ rfl ⟨List.mem_cons_of_mem _ (List.mem_singleton.2 rfl),_,cellL bj3 0 rfl,(Zdu _ _).mono ?_⟩⟩⟩;rintro _ _ ⟨z,rfl,rfl⟩;exact ⟨_,rfl,kk k4,j1 _ H4 G3 h4 x04 hi4⟩
  refine ⟨_,cellL hb 0 rfl,IfB.intro (fun e=>j0 true fun h=>by cases h) fun e=>⟨_,cellL hb 0 rfl,j0 _ fun e2=>?_⟩⟩
  have e:=of_decide_eq_false e;rcases hs with hs | hs | hs;omega;omega;exact hs
end
end Go.Proofs.YtaljkjokbdpdoaaGreat
end
