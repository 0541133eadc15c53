/-
 Plain data behind the model's values:kinds,data,what a cell says;abstract values and objects.
-/
import Derived.Test.YtlkdgfolbllngaaGreatDoorEB
set_option linter.all false
section
namespace Go.Sh
def Zo:Nat:=9223372036854775807
inductive Kd where
 | int (k:IntKind) | bool | str | lst (ks:List Kd)
abbrev Zkz:IntKind->Type
 | .u8=>UInt8
 | .u16=>UInt16
 | .u32=>UInt32
 | .u64=>UInt64
 | _=>Int
def PrT (A:Type) (ks:List Kd) (B:Type):Type:=match ks with
 | []=>A
 | _::_=>A×B
mutual
def El:Kd->Type
 | .int k=>Zkz k
 | .bool=>Bool
 | .str=>List UInt8
 | .lst ks=>List (Tp ks)
def Tp:List Kd->Type
 | []=>Unit
 | k::ks=>PrT (El k) ks (Tp ks)
end
@[reducible] def asL {ks:List Kd} (xs:El (.lst ks)):List (Tp ks):=xs
def hdT {k:Kd}:(ks:List Kd)->Tp (k::ks)->El k
 | [],x=>x
 | _::_,x=>x.1
def tlT {k:Kd}:(ks:List Kd)->Tp (k::ks)->Tp ks
 | [],_=>()
 | _::_,x=>x.2
def mkT {k:Kd}:(ks:List Kd)->El k->Tp ks->Tp (k::ks)
 | [],a,_=>a
 | _::_,a,b=>(a,b)
theorem Zbcx {k:Kd}: ∀(ks:List Kd) (a:El k) (b:Tp ks),hdT ks (mkT ks a b)=a
 | [],_,_=>rfl
 | _::_,_,_=>rfl
theorem Zbfz {k:Kd}: ∀(ks:List Kd) (a:El k) (b:Tp ks),tlT ks (mkT ks a b)=b
 | [],_,_=>rfl
 | _::_,_,_=>rfl
def toI:(k:IntKind)->Zkz k->Int
 | .u8,x=>(x.toNat:Int)
 | .u16,x=>(x.toNat:Int)
 | .u32,x=>(x.toNat:Int)
 | .u64,x=>(x.toNat:Int)
 | .i8,x=>x
 | .i16,x=>x
 | .i32,x=>x
 | .i64,x=>x
def ofI:(k:IntKind)->Int->Zkz k
 | .u8,n=>UInt8.ofNat n.toNat
 | .u16,n=>UInt16.ofNat n.toNat
 | .u32,n=>UInt32.ofNat n.toNat
 | .u64,n=>UInt64.ofNat n.toNat
 | .i8,n=>n
 | .i16,n=>n
 | .i32,n=>n
 | .i64,n=>n
def loI:IntKind->Int
 | .i8=> -128
 | .i16=> -32768
 | .i32=> -2147483648
 | .i64=> -9223372036854775808
 | _=>0
def hiI:IntKind->Int
 | .i8=>127
 | .i16=>32767
 | .i32=>2147483647
 | .i64=>9223372036854775807
 | .u8=>255
 | .u16=>65535
 | .u32=>4294967295
 | .u64=>18446744073709551615
def InR (k:IntKind) (n:Int):Prop:=loI k <= n∧n <= hiI k
theorem Zbga {k:IntKind} {n:Int} (h:InR k n):toI k (ofI k n)=n:=by obtain ⟨h1,h2⟩:=h;cases k<;>simp only [loI,hiI] at h1 h2<;>simp only [toI,ofI];simp only [UInt8.toNat_ofNat'];omega;simp only [UInt16.toNat_ofNat'];omega;simp only [UInt32.toNat_ofNat'];omega;simp only [UInt64.toNat_ofNat'];omega
theorem Zhc (k:IntKind) (n:Int):InR k (k.wrap n):=by unfold InR IntKind.wrap;cases k<;>simp [loI,hiI,IntKind.bits,IntKind.signed]<;>(try split)<;>omega
def WfI:(k:IntKind)->Zkz k->Prop
 | .i8,x=>InR .i8 x
 | .i16,x=>InR .i16 x
 | .i32,x=>InR .i32 x
 | .i64,x=>InR .i64 x
 | _,_=>True
theorem WfI.inR: ∀{k:IntKind} {x:Zkz k},WfI k x->InR k (toI k x)
 | .i8,_,h=>h
 | .i16,_,h=>h
 | .i32,_,h=>h
 | .i64,_,h=>h
 | .u8,x,_=>⟨by simp [loI,toI],by have:=UInt8.toNat_lt x;simp only [hiI,toI];omega⟩
 | .u16,x,_=>⟨by simp [loI,toI],by have:=UInt16.toNat_lt x;simp only [hiI,toI];omega⟩
 | .u32,x,_=>⟨by simp [loI,toI],by have:=UInt32.toNat_lt x;simp only [hiI,toI];omega⟩
 | .u64,x,_=>⟨by simp [loI,toI],by have:=UInt64.toNat_lt x;simp only [hiI,toI];omega⟩
theorem WfI.of: ∀{k:IntKind} {x:Zkz k},InR k (toI k x)->WfI k x
 | .i8,_,h=>h
 | .i16,_,h=>h
 | .i32,_,h=>h
 | .i64,_,h=>h
 | .u8,_,_=>trivial
 | .u16,_,_=>trivial
 | .u32,_,_=>trivial
 | .u64,_,_=>trivial
theorem WfI.ofI {k:IntKind} {n:Int} (h:InR k n):WfI k (ofI k n):=WfI.of (by rw [Zbga h];exact h)
mutual
def WfE:(k:Kd)->El k->Prop
 | .int k,x=>WfI k x
 | .bool,_=>True
 | .str,s=>s.length <= Zo
 | .lst ks,xs=>(asL xs).length <= Zo∧∀x,x∈asL xs->WfT ks x
def WfT:(ks:List Kd)->Tp ks->Prop
 | [],_=>True
 | k::ks,x=>WfE k (hdT ks x)∧WfT ks (tlT ks x)
end
mutual
def Kd.dec:(a b:Kd)->Decidable (a=b)
 | .int k,.int k'=>match decEq k k' with
  | isTrue h=>isTrue (by rw [h])
  | isFalse h=>isFalse fun e=>h (by cases e;rfl)
 | .bool,.bool=>isTrue rfl
 | .str,.str=>isTrue rfl
 | .lst ks,.lst ks'=>match Kd.decs ks ks' with
  | isTrue h=>isTrue (by rw [h])
  | isFalse h=>isFalse fun e=>h (by cases e;rfl)
 | .int _,.bool=>isFalse (by intro h;cases h)
 | .int _,.str=>isFalse (by intro h;cases h)
 | .int _,.lst _=>isFalse (by intro h;cases h)
 | .bool,.int _=>isFalse (by intro h;cases h)
 | .bool,.str=>isFalse (by intro h;cases h)
 | .bool,.lst _=>isFalse (by intro h;cases h)
 | .str,.int _=>isFalse (by intro h;cases h)
 | .str,.bool=>isFalse (by intro h;cases h)
 | .str,.lst _=>isFalse (by intro h;cases h)
 | .lst _,.int _=>isFalse (by intro h;cases h)
 | .lst _,.bool=>isFalse (by intro h;cases h)
 | .lst _,.str=>isFalse (by intro h;cases h)
def Kd.decs:(a b:List Kd)->Decidable (a=b)
 | [],[]=>isTrue rfl
 | [],_::_=>isFalse (by intro h;cases h)
 | _::_,[]=>isFalse (by intro h;cases h)
 | k::ks,k'::ks'=>match Kd.dec k k' with
  | isFalse h=>isFalse fun e=>h (by cases e;rfl)
  | isTrue h=>match Kd.decs ks ks' with
   | isFalse h2=>isFalse fun e=>h2 (by cases e;rfl)
   | isTrue h2=>isTrue (by rw [h,h2])
end
def Zdl {ks ks':List Kd} (h:ks=ks') (xs:List (Tp ks)):List (Tp ks'):=h▸xs
inductive AV where
 | undef
 | int (k:IntKind) (n:Int)
 | bool (b:Bool)
 | str (s:List UInt8)
 | lst (ks:List Kd) (xs:List (Tp ks))
 | nils
 | nilp
 | ptr (id off:Nat)
 | row (id:Nat)
 | elm (id sz i off:Nat)
 | rdp (cs:List AV)
 | osl (id off len cap:Nat)
 | arr (id:Nat)
 | arv (ks:List Kd) (xs:List (Tp ks))
 | err (isNil:Bool)
 | fn (f:FuncId) (caps:List AV)
 | raw (v:Value)
 | agg (cs:List AV)
 | tup (vs:List AV)
inductive AObj where
 | obj (T:TypeId) (ro:Bool) (cs:List AV)
 | row (T:TypeId) (ro:Bool) (ks:List Kd) (xs:List (Tp ks))
 | frz (ks:List Kd) (xs:List (Tp ks))
 | gone
structure Gh where
 Z:Nat->Prop
 B:Nat->Nat
 V:Nat->Value
mutual
def Zh (Z:Nat->Prop) (H:Heap):(k:Kd)->El k->Value->Prop
 | .int k,x,v=>v= .int k (toI k x)∧WfI k x
 | .bool,b,v=>v= .bool b
 | .str,s,v=>v= .string (bstr s)∧s.length <= Zo
 | .lst ks,xs,v=>∃a n c,v= .slice a n c∧(asL xs).length=n∧n <= c∧c <= Zo∧
   (0<n->∃b o,a=some ⟨b,o,none⟩∧Z b∧∃cs T fr,H b=some (.cells cs T fr)∧∀i x,(asL xs)[i]? =some x->Zc Z H ks x (fun j=>cs[o+i*ks.length+j]?))
def Zc (Z:Nat->Prop) (H:Heap):(ks:List Kd)->Tp ks->(Nat->Option Value)->Prop
 | [],_,_=>True
 | k::ks,x,f=>(∃v,f 0=some v∧Zh Z H k (hdT ks x) v)∧Zc Z H ks (tlT ks x) (fun j=>f (j+1))
end
mutual
def SimV (g:Gh) (H:Heap) (N:Nat):AV->Value->Prop
 | .undef,_=>True
 | .int k n,v=>v= .int k n∧InR k n
 | .bool b,v=>v= .bool b
 | .str s,v=>v= .string (bstr s)∧s.length <= Zo
 | .lst ks xs,v=>Zh g.Z H (.lst ks) xs v
 | .nils,v=>v= .slice none 0 0
 | .nilp,v=>v= .pointer none
 | .ptr id off,v=>id<N∧v= .pointer (some ⟨g.B id,off,none⟩)
 | .row id,v=>id<N∧v=g.V id∧∃a n c,v= .slice a n c
 | .elm id sz i off,v=>id<N∧(∃b o n c,g.V id= .slice (some ⟨b,o,none⟩) n c∧v= .pointer (some ⟨b,o+i*sz+off,none⟩))
 | .rdp cs,v=>∃b o vs,v= .pointer (some ⟨b,o,none⟩)∧g.Z b∧SimL g H N cs vs∧∀j,j<vs.length->H.cell ⟨b,o+j,none⟩=vs[j]?
 | .osl id off len cap,v=>id<N∧v= .slice (some ⟨g.B id,off,none⟩) len cap
 | .arr id,v=>id<N∧∃b n c,g.V id= .slice (some ⟨b,0,none⟩) n c∧v= .pointer (some ⟨b,0,none⟩)
 | .arv ks xs,v=>∃vs:List Value,v= .agg ⟨vs⟩∧vs.length=xs.length*ks.length∧∀i x,xs[i]? =some x->Zc g.Z H ks x (fun j=>vs[i*ks.length+j]?)
 | .err b,v=>(match b with | true=>v= .nilIface | false=>∃t u,v= .iface t u)
 | .fn f caps,v=>∃vs,v= .func (.func f) #[] ⟨vs⟩∧SimL g H N caps vs
 | .raw u,v=>v=u
 | .agg cs,v=>∃vs,v= .agg ⟨vs⟩∧SimL g H N cs vs
 | .tup cs,v=>∃vs,v= .tuple ⟨vs⟩∧SimL g H N cs vs
def SimL (g:Gh) (H:Heap) (N:Nat):List AV->List Value->Prop
 | [],[]=>True
 | a::as,v::vs=>SimV g H N a v∧SimL g H N as vs
 | _,_=>False
end
def lvE:(k:Kd)->El k->AV
 | .int k,x=> .int k (toI k x)
 | .bool,b=> .bool b
 | .str,s=> .str s
 | .lst ks,xs=> .lst ks xs
def lvT:(ks:List Kd)->Tp ks->List AV
 | [],_=>[]
 | k::ks,x=>lvE k (hdT ks x)::lvT ks (tlT ks x)
def unE:(k:Kd)->AV->Option (El k)
 | .int k,.int k' n=>match decide (k'=k) with
  | true=>some (ofI k n)
  | false=>none
 | .bool,.bool b=>some b
 | .str,.str s=>some s
 | .lst ks,.lst ks' xs=>match Kd.decs ks' ks with
  | isTrue h=>some (Zdl h xs)
  | isFalse _=>none
 | .lst _,.nils=>some []
 | _,_=>none
def unT:(ks:List Kd)->List AV->Option (Tp ks)
 | [],[]=>some ()
 | [],_::_=>none
 | _::_,[]=>none
 | k::ks,a::as=>match unE k a,unT ks as with
  | some x,some y=>some (mkT ks x y)
  | _,_=>none
structure Ext (N:Nat) (g:Gh) (H:Heap) (g':Gh) (H':Heap):Prop where
 z: ∀b,g.Z b->g'.Z b∧H' b=H b
 b: ∀id,id<N->g'.B id=g.B id
 v: ∀id,id<N->g'.V id=g.V id
theorem Ext.refl (N:Nat) (g:Gh) (H:Heap):Ext N g H g H:=⟨fun _ h=>⟨h,rfl⟩,fun _ _=>rfl,fun _ _=>rfl⟩
theorem Ext.trans {N N':Nat} {g g' g'':Gh} {H H' H'':Heap} (hn:N <= N') (h:Ext N g H g' H') (k:Ext N' g' H' g'' H''):Ext N g H g'' H'':=
 ⟨fun b hb=>⟨(k.z b (h.z b hb).1).1,((k.z b (h.z b hb).1).2).trans (h.z b hb).2⟩,fun i hi=>(k.b i (by omega)).trans (h.b i hi),fun i hi=>(k.v i (by omega)).trans (h.v i hi)⟩
mutual
theorem Zh.ext {Z Z':Nat->Prop} {H H':Heap} (h: ∀b,Z b->Z' b∧H' b=H b): ∀(k:Kd) (x:El k) (v:Value),Zh Z H k x v->Zh Z' H' k x v
 | .int _,_,_,hx=>by simpa only [Zh] using hx
 | .bool,_,_,hx=>by simpa only [Zh] using hx
 | .str,_,_,hx=>by simpa only [Zh] using hx
 | .lst ks,xs,v,hx=>by simp only [Zh] at hx ⊢;obtain ⟨a,n,c,h1,h2,h3,h4,h5⟩:=hx;refine ⟨a,n,c,h1,h2,h3,h4,fun h0=>?_⟩;obtain ⟨b,o,ha,hz,cs,T,fr,hb,hc⟩:=h5 h0;exact ⟨b,o,ha,(h b hz).1,cs,T,fr,by rw [(h b hz).2];exact hb,fun i x hi=>Zc.ext h ks x _ (hc i x hi)⟩
theorem Zc.ext {Z Z':Nat->Prop} {H H':Heap} (h: ∀b,Z b->Z' b∧H' b=H b): ∀(ks:List Kd) (x:Tp ks) (f:Nat->Option Value),Zc Z H ks x f->Zc Z' H' ks x f
 | [],_,_,_=>by simp only [Zc]
 | k::ks,x,f,hx=>by simp only [Zc] at hx ⊢;obtain ⟨⟨v,h1,h2⟩,h3⟩:=hx;exact ⟨⟨v,h1,Zh.ext h k _ v h2⟩,Zc.ext h ks _ _ h3⟩
end
mutual
theorem SimV.ext {N N':Nat} (hn:N <= N') {g g':Gh} {H H':Heap} (h:Ext N g H g' H'): ∀(a:AV) (v:Value),SimV g H N a v->SimV g' H' N' a v
 | .undef,_,hx=>by simp only [SimV]
 | .int _ _,_,hx=>by simpa only [SimV] using hx
 | .bool _,_,hx=>by simpa only [SimV] using hx
 | .str _,_,hx=>by simpa only [SimV] using hx
 | .lst ks xs,v,hx=>by simp only [SimV] at hx ⊢;exact Zh.ext h.z _ _ _ hx
 | .nils,_,hx=>by simpa only [SimV] using hx
 | .nilp,_,hx=>by simpa only [SimV] using hx
 | .ptr id off,_,hx=>by simp only [SimV] at hx ⊢;exact ⟨by omega,by rw [h.b id hx.1];exact hx.2⟩
 | .row id,_,hx=>by simp only [SimV] at hx ⊢;exact ⟨by omega,by rw [h.v id hx.1];exact hx.2.1,hx.2.2⟩
 | .elm id sz i off,_,hx=>by simp only [SimV] at hx ⊢;obtain ⟨h1,b,o,n,c,h2,h3⟩:=hx;exact ⟨by omega,b,o,n,c,by rw [h.v id h1];exact h2,h3⟩
 | .rdp cs,_,hx=>by simp only [SimV] at hx ⊢;obtain ⟨b,o,vs,h1,h2,h3,h4⟩:=hx;refine ⟨b,o,vs,h1,(h.z b h2).1,SimL.ext hn h cs vs h3,fun j hj=>?_⟩;rw [← h4 j hj];simp only [Heap.cell,(h.z b h2).2]
 | .osl _ _ _ _,_,hx=>by simp only [SimV] at hx ⊢;exact ⟨by omega,by rw [h.b _ hx.1];exact hx.2⟩
 | .arr id,_,hx=>by simp only [SimV] at hx ⊢;obtain ⟨h1,b,n,c,h2,h3⟩:=hx;exact ⟨by omega,b,n,c,by rw [h.v id h1];exact h2,h3⟩
 | .arv ks xs,_,hx=>by simp only [SimV] at hx ⊢;obtain ⟨vs,h1,h2,h3⟩:=hx;exact ⟨vs,h1,h2,fun i x hi=>Zc.ext h.z _ _ _ (h3 i x hi)⟩
 | .err _,_,hx=>by simpa only [SimV] using hx
 | .fn f caps,_,hx=>by simp only [SimV] at hx ⊢;obtain ⟨vs,h1,h2⟩:=hx;exact ⟨vs,h1,SimL.ext hn h caps vs h2⟩
 | .raw _,_,hx=>by simpa only [SimV] using hx
 | .agg cs,_,hx=>by simp only [SimV] at hx ⊢;obtain ⟨vs,h1,h2⟩:=hx;exact ⟨vs,h1,SimL.ext hn h cs vs h2⟩
 | .tup cs,_,hx=>by simp only [SimV] at hx ⊢;obtain ⟨vs,h1,h2⟩:=hx;exact ⟨vs,h1,SimL.ext hn h cs vs h2⟩
theorem SimL.ext {N N':Nat} (hn:N <= N') {g g':Gh} {H H':Heap} (h:Ext N g H g' H'): ∀(a:List AV) (v:List Value),SimL g H N a v->SimL g' H' N' a v
 | [],[],_=>by simp only [SimL]
 | [],_::_,hx=>by simp only [SimL] at hx
 | _::_,[],hx=>by simp only [SimL] at hx
 | a::as,v::vs,hx=>by simp only [SimL] at hx ⊢;exact ⟨SimV.ext hn h a v hx.1,SimL.ext hn h as vs hx.2⟩
end
theorem SimL.len {g:Gh} {H:Heap} {N:Nat}: ∀{as:List AV} {vs:List Value},SimL g H N as vs->as.length=vs.length
 | [],[],_=>rfl
 | [],_::_,h=>by simp only [SimL] at h
 | _::_,[],h=>by simp only [SimL] at h
 | a::as,v::vs,h=>by simp only [SimL] at h;simp [SimL.len h.2]
theorem SimL.get {g:Gh} {H:Heap} {N:Nat}: ∀{as:List AV} {vs:List Value},SimL g H N as vs->∀{i:Nat} {a:AV},as[i]? =some a->∃v,vs[i]? =some v∧SimV g H N a v
 | [],[],_,i,a,hi=>by simp at hi
 | [],_::_,h,_,_,_=>by simp only [SimL] at h
 | _::_,[],h,_,_,_=>by simp only [SimL] at h
 | a::as,v::vs,h,0,b,hi=>by simp only [SimL] at h;simp at hi;subst hi;exact ⟨v,rfl,h.1⟩
 | a::as,v::vs,h,i+1,b,hi=>by simp only [SimL] at h;exact SimL.get h.2 (i:=i) (by simpa using hi)
theorem SimL.set {g:Gh} {H:Heap} {N:Nat}: ∀{as:List AV} {vs:List Value},SimL g H N as vs->∀{i:Nat} {a:AV} {v:Value},SimV g H N a v->SimL g H N (as.set i a) (vs.set i v)
 | [],[],h,i,a,v,_=>by simpa using h
 | [],_::_,h,_,_,_,_=>by simp only [SimL] at h
 | _::_,[],h,_,_,_,_=>by simp only [SimL] at h
 | a::as,v::vs,h,0,b,u,hb=>by simp only [SimL,List.set_cons_zero] at h ⊢;exact ⟨hb,h.2⟩
 | a::as,v::vs,h,i+1,b,u,hb=>by simp only [SimL,List.set_cons_succ] at h ⊢;exact ⟨h.1,SimL.set h.2 hb⟩
theorem SimL.drop {g:Gh} {H:Heap} {N:Nat}: ∀{as:List AV} {vs:List Value} (n:Nat),SimL g H N as vs->SimL g H N (as.drop n) (vs.drop n)
 | as,vs,0,h=>h
 | [],[],n+1,h=>by simpa using h
 | [],_::_,_+1,h=>by simp only [SimL] at h
 | _::_,[],_+1,h=>by simp only [SimL] at h
 | a::as,v::vs,n+1,h=>by simp only [SimL] at h;simpa using SimL.drop n h.2
theorem SimL.take {g:Gh} {H:Heap} {N:Nat}: ∀{as:List AV} {vs:List Value} (n:Nat),SimL g H N as vs->SimL g H N (as.take n) (vs.take n)
 | as,vs,0,h=>by simp [SimL]
 | [],[],n+1,h=>by simpa using h
 | [],_::_,_+1,h=>by simp only [SimL] at h
 | _::_,[],_+1,h=>by simp only [SimL] at h
 | a::as,v::vs,n+1,h=>by simp only [SimL] at h;simp only [List.take_succ_cons,SimL];exact ⟨h.1,SimL.take n h.2⟩
theorem SimL.append {g:Gh} {H:Heap} {N:Nat}: ∀{as:List AV} {vs:List Value} {bs:List AV} {us:List Value},SimL g H N as vs->SimL g H N bs us->SimL g H N (as++bs) (vs++us)
 | [],[],_,_,_,hb=>hb
 | [],_::_,_,_,h,_=>by simp only [SimL] at h
 | _::_,[],_,_,h,_=>by simp only [SimL] at h
 | a::as,v::vs,_,_,h,hb=>by simp only [SimL] at h;simp only [List.cons_append,SimL];exact ⟨h.1,SimL.append h.2 hb⟩
theorem Zcjr {g:Gh} {H:Heap} {N:Nat}: ∀{k:Kd} {a:AV} {v:Value} {x:El k},unE k a=some x->SimV g H N a v->Zh g.Z H k x v:=by
 intro k a v x h hs;unfold unE at h;split at h
 ·split at h;rename_i k k' n hk;cases h;have:=of_decide_eq_true hk;subst this;simp only [SimV] at hs;simp only [Zh];exact ⟨by rw [Zbga hs.2];exact hs.1,WfI.ofI hs.2⟩
  cases h
 cases h;simp only [SimV] at hs;simp only [Zh];exact hs;cases h;simp only [SimV] at hs;simp only [Zh];exact hs;split at h;rename_i hk _;subst hk;cases h;simpa only [SimV,Zdl] using hs;cases h;cases h;simp only [SimV] at hs;simp only [Zh];exact ⟨none,0,0,hs,rfl,Nat.le_refl _,Nat.zero_le _,fun h=>absurd h (by omega)⟩
 cases h
theorem Zks {g:Gh} {H:Heap} {N:Nat}: ∀{ks:List Kd} {as:List AV} {vs:List Value} {x:Tp ks},unT ks as=some x->SimL g H N as vs->Zc g.Z H ks x (fun j=>vs[j]?)
 | [],[],vs,x,_,_=>by simp only [Zc]
 | [],_::_,_,_,h,_=>by simp only [unT] at h;cases h
 | _::_,[],_,_,h,_=>by simp only [unT] at h;cases h
 | k::ks,a::as,[],x,h,hs=>by simp only [SimL] at hs
 | k::ks,a::as,v::vs,x,h,hs=>by
  simp only [SimL] at hs;simp only [unT] at h;split at h;rename_i y z hy hz;cases h;simp only [Zc,Zbcx,Zbfz];exact ⟨⟨v,rfl,Zcjr hy hs.1⟩,by simpa using Zks hz hs.2⟩
  cases h
theorem Zccc {g:Gh} {H:Heap} {N:Nat}: ∀{k:Kd} {x:El k} {v:Value},Zh g.Z H k x v->SimV g H N (lvE k x) v
 | .int k,x,v,h=>by simp only [Zh] at h;simp only [lvE,SimV];exact ⟨h.1,h.2.inR⟩
 | .bool,x,v,h=>by simp only [Zh] at h;simp only [lvE,SimV];exact h
 | .str,x,v,h=>by simp only [Zh] at h;simp only [lvE,SimV];exact h
 | .lst ks,xs,v,h=>by simp only [lvE,SimV];exact h
theorem Zoc {g:Gh} {H:Heap} {N:Nat}: ∀{ks:List Kd} {x:Tp ks} {f:Nat->Option Value},Zc g.Z H ks x f->∃vs,vs.length=ks.length∧SimL g H N (lvT ks x) vs∧∀j,j<vs.length->f j=vs[j]?
 | [],_,f,_=>⟨[],rfl,by simp only [lvT,SimL],fun j hj=>absurd hj (by simp)⟩
 | k::ks,x,f,h=>by
  simp only [Zc] at h;obtain ⟨⟨v,h1,h2⟩,h3⟩:=h;obtain ⟨vs,hl,hs,hc⟩:=Zoc (N:=N) h3;refine ⟨v::vs,by simp [hl],by simp only [lvT,SimL];exact ⟨Zccc h2,hs⟩,fun j hj=>?_⟩
  cases j with
  | zero=>simpa using h1
  | succ j=>have:=hc j (by simpa using hj);simpa using this
mutual
theorem Zh.wf {Z:Nat->Prop} {H:Heap}: ∀(k:Kd) (x:El k) (v:Value),Zh Z H k x v->WfE k x
 | .int _,_,_,h=>by simp only [Zh] at h;simp only [WfE];exact h.2
 | .bool,_,_,_=>by simp only [WfE]
 | .str,_,_,h=>by simp only [Zh] at h;simp only [WfE];exact h.2
 | .lst ks,xs,v,h=>by
  simp only [Zh] at h;simp only [WfE];obtain ⟨a,n,c,h1,h2,h3,h4,h5⟩:=h;refine ⟨by omega,fun x hx=>?_⟩
  obtain ⟨i,hi⟩:=List.getElem?_of_mem hx;have h0:0<n:=by
   have:i<(asL xs).length:=by rcases Nat.lt_or_ge i (asL xs).length with h | h;exact h;rw [List.getElem?_eq_none h] at hi;cases hi
   omega
  obtain ⟨b,o,ha,hz,cs,T,fr,hb,hc⟩:=h5 h0;exact Zc.wf ks x _ (hc i x hi)
theorem Zc.wf {Z:Nat->Prop} {H:Heap}: ∀(ks:List Kd) (x:Tp ks) (f:Nat->Option Value),Zc Z H ks x f->WfT ks x
 | [],_,_,_=>by simp only [WfT]
 | k::ks,x,f,h=>by simp only [Zc] at h;simp only [WfT];obtain ⟨⟨v,h1,h2⟩,h3⟩:=h;exact ⟨Zh.wf k _ v h2,Zc.wf ks _ _ h3⟩
end
end Go.Sh
end
section
namespace Go.Sh
structure St where
 α:Nat->AV
 σ:List AObj
def putA (α:Nat->AV) (d:Option Tmp) (a:AV):Nat->AV:=
 match d with
 | some d=>fun i=>match Nat.beq i d with | true=>a | false=>α i
 | none=>α
def St.put (st:St) (d:Option Tmp) (a:AV):St:=⟨putA st.α d a,st.σ⟩
def St.obj (st:St) (id:Nat) (o:AObj):St:=⟨st.α,st.σ.set id o⟩
def St.new (st:St) (o:AObj):St:=⟨st.α,st.σ++[o]⟩
structure En where
 H0:Heap
 O0:Nat->Prop
 Z0:Nat->Prop
class Laid where
 blocks:Nat->Bool
 ok:(Nat->Option Obj)->Prop
def layH [Laid] (H:Heap):Nat->Option Obj:=fun b=>match Laid.blocks b with
 | true=>H b
 | false=>none
structure LayE [Laid] (E:En):Prop where
 own: ∀b,Laid.blocks b=true->¬E.O0 b
 live: ∀b,Laid.blocks b=true->E.H0 b≠none
 ok:Laid.ok (layH E.H0)
variable [Laid]
def Has (g:Gh) (id:Nat):AObj->Prop
 | .obj _ _ _=>True
 | .row _ _ _ _=>∃a n c,g.V id= .slice (some a) n c
 | .frz _ _=>False
 | .gone=>False
def isRo:AObj->Bool
 | .obj _ r _=>r
 | .row _ r _ _=>r
 | .frz _ _=>true
 | .gone=>false
def Zlc (g:Gh) (H:Heap) (_:TypeId) (ks:List Kd) (xs:List (Tp ks)) (v:Value) (b:Nat):Prop:=
 ∃a n cap,v= .slice a n cap∧xs.length=n∧n <= cap∧cap <= Zo∧((a=none∧cap=0)∨∃o,(a=some ⟨b,o,none⟩∧∃c T',H b=some (.cells c T' (0,0))∧o+cap*ks.length <= c.size∧
  ∀i x,xs[i]? =some x->Zc g.Z H ks x (fun j=>c[o+i*ks.length+j]?)))
def SimO (g:Gh) (H:Heap) (N:Nat) (id:Nat):AObj->Prop
 | .obj T _ cs=>∃vs,H (g.B id)=some (.cells ⟨vs⟩ T (0,0))∧SimL g H N cs vs
 | .row T _ ks xs=>Zlc g H T ks xs (g.V id) (g.B id)
 | .frz ks xs=>Zh g.Z H (.lst ks) xs (g.V id)
 | .gone=>True
structure Sim (E:En) (st:St) (ρ:Env) (H:Heap) (g:Gh):Prop where
 tmp: ∀t,SimV g H st.σ.length (st.α t) (ρ t)
 obj: ∀id o,st.σ[id]? =some o->SimO g H st.σ.length id o
 nz: ∀id o,st.σ[id]? =some o->Has g id o->¬g.Z (g.B id)
 dis: ∀i j oi oj,i≠j->st.σ[i]? =some oi->st.σ[j]? =some oj->Has g i oi->Has g j oj->g.B i≠g.B j
 own: ∀i o,st.σ[i]? =some o->Has g i o->E.O0 (g.B i)∨E.H0 (g.B i)=none
 keep:Keep E.O0 E.H0 H
 zsub: ∀b,E.Z0 b->g.Z b
 znew: ∀b,g.Z b->E.Z0 b∨E.H0 b=none∨E.O0 b
 zlive: ∀b,g.Z b->H b≠none
 lay:LayE E
 zc: ∀b,g.Z b->E.Z0 b∨∀ds,H b≠some (.deferred ds)
structure Rel (st:St) (H:Heap) (g:Gh) (st':St) (H':Heap) (g':Gh):Prop where
 len:st.σ.length <= st'.σ.length
 ext:Ext st.σ.length g H g' H'
 ro: ∀id o,st.σ[id]? =some o->isRo o=true->st'.σ[id]? =some o∧(Has g id o->H' (g.B id)=H (g.B id))
theorem Rel.refl (st:St) (H:Heap) (g:Gh):Rel st H g st H g:=⟨Nat.le_refl _,.refl _ _ _,fun _ _ h _=>⟨h,fun _=>rfl⟩⟩
theorem Zbr {l:List AObj} {i:Nat} {o:AObj} (h:l[i]? =some o):i<l.length:=by rcases Nat.lt_or_ge i l.length with h' | h';exact h';rw [List.getElem?_eq_none h'] at h;cases h
theorem Has.ext {N:Nat} {g g':Gh} {H H':Heap} (h:Ext N g H g' H') {id:Nat} (hi:id<N) {o:AObj}:Has g' id o↔Has g id o:=by cases o<;>simp only [Has];rw [h.v id hi]
theorem Rel.trans {st st1 st2:St} {H H1 H2:Heap} {g g1 g2:Gh} (h:Rel st H g st1 H1 g1) (k:Rel st1 H1 g1 st2 H2 g2):Rel st H g st2 H2 g2:=by refine ⟨Nat.le_trans h.len k.len,h.ext.trans h.len k.ext,fun id o ho hr=>?_⟩;obtain ⟨h1,h2⟩:=h.ro id o ho hr;obtain ⟨k1,k2⟩:=k.ro id o h1 hr;refine ⟨k1,fun hh=>?_⟩;have hb:=h.ext.b id (Zbr ho);have:=k2 ((Has.ext h.ext (Zbr ho)).2 hh);rw [hb] at this;rw [this,h2 hh]
theorem Sim.put {E:En} {st:St} {ρ:Env} {H:Heap} {g:Gh} (s:Sim E st ρ H g) (d:Option Tmp) {a:AV} {v:Value} (h:SimV g H st.σ.length a v):Sim E (st.put d a) (put ρ d v) H g:=by
 refine { s with tmp:=fun t=>?_ }
 simp only [St.put];cases d with
 | none=>exact s.tmp t
 | some d=>
  simp only [putA,Sh.put];cases hb:Nat.beq t d with
  | true=>exact h
  | false=>exact s.tmp t
theorem SimO.ext {N N':Nat} (hn:N <= N') {g g':Gh} {H H':Heap} (h:Ext N g H g' H') {id:Nat} (hi:id<N) {o:AObj} (hb:Has g id o->H' (g.B id)=H (g.B id)) (ho:SimO g H N id o):SimO g' H' N' id o:=by
 cases o with
 | obj T r cs=>
  obtain ⟨vs,h1,h2⟩:=ho;exact ⟨vs,by rw [h.b id hi,hb trivial];exact h1,SimL.ext hn h _ _ h2⟩
 | row T r ks xs=>
  simp only [SimO,Zlc] at ho ⊢;obtain ⟨a,n,cap,h1,h2,h3,h4,h5⟩:=ho;refine ⟨a,n,cap,by rw [h.v id hi];exact h1,h2,h3,h4,h5.imp (fun h=>h) fun h5=>?_⟩
  obtain ⟨o,h6,c,T',h7,h8,h9⟩:=h5;exact ⟨o,by rw [h.b id hi];exact h6,c,T',by rw [h.b id hi,hb ⟨_,n,cap,by rw [h1,h6]⟩];exact h7,h8,fun i x hx=>Zc.ext h.z _ _ _ (h9 i x hx)⟩
 | frz ks xs=>simp only [SimO] at ho ⊢;rw [h.v id hi];exact Zh.ext h.z _ _ _ ho
 | gone=>trivial
theorem Zpd {Z0 Z:Nat->Prop} {H H':Heap} (h: ∀b,Z b->Z0 b∨∀ds,H b≠some (.deferred ds)) (he: ∀b,Z b->H' b=H b): ∀b,Z b->Z0 b∨∀ds,H' b≠some (.deferred ds):=
 fun b hb=>by rw [he b hb];exact h b hb
theorem Sim.new {E:En} {st:St} {ρ:Env} {H:Heap} {g:Gh} (s:Sim E st ρ H g) {n:Nat} (hn:H n=none) {c:Array Value} {T:TypeId} (v:Value) {o:AObj}
  (ho: ∀g',Ext st.σ.length g H g' (H.upd n (.cells c T (0,0)))->g'.Z=g.Z->g'.B st.σ.length=n->g'.V st.σ.length=v->SimO g' (H.upd n (.cells c T (0,0))) (st.σ.length+1) st.σ.length o):
  ∃g',Sim E (st.new o) ρ (H.upd n (.cells c T (0,0))) g'∧Rel st H g (st.new o) (H.upd n (.cells c T (0,0))) g'∧g'.B st.σ.length=n∧g'.V st.σ.length=v:=by
 have hzn: ¬g.Z n:=fun h=>s.zlive n h hn;have hE:E.H0 n=none:=s.keep.free hn
 let g':Gh:=⟨g.Z,fun i=>if i=st.σ.length then n else g.B i,fun i=>if i=st.σ.length then v else g.V i⟩
 have hext:Ext st.σ.length g H g' (H.upd n (.cells c T (0,0))):=
  ⟨fun b hb=>⟨hb,upd_ne fun e=>by subst e;exact hzn hb⟩,fun i hi=>if_neg (by omega),fun i hi=>if_neg (by omega)⟩
 have gB:g'.B st.σ.length=n:=if_pos rfl;have gV:g'.V st.σ.length=v:=if_pos rfl;have hlen:(st.new o).σ.length=st.σ.length+1:=by simp [St.new]
 have old: ∀i oi,(st.new o).σ[i]? =some oi->(i<st.σ.length∧st.σ[i]? =some oi)∨(i=st.σ.length∧oi=o):=by
  intro i oi hi;simp only [St.new] at hi;rcases Nat.lt_trichotomy i st.σ.length with h | h | h;exact .inl ⟨h,by rw [List.getElem?_append_left h] at hi;exact hi⟩
  subst h;rw [List.getElem?_append_right (Nat.le_refl _)] at hi;simp at hi;exact .inr ⟨rfl,hi.symm⟩
  ·rw [List.getElem?_eq_none (by simp;omega)] at hi;cases hi
 have live: ∀i oi,st.σ[i]? =some oi->Has g i oi->g.B i≠n:=by
  intro i oi hi hh e;have ho:=s.obj i oi hi;cases oi with
  | obj T' r cs=>obtain ⟨vs,h1,_⟩:=ho;rw [e,hn] at h1;cases h1
  | row T' r ks xs=>
   obtain ⟨a,m,cap,h1,_,_,_,h5⟩:=ho;obtain ⟨a',n',c',h'⟩:=hh;rw [h1] at h';cases h';rcases h5 with ⟨h,_⟩ | ⟨_,_,c,T',h7,_⟩;cases h
   ·rw [e,hn] at h7;cases h7
  | frz=>exact hh.elim
  | gone=>exact hh.elim
 refine ⟨g',⟨fun t=>?_,fun i oi hi=>?_,fun i oi hi hh=>?_,fun i j oi oj hij hi hj hhi hhj=>?_,fun i oi hi hh=>?_,?_,s.zsub,s.znew,fun b hb=>?_,s.lay,Zpd s.zc fun b hb=>(hext.z b hb).2⟩,⟨by omega,hext,fun i oi hi hr=>⟨?_,fun hh=>?_⟩⟩,gB,gV⟩
 rw [hlen];exact SimV.ext (Nat.le_succ _) hext _ _ (s.tmp t);rw [hlen];rcases old i oi hi with ⟨h1,h2⟩ | ⟨rfl,rfl⟩;exact SimO.ext (Nat.le_succ _) hext h1 (fun hh=>upd_ne (live i oi h2 hh)) (s.obj i oi h2);exact ho g' hext rfl gB gV;rcases old i oi hi with ⟨h1,h2⟩ | ⟨rfl,rfl⟩;rw [hext.b i h1];exact s.nz i oi h2 ((Has.ext hext h1).1 hh);rw [gB];exact hzn;rcases old i oi hi with ⟨h1,h2⟩ | ⟨rfl,rfl⟩;rcases old j oj hj with ⟨h3,h4⟩ | ⟨rfl,rfl⟩;rw [hext.b i h1,hext.b j h3];exact s.dis i j oi oj hij h2 h4 ((Has.ext hext h1).1 hhi) ((Has.ext hext h3).1 hhj);rw [gB,hext.b i h1];exact live i oi h2 ((Has.ext hext h1).1 hhi);rcases old j oj hj with ⟨h3,h4⟩ | ⟨rfl,rfl⟩;rw [gB,hext.b j h3];exact fun e=>live j oj h4 ((Has.ext hext h3).1 hhj) e.symm;exact absurd rfl hij;rcases old i oi hi with ⟨h1,h2⟩ | ⟨rfl,rfl⟩;rw [hext.b i h1];exact s.own i oi h2 ((Has.ext hext h1).1 hh);rw [gB];exact .inr hE;exact s.keep.new hn;by_cases e:b=n;subst e;exact absurd hb hzn;rw [upd_ne e];exact s.zlive b hb;simp only [St.new];rw [List.getElem?_append_left (Zbr hi)];exact hi;exact upd_ne (live i oi hi hh)
theorem Sim.live {E:En} {st:St} {ρ:Env} {H:Heap} {g:Gh} (s:Sim E st ρ H g) {i:Nat} {o:AObj} (hi:st.σ[i]? =some o) (hh:Has g i o): ∃c T,H (g.B i)=some (.cells c T (0,0)):=by
 have ho:=s.obj i o hi;cases o with
 | obj T' r cs=>obtain ⟨vs,h1,_⟩:=ho;exact ⟨_,_,h1⟩
 | row T' r ks xs=>
  obtain ⟨a,m,cap,h1,_,_,_,h5⟩:=ho;obtain ⟨a',n',c',h'⟩:=hh;rw [h1] at h';cases h';rcases h5 with ⟨h,_⟩ | ⟨_,_,c,T',h7,_⟩;cases h
  ·exact ⟨_,_,h7⟩
 | frz=>exact hh.elim
 | gone=>exact hh.elim
theorem Sim.turn {E:En} {st:St} {ρ:Env} {H:Heap} {g:Gh} (s:Sim E st ρ H g) {id:Nat} {o o':AObj} (hi:st.σ[id]? =some o) (hr:isRo o=false) (hh:Has g id o) {H':Heap}
  (hs: ∀b,b≠g.B id->H' b=H b) (hl:H' (g.B id)≠none) (hh':Has g id o'->True) (ho:Ext st.σ.length g H g H'->SimO g H' st.σ.length id o'):
  Sim E (st.obj id o') ρ H' g∧Rel st H g (st.obj id o') H' g:=by
 have hz:=s.nz id o hi hh;have hext:Ext st.σ.length g H g H':=⟨fun b hb=>⟨hb,hs b fun e=>by subst e;exact hz hb⟩,fun _ _=>rfl,fun _ _=>rfl⟩
 have hlt:=Zbr hi;have hlen:(st.obj id o').σ.length=st.σ.length:=by simp [St.obj]
 have old: ∀i oi,(st.obj id o').σ[i]? =some oi->(i≠id∧st.σ[i]? =some oi)∨(i=id∧oi=o'):=by intro i oi hi';simp only [St.obj,List.getElem?_set] at hi';by_cases e:id=i;subst e;rw [if_pos rfl,if_pos hlt] at hi';cases hi';exact .inr ⟨rfl,rfl⟩;rw [if_neg e] at hi';exact .inl ⟨fun e'=>e e'.symm,hi'⟩
 refine ⟨⟨fun t=>?_,fun i oi hi'=>?_,fun i oi hi' hhi=>?_,fun i j oi oj hij hi' hj hhi hhj=>?_,fun i oi hi' hhi=>?_,?_,s.zsub,s.znew,fun b hb=>?_,s.lay,Zpd s.zc fun b hb=>(hext.z b hb).2⟩,⟨by omega,hext,fun i oi hi' hr'=>?_⟩⟩
 rw [hlen];exact SimV.ext (Nat.le_refl _) hext _ _ (s.tmp t);rw [hlen];rcases old i oi hi' with ⟨h1,h2⟩ | ⟨rfl,rfl⟩;exact SimO.ext (Nat.le_refl _) hext (Zbr h2) (fun hhi=>hs _ (s.dis i id oi o h1 h2 hi hhi hh)) (s.obj i oi h2);exact ho hext;rcases old i oi hi' with ⟨h1,h2⟩ | ⟨rfl,rfl⟩;exact s.nz i oi h2 hhi;exact hz;rcases old i oi hi' with ⟨h1,h2⟩ | ⟨rfl,rfl⟩;rcases old j oj hj with ⟨h3,h4⟩ | ⟨rfl,rfl⟩;exact s.dis i j oi oj hij h2 h4 hhi hhj;exact s.dis i j oi o hij h2 hi hhi hh;rcases old j oj hj with ⟨h3,h4⟩ | ⟨rfl,rfl⟩;exact s.dis i j o oj hij hi h4 hh hhj;exact absurd rfl hij;rcases old i oi hi' with ⟨h1,h2⟩ | ⟨rfl,rfl⟩;exact s.own i oi h2 hhi;exact s.own i o hi hh;refine ⟨fun b hb h0=>?_,fun b h0=>?_⟩;by_cases e:b=g.B id;rcases s.own id o hi hh with h | h;rw [← e] at h;exact absurd h hb;rw [← e] at h;exact absurd h h0;rw [hs b e];exact s.keep.same b hb h0;by_cases e:b=g.B id;rw [e];exact hl;rw [hs b e];exact s.keep.live b h0
 ·rw [hs b fun e=>by subst e;exact hz hb];exact s.zlive b hb
 ·have hne:i≠id:=fun e=>by subst e;rw [hi] at hi';cases hi';rw [hr] at hr';cases hr'
  refine ⟨?_,fun hhi=>hs _ (s.dis i id oi o hne hi' hi hhi hh)⟩;simp only [St.obj,List.getElem?_set];rw [if_neg (fun e=>hne e.symm)];exact hi'
theorem Sim.drop {E:En} {st:St} {ρ:Env} {H:Heap} {g:Gh} (s:Sim E st ρ H g) {id:Nat} {o:AObj} (hi:st.σ[id]? =some o) (hr:isRo o=false):
  Sim E (st.obj id .gone) ρ H g∧Rel st H g (st.obj id .gone) H g:=by
 have hlt:=Zbr hi;have hlen:(st.obj id .gone).σ.length=st.σ.length:=by simp [St.obj]
 have old: ∀i oi,(st.obj id .gone).σ[i]? =some oi->(i≠id∧st.σ[i]? =some oi)∨(i=id∧oi= .gone):=by intro i oi hi';simp only [St.obj,List.getElem?_set] at hi';by_cases e:id=i;subst e;rw [if_pos rfl,if_pos hlt] at hi';cases hi';exact .inr ⟨rfl,rfl⟩;rw [if_neg e] at hi';exact .inl ⟨fun e'=>e e'.symm,hi'⟩
 refine ⟨⟨fun t=>?_,fun i oi hi'=>?_,fun i oi hi' hhi=>?_,fun i j oi oj hij hi' hj hhi hhj=>?_,fun i oi hi' hhi=>?_,s.keep,s.zsub,s.znew,s.zlive,s.lay,s.zc⟩,⟨by omega,.refl _ _ _,fun i oi hi' hr'=>⟨?_,fun _=>rfl⟩⟩⟩
 rw [hlen];exact s.tmp t;rw [hlen];rcases old i oi hi' with ⟨h1,h2⟩ | ⟨rfl,rfl⟩;exact s.obj i oi h2;trivial;rcases old i oi hi' with ⟨h1,h2⟩ | ⟨rfl,rfl⟩;exact s.nz i oi h2 hhi;exact hhi.elim;rcases old i oi hi' with ⟨h1,h2⟩ | ⟨rfl,rfl⟩;rcases old j oj hj with ⟨h3,h4⟩ | ⟨rfl,rfl⟩;exact s.dis i j oi oj hij h2 h4 hhi hhj;exact hhj.elim;exact hhi.elim;rcases old i oi hi' with ⟨h1,h2⟩ | ⟨rfl,rfl⟩;exact s.own i oi h2 hhi;exact hhi.elim
 ·have hne:i≠id:=fun e=>by subst e;rw [hi] at hi';cases hi';rw [hr] at hr';cases hr'
  simp only [St.obj,List.getElem?_set];rw [if_neg (fun e=>hne e.symm)];exact hi'
theorem Sim.freeze {E:En} {st:St} {ρ:Env} {H:Heap} {g:Gh} (s:Sim E st ρ H g) {id:Nat} {T:TypeId} {ks:List Kd} {xs:List (Tp ks)} (hi:st.σ[id]? =some (.row T false ks xs)):
  ∃g',Sim E (st.obj id (.frz ks xs)) ρ H g'∧Rel st H g (st.obj id (.frz ks xs)) H g'∧g'.V=g.V∧g'.B=g.B:=by
 have hlt:=Zbr hi;have hlen:(st.obj id (.frz ks xs)).σ.length=st.σ.length:=by simp [St.obj]
 have old: ∀i oi,(st.obj id (.frz ks xs)).σ[i]? =some oi->(i≠id∧st.σ[i]? =some oi)∨(i=id∧oi= .frz ks xs):=by intro i oi hi';simp only [St.obj,List.getElem?_set] at hi';by_cases e:id=i;subst e;rw [if_pos rfl,if_pos hlt] at hi';cases hi';exact .inr ⟨rfl,rfl⟩;rw [if_neg e] at hi';exact .inl ⟨fun e'=>e e'.symm,hi'⟩
 let g':Gh:=⟨fun b=>g.Z b∨(b=g.B id∧Has g id (.row T false ks xs)),g.B,g.V⟩
 have hext:Ext st.σ.length g H g' H:=⟨fun b hb=>⟨.inl hb,rfl⟩,fun _ _=>rfl,fun _ _=>rfl⟩;have hrow:=s.obj id _ hi;refine ⟨g',⟨fun t=>?_,fun i oi hi'=>?_,fun i oi hi' hhi=>?_,fun i j oi oj hij hi' hj hhi hhj=>?_,fun i oi hi' hhi=>?_,s.keep,fun b hb=> .inl (s.zsub b hb),fun b hb=>?_,fun b hb=>?_,s.lay,fun b hb=>?_⟩,⟨by omega,hext,fun i oi hi' hr'=>⟨?_,fun _=>rfl⟩⟩,rfl,rfl⟩
 rw [hlen];exact SimV.ext (Nat.le_refl _) hext _ _ (s.tmp t)
 ·rw [hlen];rcases old i oi hi' with ⟨h1,h2⟩ | ⟨rfl,rfl⟩;exact SimO.ext (Nat.le_refl _) hext (Zbr h2) (fun _=>rfl) (s.obj i oi h2)
  ·obtain ⟨a,n,cap,h1,h2,h3,h4,h5⟩:=hrow;simp only [SimO,Zh];refine ⟨a,n,cap,h1,h2,h3,h4,fun h0=>?_⟩;rcases h5 with ⟨rfl,h6⟩ | ⟨o,h6,c,T',h7,h8,h9⟩;omega
   ·refine ⟨g.B i,o,h6,.inr ⟨rfl,⟨_,n,cap,by rw [h1,h6]⟩⟩,c,T',_,h7,fun j x hx=>?_⟩
    exact Zc.ext hext.z _ _ _ (h9 j x hx)
 rcases old i oi hi' with ⟨h1,h2⟩ | ⟨rfl,rfl⟩;rintro (hz | ⟨hz,hh⟩);exact s.nz i oi h2 hhi hz;exact s.dis i id oi _ h1 h2 hi hhi hh hz;exact hhi.elim;rcases old i oi hi' with ⟨h1,h2⟩ | ⟨rfl,rfl⟩;rcases old j oj hj with ⟨h3,h4⟩ | ⟨rfl,rfl⟩;exact s.dis i j oi oj hij h2 h4 hhi hhj;exact hhj.elim;exact hhi.elim;rcases old i oi hi' with ⟨h1,h2⟩ | ⟨rfl,rfl⟩;exact s.own i oi h2 hhi;exact hhi.elim;rcases hb with hb | ⟨rfl,hh⟩;exact s.znew b hb;rcases s.own id _ hi hh with h | h;exact .inr (.inr h);exact .inr (.inl h);rcases hb with hb | ⟨rfl,hh⟩;exact s.zlive b hb;obtain ⟨c,T',h⟩:=s.live hi hh;rw [h];simp
 ·rcases hb with hb | ⟨rfl,hh⟩;exact s.zc b hb
  ·obtain ⟨c,T',h⟩:=s.live hi hh;exact .inr fun ds e=>by rw [h] at e;cases e
 ·have hne:i≠id:=fun e=>by subst e;rw [hi] at hi';cases hi';cases hr'
  simp only [St.obj,List.getElem?_set];rw [if_neg (fun e=>hne e.symm)];exact hi'
end Go.Sh
end
section
namespace Go.Sh
variable [Laid]
def Res (E:En) (st:St) (ρ:Env) (H:Heap) (g:Gh) (K:AV->St->Prop):Value->Heap->Prop:=fun v H'=>
 ∃a st' g',Sim E st' ρ H' g'∧Rel st H g st' H' g'∧SimV g' H' st'.σ.length a v∧st'.α=st.α∧K a st'
theorem Res.same {E:En} {st:St} {ρ:Env} {H:Heap} {g:Gh} {K:AV->St->Prop} (s:Sim E st ρ H g) {a:AV} {v:Value} (h:SimV g H st.σ.length a v) (k:K a st):Res E st ρ H g K v H:=
 ⟨a,st,g,s,.refl _ _ _,h,rfl,k⟩
def ofV1:Value->AV
 | .int k n=>match decide (loI k <= n)&&decide (n <= hiI k) with
  | true=> .int k n
  | false=> .raw (.int k n)
 | .bool b=> .bool b
 | .string s=>match Nat.ble s.data.toList.length Zo with
  | true=> .str s.data.toList
  | false=> .raw (.string s)
 | .slice none len cap=>match Nat.beq len 0&&Nat.beq cap 0 with
  | true=> .nils
  | false=> .raw (.slice none len cap)
 | .pointer none=> .nilp
 | .nilIface=> .err true
 | v=> .raw v
def ofV:Value->AV
 | .agg cs=> .agg (cs.toList.map ofV1)
 | .tuple cs=> .tup (cs.toList.map ofV1)
 | v=>ofV1 v
theorem Zbnr {g:Gh} {H:Heap} {N:Nat} (v:Value):SimV g H N (ofV1 v) v:=by
 unfold ofV1;split;split;rename_i h;simp only [Bool.and_eq_true,decide_eq_true_eq] at h;simp only [SimV];exact ⟨trivial,h⟩;simp only [SimV];simp only [SimV]
 ·split;rename_i s h;simp only [SimV];exact ⟨by simp [bstr],Nat.le_of_ble_eq_true h⟩
  simp only [SimV]
 split;rename_i h;simp only [Bool.and_eq_true] at h;simp only [SimV,Nat.eq_of_beq_eq_true h.1,Nat.eq_of_beq_eq_true h.2];simp only [SimV];simp only [SimV];simp only [SimV];simp only [SimV]
theorem Zlz {g:Gh} {H:Heap} {N:Nat}: ∀vs:List Value,SimL g H N (vs.map ofV1) vs
 | []=>by simp only [List.map_nil,SimL]
 | v::vs=>by simp only [List.map_cons,SimL];exact ⟨Zbnr v,Zlz vs⟩
theorem Zccu {g:Gh} {H:Heap} {N:Nat} (v:Value):SimV g H N (ofV v) v:=by unfold ofV;split;simp only [SimV];exact ⟨_,rfl,Zlz _⟩;simp only [SimV];exact ⟨_,rfl,Zlz _⟩;exact Zbnr v
def evA (α:Nat->AV):Operand->AV
 | .tmp t=>α t
 | .const v=>ofV v
 | .global g=> .raw (.pointer (some ⟨g,0,none⟩))
 | .func f=> .fn f []
theorem Zjv {E:En} {st:St} {ρ:Env} {H:Heap} {g:Gh} (s:Sim E st ρ H g) (x:Operand):SimV g H st.σ.length (evA st.α x) (ev ρ x):=by
 cases x with
 | tmp t=>exact s.tmp t
 | const v=>exact Zccu v
 | global n=>simp only [evA,ev,SimV]
 | func f=>simp only [evA,ev,SimV];exact ⟨[],rfl,by simp only [SimL]⟩
def Zkh:AV->Bool
 | .int _ _ | .bool _ | .str _ | .lst _ _ | .nils | .nilp | .ptr _ _ | .row _ | .elm _ _ _ _ | .rdp _ | .err _ | .fn _ _=>true
 | _=>false
theorem Zbox {g:Gh} {H:Heap} {N:Nat} {a:AV} {v:Value} (hp:Zkh a=true) (h:SimV g H N a v):Zcy v=true∧v.cells= #[v]:=by
 cases a<;>simp only [Zkh] at hp<;>simp only [SimV] at h<;>first | (cases hp;done) | skip
 case int=>obtain ⟨rfl,_⟩:=h;exact ⟨rfl,rfl⟩
 case bool=>subst h;exact ⟨rfl,rfl⟩
 case str=>obtain ⟨rfl,_⟩:=h;exact ⟨rfl,rfl⟩
 case lst=>simp only [Zh] at h;obtain ⟨a,n,c,rfl,_⟩:=h;exact ⟨rfl,rfl⟩
 case nils=>subst h;exact ⟨rfl,rfl⟩
 case nilp=>subst h;exact ⟨rfl,rfl⟩
 case ptr=>obtain ⟨_,rfl⟩:=h;exact ⟨rfl,rfl⟩
 case row=>obtain ⟨_,_,a,n,c,rfl⟩:=h;exact ⟨rfl,rfl⟩
 case elm=>obtain ⟨_,b,o,n,c,_,rfl⟩:=h;exact ⟨rfl,rfl⟩
 case rdp=>obtain ⟨b,o,vs,rfl,_⟩:=h;exact ⟨rfl,rfl⟩
 case err b=>cases b with
  | true=>subst h;exact ⟨rfl,rfl⟩
  | false=>obtain ⟨t,u,rfl⟩:=h;exact ⟨rfl,rfl⟩
 case fn=>obtain ⟨vs,rfl,_⟩:=h;exact ⟨rfl,rfl⟩
def Zbz:AV->List AV
 | .agg cs=>cs
 | a=>[a]
def Ztz:AV->Bool
 | .agg cs=>cs.all Zkh
 | a=>Zkh a
theorem Zbas {g:Gh} {H:Heap} {N:Nat} {a:AV} {v:Value} (hp:Ztz a=true) (h:SimV g H N a v):SimL g H N (Zbz a) v.cells.toList∧(Zbz a).all Zkh=true:=by
 have one:Zkh a=true->Zbz a= [a]->SimL g H N (Zbz a) v.cells.toList∧(Zbz a).all Zkh=true:=fun hp hc=>by obtain ⟨_,h2⟩:=Zbox hp h;rw [hc,h2];simp only [SimL,List.all_cons,List.all_nil,hp];exact ⟨⟨h,trivial⟩,rfl⟩
 cases a<;>first | exact one hp rfl | skip
 simp only [SimV] at h;obtain ⟨vs,rfl,hs⟩:=h;exact ⟨hs,hp⟩
theorem Zbej {g:Gh} {H:Heap} {N:Nat}: ∀{as:List AV} {vs:List Value},as.all Zkh=true->SimL g H N as vs->∀v∈vs,Zcy v=true
 | [],[],_,_=>by simp
 | [],_::_,_,h=>by simp only [SimL] at h
 | _::_,[],_,h=>by simp only [SimL] at h
 | a::as,v::vs,hp,h=>by simp only [SimL] at h;simp only [List.all_cons,Bool.and_eq_true] at hp;intro u hu;rcases List.mem_cons.1 hu with rfl | hu;exact (Zbox hp.1 h.1).1;exact Zbej hp.2 h.2 u hu
def Zrr:Leaf->AV->Bool
 | .int k,.int k' _=>decide (k=k')
 | .bool,.bool _=>true
 | .str,.str _=>true
 | .ptr,.nilp=>true
 | .ptr,.ptr _ _=>true
 | .ptr,.elm _ _ _ _=>true
 | .ptr,.rdp _=>true
 | .slice,.lst _ _=>true
 | .slice,.nils=>true
 | .slice,.row _=>true
 | .any,.err _=>true
 | .any,.fn _ _=>true
 | .any,.raw _=>true
 | _,_=>false
theorem Zvs {g:Gh} {H:Heap} {N:Nat} {l:Leaf} {a:AV} {v:Value} {r:Value->Prop} (hf:Zrr l a=true) (h:SimV g H N a v) (hr:r v):Zch l r:=by
 unfold Zrr at hf;split at hf<;>first | (cases hf;done) | (exact ⟨_,hr⟩) | skip
 all_goals simp only [SimV] at h
 have:=of_decide_eq_true hf;subst this;obtain ⟨rfl,_⟩:=h;exact ⟨_,hr⟩;subst h;exact ⟨_,hr⟩;obtain ⟨rfl,_⟩:=h;exact ⟨_,hr⟩;subst h;exact ⟨_,hr⟩;obtain ⟨_,rfl⟩:=h;exact ⟨_,hr⟩;obtain ⟨_,_,_,_,_,_,rfl⟩:=h;exact ⟨_,hr⟩;obtain ⟨_,_,_,rfl,_⟩:=h;exact ⟨_,hr⟩;simp only [Zh] at h;obtain ⟨a,n,c,rfl,_⟩:=h;exact ⟨_,_,_,hr⟩;subst h;exact ⟨_,_,_,hr⟩;obtain ⟨_,_,a,n,c,rfl⟩:=h;exact ⟨_,_,_,hr⟩
def Zhm:List Leaf->List AV->Option (List AV)
 | [],_=>some []
 | _::_,[]=>none
 | l::ls,a::as=>match Zrr l a with
  | true=>match Zhm ls as with
   | some r=>some (a::r)
   | none=>none
  | false=>none
def ldA (P:Program) (t:TypeId) (cs:List AV) (K:AV->Prop):Prop:=
 match Zde P t with
 | some false=>match cs with
  | a::_=>match Zrr (Zoa P t) a with
   | true=>K a
   | false=>False
  | []=>False
 | some true=>match Nat.ble (P.cellsOf t) 24&&Nat.beq (leaves P 6 t).length (P.cellsOf t) with
  | true=>match Zhm (leaves P 6 t) cs with
   | some as=>K (.agg as)
   | none=>False
  | false=>match Nat.beq (cs.take (P.cellsOf t)).length (P.cellsOf t) with
   | true=>K (.agg (cs.take (P.cellsOf t)))
   | false=>False
 | none=>False
theorem Zcbp {g:Gh} {H:Heap} {N:Nat} {b o:Nat} {K:List Value->Prop}: ∀(ls:List Leaf) (as:List AV) (vs:List Value) (r:List AV) (i:Nat) (acc:List Value) (accA:List AV),Zhm ls as=some r->SimL g H N as vs->(∀j,j<vs.length->H.cell ⟨b,o+(i+j),none⟩=vs[j]?)->SimL g H N accA acc->
  (∀us,SimL g H N (accA++r) us->K us)->Zgw H ⟨b,o,none⟩ i ls acc K:=by
 intro ls;induction ls with
 | nil=>
  intro as vs r i acc accA hf hs hc ha hk;simp only [Zhm,Option.some.injEq] at hf;subst hf;exact hk _ (by rw [List.append_nil];exact ha)
 | cons l ls ih=>
  intro as vs r i acc accA hf hs hc ha hk;cases as with
  | nil=>simp only [Zhm] at hf;cases hf
  | cons a as=>
   cases vs with
   | nil=>simp only [SimL] at hs
   | cons v vs=>
    simp only [Zhm] at hf;split at hf
    ·rename_i hl;split at hf
     ·rename_i r' hr;cases hf;simp only [SimL] at hs;simp only [Zgw];refine Zvs hl hs.1 ⟨?_,?_⟩
      ·have:=hc 0 (by simp)
       simp only [Nat.add_zero,List.getElem?_cons_zero] at this;rw [Zog,Zfd rfl];exact this
      ·refine ih as vs r' (i+1) (acc++[v]) (accA++[a]) hr hs.2 (fun j hj=>?_) (ha.append (by simp only [SimL];exact ⟨hs.1,trivial⟩)) (fun us hus=>hk us (by simpa using hus))
       have:=hc (j+1) (by simpa using hj)
       simp only [List.getElem?_cons_succ] at this;rw [← this];congr 2;omega
     cases hf
    cases hf
theorem Zvr {P:Program} {t:TypeId} {g:Gh} {H:Heap} {N:Nat} {b o:Nat} {cs:List AV} {vs:List Value} {K':AV->Prop} {K:Value->Heap->Prop} (h:ldA P t cs K') (hs:SimL g H N cs vs) (hc: ∀j,j<vs.length->H.cell ⟨b,o+j,none⟩=vs[j]?)
  (hk: ∀a v,SimV g H N a v->K' a->K v H):Zz P t (.pointer (some ⟨b,o,none⟩)) H K:=by
 unfold ldA at h;unfold Zz;simp only;split at h
 ·rename_i hb;rw [hb];simp only;cases cs with
  | nil=>exact h.elim
  | cons a cs=>
   cases vs with
   | nil=>simp only [SimL] at hs
   | cons v vs=>
    simp only [SimL] at hs;simp only at h;split at h;rename_i hl;exact Zvs hl hs.1 ⟨by have:=hc 0 (by simp);simpa using this,hk a v hs.1 h⟩
    exact h.elim
 ·rename_i hb;rw [hb];simp only;split at h
  ·rename_i hle;rw [hle];simp only;split at h
   ·rename_i as hf;refine Zcbp _ cs vs as 0 [] [] hf hs (fun j hj=>by simpa using hc j hj) (by simp only [SimL]) fun us hus=>?_
    exact hk (.agg as) _ (by simp only [SimV];exact ⟨us,rfl,hus⟩) h
   exact h.elim
  ·rename_i hle;rw [hle];simp only;split at h
   ·rename_i hn;have hn':=Nat.eq_of_beq_eq_true hn;have hs':=hs.take (P.cellsOf t);have hlen:=hs'.len;refine ⟨vs.take (P.cellsOf t),by omega,fun j hj=>?_,?_⟩
    ·rw [Zfd rfl];simp only [List.length_take] at hj;rw [List.getElem?_take_of_lt (by omega)]
     exact hc j (by omega)
    exact hk _ _ (by simp only [SimV];exact ⟨_,rfl,hs'⟩) h
   exact h.elim
 exact h.elim
def fits1 (P:Program) (t:TypeId) (a:AV):Bool:=
 match Zde P t with
 | some true=>match Nat.ble (P.cellsOf t) 24,a with
  | true,.agg cs=>match Zhm (leaves P 6 t) cs with
   | some r=>Nat.beq r.length cs.length
   | none=>false
  | false,.agg _=>true
  | false,.arv _ _=>true
  | _,_=>false
 | _=>Zrr (Zoa P t) a
def Znq (P:Program):List TypeId->List AV->Bool
 | [],[]=>true
 | t::ts,a::as=>fits1 P t a&&Znq P ts as
 | _,_=>false
def Zgt (P:Program) (t:TypeId) (a:AV):Bool:=
 match P.underlying t with
 | some (.tuple ts)=>match a with
  | .tup as=>Znq P ts.toList as
  | _=>false
 | _=>fits1 P t a
theorem Zbmi {g:Gh} {H:Heap} {N:Nat} {r:List Value->Prop}: ∀(ls:List Leaf) (as:List AV) (vs:List Value) (q:List AV) (acc:List Value),Zhm ls as=some q->q.length=as.length->SimL g H N as vs->r (acc++vs)->Zgg ls acc r
 | [],as,vs,q,acc,hf,hl,hs,hr=>by
  simp only [Zhm,Option.some.injEq] at hf;subst hf;obtain rfl:as= []:=List.eq_nil_of_length_eq_zero (by simpa using hl.symm)
  cases vs with
  | nil=>rw [List.append_nil] at hr;exact hr
  | cons=>simp only [SimL] at hs
 | l::ls,[],vs,q,acc,hf,_,_,_=>by simp only [Zhm] at hf;cases hf
 | l::ls,a::as,[],q,acc,_,_,hs,_=>by simp only [SimL] at hs
 | l::ls,a::as,v::vs,q,acc,hf,hl,hs,hr=>by
  simp only [Zhm] at hf;split at hf
  ·rename_i hl1;split at hf;rename_i r' hr';cases hf;simp only [SimL] at hs;exact Zvs hl1 hs.1 (Zbmi ls as vs r' (acc++[v]) hr' (by simpa using hl) hs.2 (by simpa using hr))
   cases hf
  cases hf
theorem Zbkn {P:Program} {t:TypeId} {g:Gh} {H:Heap} {N:Nat} {a:AV} {v:Value} {r:Value->Prop} (hf:fits1 P t a=true) (h:SimV g H N a v) (hr:r v):Zew P t r:=by
 unfold fits1 at hf;unfold Zew;split at hf
 ·rename_i hb;rw [hb];simp only;split at hf
  ·rename_i cs hle;rw [hle];simp only;split at hf;rename_i q hq;simp only [SimV] at h;obtain ⟨vs,rfl,hs⟩:=h;exact Zbmi _ cs vs q [] hq (Nat.eq_of_beq_eq_true hf) hs (by simpa using hr)
   cases hf
  rename_i cs hle;rw [hle];simp only [SimV] at h;obtain ⟨vs,rfl,hs⟩:=h;exact ⟨vs,hr⟩;rename_i ks xs hle;rw [hle];simp only [SimV] at h;obtain ⟨vs,rfl,_⟩:=h;exact ⟨vs,hr⟩;cases hf
 rename_i hb;split;rename_i hb';exact absurd hb' hb;exact Zvs hf h hr
theorem Zbko {P:Program} {g:Gh} {H:Heap} {N:Nat} {r:List Value->Prop}: ∀{ts:List TypeId} {as:List AV} {vs:List Value} (acc:List Value),Znq P ts as=true->SimL g H N as vs->r (acc++vs)->Zgk P ts acc r
 | [],[],vs,acc,_,hs,hr=>by
  cases vs with
  | nil=>rw [List.append_nil] at hr;exact hr
  | cons=>simp only [SimL] at hs
 | [],_::_,_,_,hf,_,_=>by simp only [Znq] at hf;cases hf
 | _::_,[],_,_,hf,_,_=>by simp only [Znq] at hf;cases hf
 | t::ts,a::as,[],_,_,hs,_=>by simp only [SimL] at hs
 | t::ts,a::as,v::vs,acc,hf,hs,hr=>by simp only [Znq,Bool.and_eq_true] at hf;simp only [SimL] at hs;exact Zbkn hf.1 hs.1 (Zbko (acc++[v]) hf.2 hs.2 (by simpa using hr))
theorem Zbkp {P:Program} {t:TypeId} {g:Gh} {H:Heap} {N:Nat} {a:AV} {v:Value} {K:Value->Heap->Prop} (hf:Zgt P t a=true) (h:SimV g H N a v) (hk:K v H):ofTy P t K v H:=by
 unfold Zgt at hf;unfold ofTy tyEx;split at hf
 ·rename_i ts hu;rw [hu];simp only;split at hf;rename_i as;simp only [SimV] at h;obtain ⟨vs,rfl,hs⟩:=h;exact Zbko [] hf hs ⟨by simp,by simpa using hk⟩
  cases hf
 rename_i hu;split;rename_i ts hu';exact absurd hu' (hu ts);exact Zbkn hf h ⟨rfl,hk⟩
def Zqn (eq:TypeId->AV->AV->Option Bool) (isA:TypeId->Option Bool) (sz:TypeId->Option Nat):List Field->List AV->List AV->Option Bool
 | [],_,_=>some true
 | f::fs,xs,ys=>
  match isA f.type with
  | some false=>match xs[f.offset]?,ys[f.offset]? with
   | some x,some y=>match eq f.type x y,Zqn eq isA sz fs xs ys with
    | some b,some r=>some (b&&r)
    | _,_=>none
   | _,_=>none
  | some true=>match sz f.type with
   | some s=>match eq f.type (.agg ((xs.drop f.offset).take s)) (.agg ((ys.drop f.offset).take s)),Zqn eq isA sz fs xs ys with
    | some b,some r=>some (b&&r)
    | _,_=>none
   | none=>none
  | none=>none
def eqA (P:Program):Nat->TypeId->AV->AV->Option Bool
 | 0,_,_,_=>none
 | d+1,t,x,y=>
  match P.underlying t,x,y with
  | some .bool,.bool a,.bool b=>some (a==b)
  | some (.int _),.int k a,.int k' b=>match decide (k=k') with | true=>some (a==b) | false=>none
  | some .string,.str a,.str b=>some (a==b)
  | some (.struct fs),.agg xs,.agg ys=>
   match P.stoodInHeld t,fs.toList.all fun f=>f.name != "_" with
   | false,true=>Zqn (eqA P d) (Zde P) (szOf P) fs.toList xs ys
   | _,_=>none
  | _,_,_=>none
def binA (P:Program) (lit:Bool) (t:TypeId) (op:BinOp) (x y:AV) (K:AV->Prop):Prop:=
 match x,y with
 | .int k a,.int k' b=>match Zlt op with
  | true=>0 <= b∧(match op with
   | .shl=>K (.int k (k.wrap (a*2^(min b.toNat k.bits))))
   | _=>K (.int k (a.fdiv (2^(min b.toNat k.bits)))))
  | false=>match decide (k=k') with
   | false=>False
   | true=>match op with
    | .quo=>b≠0∧K (.int k (k.wrap (a.tdiv b)))
    | .rem=>b≠0∧K (.int k (a.tmod b))
    | .add=>K (.int k (k.wrap (a+b)))
    | .sub=>K (.int k (k.wrap (a - b)))
    | .mul=>K (.int k (k.wrap (a*b)))
    | .and=>K (.int k (Zjc k a b))
    | .or=>K (.int k (Zgr k a b))
    | .xor=>K (.int k (Zbio k a b))
    | .andNot=>K (.int k (Ztx k a b))
    | .eql=>K (.bool (a==b))
    | .neq=>K (.bool (a !=b))
    | .lss=>K (.bool (decide (a<b)))
    | .leq=>K (.bool (decide (a <= b)))
    | .gtr=>K (.bool (decide (a>b)))
    | .geq=>K (.bool (decide (a≥b)))
    | _=>False
 | .bool a,.bool b=>match P.underlying t,op with
  | some .bool,.eql=>K (.bool (a==b))
  | some .bool,.neq=>K (.bool (!(a==b)))
  | _,_=>False
 | .str a,.str b=>match op with
  | .add=>a.length+b.length <= Zo∧K (.str (a++b))
  | .eql=>K (.bool (a==b))
  | .neq=>K (.bool (!(a==b)))
  | .lss=>K (.bool (Op.bytesLess a b))
  | .leq=>K (.bool (Op.bytesLess a b||a==b))
  | .gtr=>K (.bool (!(Op.bytesLess a b||a==b)))
  | .geq=>K (.bool (!(Op.bytesLess a b)))
  | _=>False
 | .nilp,.nilp=>match P.underlying t,op with
  | some (.pointer _),.eql=>K (.bool true)
  | some (.pointer _),.neq=>K (.bool false)
  | _,_=>False
 | .lst _ xs,.nils=>match P.underlying t,op with
  | some (.slice _),.eql=>∀b:Bool,(b=true->xs.length=0)->K (.bool b)
  | some (.slice _),.neq=>∀b:Bool,(b=true->xs.length=0)->K (.bool (!b))
  | _,_=>False
 | .nils,.nils=>match P.underlying t,op with
  | some (.slice _),.eql=>K (.bool true)
  | some (.slice _),.neq=>K (.bool false)
  | _,_=>False
 | .ptr _ _,.nilp=>match P.underlying t,op with
  | some (.pointer _),.eql=>K (.bool false)
  | some (.pointer _),.neq=>K (.bool true)
  | _,_=>False
 | .agg xs,.agg ys=>match isEq op,P.eqGuardType P.depth t,eqA P 6 t (.agg xs) (.agg ys) with
  | true,false,some b=>K (.bool (match op with | .eql=>b | _=>!b))
  | _,_,_=>False
 | .err a,.err true=>match lit with
  | true=>match P.underlying t,op with
   | some (.interface _),.eql=>K (.bool a)
   | some (.interface _),.neq=>K (.bool (!a))
   | _,_=>False
  | false=>False
 | _,_=>False
theorem Zbwn {k:IntKind} {a:Int} {m:Nat} (h:InR k a):InR k (a.fdiv (2^m)):=by
 have hp:(0:Int)<2^m:=Int.pow_pos (by omega)
 obtain ⟨h1,h2⟩:=h;have e:a.fdiv (2^m)=a/2^m:=Int.fdiv_eq_ediv_of_nonneg _ (by omega)
 rw [e];have hlo:loI k <= 0:=by cases k<;>simp [loI]
 have hhi:0 <= hiI k:=by cases k<;>simp [hiI]
 constructor
 ·have h0:a/2^m≥loI k:=by
   rw [ge_iff_le,Int.le_ediv_iff_mul_le hp];have:loI k*2^m <= loI k*1:=Int.mul_le_mul_of_nonpos_left hlo (by omega)
   omega
  exact h0
 ·have:a/2^m <= hiI k:=by
   apply Int.le_of_lt_add_one;rw [Int.ediv_lt_iff_lt_mul hp];have:(hiI k+1)*1 <= (hiI k+1)*2^m:=Int.mul_le_mul_of_nonneg_left (by omega) (by omega)
   omega
  exact this
theorem Zbwo {k:IntKind} {a b:Int} (h:InR k a):InR k (a.tmod b):=by
 obtain ⟨h1,h2⟩:=h;have hlo:loI k <= 0:=by cases k<;>simp [loI]
 have hhi:0 <= hiI k:=by cases k<;>simp [hiI]
 rcases Int.le_total 0 a with ha | ha
 ·have h3:=Int.tmod_nonneg b ha;have h4:a.tmod b <= a:=by
   have:=Int.mul_tdiv_add_tmod a b;have h5:0 <= b*(a.tdiv b):=by rcases Int.le_total 0 b with hb | hb;exact Int.mul_nonneg hb (Int.tdiv_nonneg ha hb);have:=Int.tdiv_nonpos_of_nonneg_of_nonpos ha hb;exact Int.mul_nonneg_of_nonpos_of_nonpos hb this
   omega
  exact ⟨by omega,by omega⟩
 ·have h3:a.tmod b <= 0:=by
   have:=Int.tmod_nonneg b (a:= -a) (by omega)
   rw [Int.neg_tmod] at this;omega
  have h4:a <= a.tmod b:=by
   have:=Int.mul_tdiv_add_tmod a b;have h5:b*(a.tdiv b) <= 0:=by
    rcases Int.le_total 0 b with hb | hb
    ·have:a.tdiv b <= 0:=by
      have:=Int.tdiv_nonneg (a:= -a) (b:=b) (by omega) hb
      rw [Int.neg_tdiv] at this;omega
     exact Int.mul_nonpos_of_nonneg_of_nonpos hb this
    ·have:0 <= a.tdiv b:=by
      have:=Int.tdiv_nonneg (a:= -a) (b:= -b) (by omega) (by omega)
      rw [Int.neg_tdiv,Int.tdiv_neg] at this;omega
     exact Int.mul_nonpos_of_nonpos_of_nonneg hb this
   omega
  exact ⟨by omega,by omega⟩
theorem Zbip (a b:List UInt8):bstr a++bstr b=bstr (a++b):=by
 have:(bstr a++bstr b).data=(bstr (a++b)).data:=by simp [bstr,ByteArray.data_append]
 cases h1:bstr a++bstr b;cases h2:bstr (a++b);rw [h1,h2] at this;simpa using this
theorem Zbyu {g:Gh} {H:Heap} {N:Nat} {eqa:TypeId->AV->AV->Option Bool} {eq:TypeId->Value->Value->Option Bool} {isA:TypeId->Option Bool} {sz:TypeId->Option Nat}
  (he: ∀t x y b u v,eqa t x y=some b->SimV g H N x u->SimV g H N y v->eq t u v=some b):
  ∀(fs:List Field) (xs ys:List AV) (us vs:List Value) (b:Bool),Zqn eqa isA sz fs xs ys=some b->SimL g H N xs us->SimL g H N ys vs->eqFs eq isA sz fs us vs=some b:=by
 intro fs;induction fs with
 | nil=>intro xs ys us vs b h _ _;exact h
 | cons f fs ih=>
  intro xs ys us vs b h hx hy;unfold Zqn at h;unfold eqFs;split at h;rename_i hA;simp only [hA];split at h;rename_i x y hxi hyi;obtain ⟨u,hu,hsu⟩:=hx.get hxi;obtain ⟨v,hv,hsv⟩:=hy.get hyi;simp only [hu,hv];split at h;rename_i b1 r h1 h2;simp only [he _ _ _ _ _ _ h1 hsu hsv,ih _ _ _ _ _ h2 hx hy];exact h;cases h;cases h
  ·rename_i hA;simp only [hA];split at h
   ·rename_i s hs;simp only [hs];split at h
    ·rename_i b1 r h1 h2;have e1:=he _ _ _ _ (.agg ⟨(us.drop f.offset).take s⟩) (.agg ⟨(vs.drop f.offset).take s⟩) h1 (by simp only [SimV];exact ⟨_,rfl,(hx.drop _).take _⟩) (by simp only [SimV];exact ⟨_,rfl,(hy.drop _).take _⟩)
     simp only [e1,ih _ _ _ _ _ h2 hx hy];exact h
    cases h
   cases h
  cases h
theorem Zbyt {P:Program} {g:Gh} {H:Heap} {N:Nat}: ∀(d:Nat) (t:TypeId) (x y:AV) (b:Bool) (u v:Value),eqA P d t x y=some b->SimV g H N x u->SimV g H N y v->Zca P d t u v=some b:=by
 intro d;induction d with
 | zero=>intro t x y b u v h;cases h
 | succ d ih=>
  intro t x y b u v h hx hy;unfold eqA at h;split at h;rename_i hu;simp only [SimV] at hx hy;subst hx hy;simp only [Zca,hu];exact h;rename_i hu;simp only [SimV] at hx hy;obtain ⟨rfl,_⟩:=hx;obtain ⟨rfl,_⟩:=hy;simp only [Zca,hu];exact h
  ·rename_i a c hu;simp only [SimV] at hx hy;obtain ⟨rfl,_⟩:=hx;obtain ⟨rfl,_⟩:=hy;have e:(bstr a==bstr c)=(a==c):=by show (a.toArray==c.toArray)=(a==c);rw [Bool.eq_iff_iff,beq_iff_eq,beq_iff_eq];simp
   simp only [Zca,hu,e];exact h
  rename_i fs xs ys hu;simp only [SimV] at hx hy;obtain ⟨us,rfl,hx⟩:=hx;obtain ⟨vs,rfl,hy⟩:=hy;split at h;rename_i h1 h2;simp only [Zca,hu,h1,h2];exact Zbyu (fun t x y b u v h hx hy=>ih t x y b u v h hx hy) _ _ _ _ _ _ h hx hy;cases h;cases h
theorem Zbxh {P:Program} {lit:Bool} {op:BinOp} {t:TypeId} {x y:AV} {u v:Value} {g:Gh} {H:Heap} {N:Nat} {K':AV->Prop} {K:Value->Heap->Prop} (h:binA P lit t op x y K') (hx:SimV g H N x u) (hy:SimV g H N y v)
  (hk: ∀a w,SimV g H N a w->K' a->K w H):BinW P lit op t u v H K:=by
 have ki: ∀(k:IntKind) (n:Int),InR k n->K' (.int k n)->K (.int k n) H:=fun k n hn h=>hk _ _ (by simp only [SimV];exact ⟨trivial,hn⟩) h
 have kb: ∀b:Bool,K' (.bool b)->K (.bool b) H:=fun b h=>hk _ _ (by simp only [SimV]) h
 unfold binA at h;split at h
 ·rename_i k a k' b;simp only [SimV] at hx hy;obtain ⟨rfl,hx⟩:=hx;obtain ⟨rfl,hy⟩:=hy;unfold BinW;simp only;split at h
  ·rename_i hs;rw [hs];obtain ⟨h0,h⟩:=h;have key:0 <= b∧SemW P (match op with | .shl=>pure (.int k (k.wrap (a*2^(min b.toNat k.bits)))) | _=>pure (.int k (a.fdiv (2^(min b.toNat k.bits))))) H K:=by refine ⟨h0,?_⟩;cases op<;>simp [Zlt] at hs;exact ki _ _ (Zhc _ _) h;exact ki _ _ (Zbwn hx) h
   cases decide (k=k')<;>exact key
  ·rename_i hs;rw [hs];split at h;exact h.elim
   ·rename_i hkk;rw [hkk];simp only;cases op<;>simp only [Zlt] at hs<;>simp only [Zrm] at h ⊢ <;>first | exact h.elim | (cases hs;done) | skip
    exact ki _ _ (Zhc _ _) h;exact ki _ _ (Zhc _ _) h;exact ki _ _ (Zhc _ _) h;exact ⟨h.1,ki _ _ (Zhc _ _) h.2⟩;exact ⟨h.1,ki _ _ (Zbwo hx) h.2⟩;exact ki _ _ (Zhc _ _) h;exact ki _ _ (Zhc _ _) h;exact ki _ _ (Zhc _ _) h;exact ki _ _ (Zhc _ _) h;exact kb _ h;exact kb _ h;exact kb _ h;exact kb _ h;exact kb _ h;exact kb _ h
 simp only [SimV] at hx hy;subst hx hy;split at h;rename_i hu;simp only [BinW,isEq,EqW,Zca,hu];exact kb _ h;rename_i hu;simp only [BinW,isEq,EqW,Zca,hu];exact kb _ h;exact h.elim
 ·rename_i a b;simp only [SimV] at hx hy;obtain ⟨rfl,hx⟩:=hx;obtain ⟨rfl,hy⟩:=hy;unfold BinW;simp only;have sz: ∀l:List UInt8,(bstr l).size=l.length:=fun l=>by simp [bstr,ByteArray.size]
  cases op<;>simp only at h ⊢ <;>first | exact h.elim | skip
  case add=>
   refine ⟨?_,?_⟩;rw [sz,sz];have:=h.1;unfold Zo at this;have hm:IntKind.i64.max=9223372036854775807:=rfl;rw [hm];omega;rw [Zbip];exact hk (.str (a++b)) _ (by simp only [SimV];exact ⟨trivial,by simpa using h.1⟩) h.2
  all_goals
   refine kb _ ?_;simp only [Zmw];exact h
 simp only [SimV] at hx hy;subst hx hy;split at h;rename_i hu;simp only [BinW,isEq,EqW,Zca,hu];exact kb _ h;rename_i hu;simp only [BinW,isEq,EqW,Zca,hu];exact kb _ h;exact h.elim
 ·rename_i ks xs;simp only [SimV,Zh] at hx hy;obtain ⟨a,n,c,rfl,hl,_,_,hc⟩:=hx;subst hy;have hn:a.isNone=true->xs.length=0:=fun e=>by rcases Nat.eq_zero_or_pos n with h0 | h0;simp only [asL] at hl;omega;obtain ⟨b,o,rfl,_⟩:=hc h0;cases e
  split at h;rename_i hu;simp only [BinW,isEq,EqW,Zca,hu];exact kb _ (h _ hn);rename_i hu;simp only [BinW,isEq,EqW,Zca,hu];exact kb _ (h _ hn);exact h.elim
 simp only [SimV] at hx hy;subst hx hy;split at h;rename_i hu;simp only [BinW,isEq,EqW,Zca,hu];exact kb _ h;rename_i hu;simp only [BinW,isEq,EqW,Zca,hu];exact kb _ h;exact h.elim;simp only [SimV] at hx hy;obtain ⟨_,rfl⟩:=hx;subst hy;split at h;rename_i hu;simp only [BinW,isEq,EqW,Zca,hu];exact kb _ h;rename_i hu;simp only [BinW,isEq,EqW,Zca,hu];exact kb _ h;exact h.elim
 ·rename_i xs ys;have hx':=hx;have hy':=hy;simp only [SimV] at hx' hy';obtain ⟨us,rfl,_⟩:=hx';obtain ⟨vs,rfl,_⟩:=hy';split at h
  ·rename_i b he hg hb;simp only [BinW,he,EqW,Zbyt 6 t _ _ b _ _ hb hx hy];refine ⟨hg,?_⟩;cases op<;>first | exact kb _ h | (cases he;done)
  exact h.elim
 ·rename_i a;simp only [SimV] at hx hy;subst hy;split at h
  ·split at h
   ·rename_i hu;cases a with
    | true=>simp only at hx;subst hx;simp only [BinW,isEq,EqW,Zca,hu];exact ⟨trivial,kb _ h⟩
    | false=>obtain ⟨t',u',hx⟩:=hx;subst hx;simp only [BinW,isEq,EqW,Zca,hu];exact kb _ h
   ·rename_i hu;cases a with
    | true=>simp only at hx;subst hx;simp only [BinW,isEq,EqW,Zca,hu];exact ⟨trivial,kb _ h⟩
    | false=>obtain ⟨t',u',hx⟩:=hx;subst hx;simp only [BinW,isEq,EqW,Zca,hu];exact kb _ h
   exact h.elim
  exact h.elim
 exact h.elim
end Go.Sh
end
section
namespace Go.Sh
variable [Laid]
def AtN {A:Type} (xs:List A) (i:Nat) (k:A->Prop):Prop:=i<xs.length∧∀x,xs[i]? =some x->k x
theorem AtN.get {A:Type} {xs:List A} {i:Nat} {k:A->Prop} (h:AtN xs i k): ∃x,xs[i]? =some x∧k x:=⟨xs[i]'h.1,List.getElem?_eq_getElem h.1,h.2 _ (List.getElem?_eq_getElem h.1)⟩
theorem Zc.congr {Z:Nat->Prop} {H:Heap}: ∀{ks:List Kd} {x:Tp ks} {f f':Nat->Option Value},(∀j,j<ks.length->f' j=f j)->Zc Z H ks x f->Zc Z H ks x f'
 | [],_,_,_,_,_=>by simp only [Zc]
 | k::ks,x,f,f',he,h=>by simp only [Zc] at h ⊢;refine ⟨by rw [he 0 (by simp)];exact h.1,Zc.congr (fun j hj=>he (j+1) (by simpa using hj)) h.2⟩
theorem Zbmt {g:Gh} {H:Heap} {N:Nat} {ks:List Kd} {xs:List (Tp ks)} {v:Value} (h:Zh g.Z H (.lst ks) xs v): ∃a n c,v= .slice a n c∧xs.length=n∧n <= c∧c <= Zo∧
  ∀i x,xs[i]? =some x->∃b o,a=some ⟨b,o,none⟩∧g.Z b∧WfT ks x∧∃vs,vs.length=ks.length∧SimL g H N (lvT ks x) vs∧∀j,j<vs.length->H.cell ⟨b,o+i*ks.length+j,none⟩=vs[j]? :=by
 simp only [Zh] at h;obtain ⟨a,n,c,h1,h2,h3,h4,h5⟩:=h;refine ⟨a,n,c,h1,h2,h3,h4,fun i x hx=>?_⟩;have hlt:i<xs.length:=by rcases Nat.lt_or_ge i xs.length with h | h;exact h;rw [List.getElem?_eq_none h] at hx;cases hx
 obtain ⟨b,o,ha,hz,cs,T,fr,hb,hc⟩:=h5 (by simp only [asL] at h2;omega)
 have hx':=hc i x hx;obtain ⟨vs,hl,hs,hv⟩:=Zoc (N:=N) hx';refine ⟨b,o,ha,hz,Zc.wf _ _ _ hx',vs,hl,hs,fun j hj=>?_⟩;rw [← hv j hj];simp only [Heap.cell,hb];rfl
theorem Zbc {g:Gh} {H:Heap} {N:Nat} {T:TypeId} {ks:List Kd} {xs:List (Tp ks)} {v:Value} {b:Nat} (h:Zlc g H T ks xs v b): ∃a n c,v= .slice a n c∧xs.length=n∧n <= c∧c <= Zo∧
  ∀i x,xs[i]? =some x->∃o,a=some ⟨b,o,none⟩∧WfT ks x∧∃vs,vs.length=ks.length∧SimL g H N (lvT ks x) vs∧∀j,j<vs.length->H.cell ⟨b,o+i*ks.length+j,none⟩=vs[j]? :=by
 obtain ⟨a,n,c,h1,h2,h3,h4,h5⟩:=h;refine ⟨a,n,c,h1,h2,h3,h4,fun i x hx=>?_⟩;have hlt:i<xs.length:=by rcases Nat.lt_or_ge i xs.length with h | h;exact h;rw [List.getElem?_eq_none h] at hx;cases hx
 rcases h5 with ⟨h,h6⟩ | ⟨o,h6,cs,T',hb,hsz,hc⟩;omega;have hx':=hc i x hx;obtain ⟨vs,hl,hs,hv⟩:=Zoc (N:=N) hx';refine ⟨o,h6,Zc.wf _ _ _ hx',vs,hl,hs,fun j hj=>?_⟩;rw [← hv j hj];simp only [Heap.cell,hb];rfl
def ldP (P:Program) (st:St) (t:TypeId) (a:AV) (K:AV->Prop):Prop:=
 match a with
 | .ptr id off=>match st.σ[id]? with
  | some (.obj _ _ cs)=>ldA P t (cs.drop off) K
  | _=>False
 | .rdp cs=>ldA P t cs K
 | .elm id sz i off=>match st.σ[id]? with
  | some (.row _ _ ks xs)=>match Nat.beq sz ks.length with
   | true=>AtN xs i fun x=>WfT ks x->ldA P t ((lvT ks x).drop off) K
   | false=>False
  | some (.frz ks xs)=>match Nat.beq sz ks.length with
   | true=>AtN xs i fun x=>WfT ks x->ldA P t ((lvT ks x).drop off) K
   | false=>False
  | _=>False
 | .arr id=>match st.σ[id]?,Zde P t,Nat.ble (P.cellsOf t) 24&&Nat.beq (leaves P 6 t).length (P.cellsOf t) with
  | some (.row _ _ ks xs),some true,false=>xs.length*ks.length=P.cellsOf t∧K (.arv ks xs)
  | _,_,_=>False
 | _=>False
theorem Zuc {H:Heap} {b o off:Nat} {vs:List Value} (h: ∀j,j<vs.length->H.cell ⟨b,o+j,none⟩=vs[j]?): ∀j,j<(vs.drop off).length->H.cell ⟨b,o+off+j,none⟩=(vs.drop off)[j]? :=by intro j hj;simp only [List.length_drop] at hj;rw [List.getElem?_drop,Nat.add_assoc];exact h _ (by omega)
theorem Zrq {P:Program} {E:En} {st:St} {ρ:Env} {H:Heap} {g:Gh} (s:Sim E st ρ H g) {t:TypeId} {a:AV} {v:Value} {K':AV->Prop} {K:Value->Heap->Prop} (h:ldP P st t a K') (ha:SimV g H st.σ.length a v)
  (hk: ∀a v,SimV g H st.σ.length a v->K' a->K v H):Zz P t v H K:=by
 unfold ldP at h;split at h
 ·rename_i id off;split at h
  ·rename_i T r cs ho;simp only [SimV] at ha;obtain ⟨_,rfl⟩:=ha;obtain ⟨vs,hb,hs⟩:=s.obj id _ ho;refine Zvr h (hs.drop off) (o:=off) ?_ hk;intro j hj;have:=Zuc (H:=H) (b:=g.B id) (o:=0) (off:=off) (vs:=vs) (fun j hj=>by simp only [Heap.cell,hb];simp) j hj
   simpa using this
  exact h.elim
 rename_i cs;simp only [SimV] at ha;obtain ⟨b,o,vs,rfl,hz,hs,hc⟩:=ha;exact Zvr h hs hc hk;rename_i id sz i off;simp only [SimV] at ha;obtain ⟨_,b,oo,n,c,hV,rfl⟩:=ha;split at h;rename_i T r ks xs ho;split at h;rename_i hsz;have hsz:=Nat.eq_of_beq_eq_true hsz;obtain ⟨x,hx,h⟩:=h.get;obtain ⟨a,n',c',h1,_,_,_,h2⟩:=Zbc (T:=T) (N:=st.σ.length) (s.obj id _ ho);obtain ⟨o',h3,hw,vs,hl,hs,hc⟩:=h2 i x hx;rw [hV] at h1;cases h1;simp only [Option.some.injEq,Addr.mk.injEq] at h3;obtain ⟨rfl,rfl,_⟩:=h3;refine Zvr (h hw) (hs.drop off) ?_ hk;rw [hsz];exact Zuc hc;exact h.elim;rename_i ks xs ho;split at h;rename_i hsz;have hsz:=Nat.eq_of_beq_eq_true hsz;obtain ⟨x,hx,h⟩:=h.get;obtain ⟨a,n',c',h1,_,_,_,h2⟩:=Zbmt (N:=st.σ.length) (s.obj id _ ho);obtain ⟨b',o',h3,_,hw,vs,hl,hs,hc⟩:=h2 i x hx;rw [hV] at h1;cases h1;simp only [Option.some.injEq,Addr.mk.injEq] at h3;obtain ⟨rfl,rfl,_⟩:=h3;refine Zvr (h hw) (hs.drop off) ?_ hk;rw [hsz];exact Zuc hc;exact h.elim;exact h.elim
 ·rename_i id;simp only [SimV] at ha;obtain ⟨_,b,m,c0,hV,rfl⟩:=ha;split at h
  ·rename_i T r ks xs ho hA hN;obtain ⟨hsz,h⟩:=h;obtain ⟨a,n,cap,h1,h2,h3,h4,h5⟩:=s.obj id _ ho;rw [hV] at h1;cases h1;rcases h5 with ⟨h6,_⟩ | ⟨o,h6,cs,T',hb,hle,hc⟩;cases h6
   ·simp only [Option.some.injEq,Addr.mk.injEq] at h6;obtain ⟨rfl,rfl,_⟩:=h6;have hmul:xs.length*ks.length <= c0*ks.length:=Nat.mul_le_mul_right _ (by omega)
    have hcl:cs.toList.length=cs.size:=Array.length_toList;unfold Zz;simp only [hA,hN];refine ⟨cs.toList.take (xs.length*ks.length),?_,fun j hj=>?_,?_⟩;rw [List.length_take,← hsz];omega
    ·rw [List.length_take] at hj;rw [Zfd rfl,List.getElem?_take,if_pos (by omega)]
     simp only [Heap.cell,hb,Nat.zero_add];simp
    ·refine hk _ _ ?_ h;simp only [SimV];refine ⟨_,rfl,by rw [List.length_take];omega,fun i x hx=>?_⟩
     have hlt:i<xs.length:=by rcases Nat.lt_or_ge i xs.length with h | h;exact h;rw [List.getElem?_eq_none h] at hx;cases hx
     refine Zc.congr (fun j hj=>?_) (hc i x hx);have hm2:(i+1)*ks.length <= xs.length*ks.length:=Nat.mul_le_mul_right _ (by omega)
     rw [Nat.add_mul,Nat.one_mul] at hm2;rw [List.getElem?_take,if_pos (by omega)]
     simp
  exact h.elim
 exact h.elim
def setA:List AV->Nat->List AV->List AV
 | cells,_,[]=>cells
 | cells,off,v::vs=>setA (cells.set off v) (off+1) vs
theorem Zwy {g:Gh} {H:Heap} {N:Nat}: ∀{as:List AV} {us:List Value} {cs:List AV} {vs:List Value} {off:Nat},SimL g H N as us->SimL g H N cs vs->SimL g H N (setA cs off as) (setL vs off us)
 | [],[],_,_,_,_,h=>h
 | [],_::_,_,_,_,h,_=>by simp only [SimL] at h
 | _::_,[],_,_,_,h,_=>by simp only [SimL] at h
 | a::as,u::us,cs,vs,off,h,hc=>by simp only [SimL] at h;simp only [setA,setL];exact Zwy h.2 (hc.set h.1)
theorem Zbeq: ∀(us:List Value) (vs:List Value) (off:Nat),putRow ⟨vs⟩ off us=⟨setL vs off us⟩
 | [],_,_=>rfl
 | u::us,vs,off=>by
  rw [putRow,setL];have:(⟨vs⟩:Array Value).setIfInBounds off u=⟨vs.set off u⟩:=by simp
  rw [this];exact Zbeq us _ _
theorem Zchd: ∀(us:List Value) (vs:List Value) (off j:Nat),off+us.length <= vs.length->(setL vs off us)[j]? =if off <= j∧j<off+us.length then us[j - off]? else vs[j]? :=by
 intro us vs off j h;have:=Zkl us ⟨vs⟩ off j (by simpa using h)
 rw [Zbeq] at this;simpa using this
theorem Zzv {b:Nat} {T:TypeId} {o:Nat} {K:Heap->Prop}: ∀(vs:List Value) (i:Nat) (H:Heap) (c:Array Value),H b=some (.cells c T (0,0))->(∀v∈vs,Zcy v=true)->o+i+vs.length <= c.size->
  (vs= []->K H)->(∀H',H' b=some (.cells (putRow c (o+i) vs) T (0,0))->(∀b',b'≠b->H' b'=H b')->K H')->Zfc ⟨b,o,none⟩ i vs H K:=by
 intro vs;induction vs with
 | nil=>intro i H c hb _ _ hn hk;exact hn rfl
 | cons v vs ih=>
  intro i H c hb hv hl _ hk;simp only [List.length_cons] at hl;unfold Zfc;have ha:padd (⟨b,o,none⟩:Addr) i=⟨b,o+i,none⟩:=by rw [Zog];exact Zfd rfl i
  rw [ha];refine Za.blk (T:=T) (c:=c) hb (by omega) (hv v List.mem_cons_self) ?_
  refine ih (i+1) _ (c.setIfInBounds (o+i) v) Sh.upd_eq (fun v hv'=>hv v (List.mem_cons_of_mem _ hv')) (by simp;omega) (fun hn=>?_) fun H' hb' ho=>?_
  subst hn;refine hk _ (by simp [putRow,Sh.upd_eq]) fun b' hne=>Sh.upd_ne hne
  ·refine hk H' (by simpa [putRow,Nat.add_assoc] using hb') fun b' hne=>?_
   rw [ho b' hne,Sh.upd_ne hne]
def Zex (σ:List AObj):AV->AV
 | .row id=>match σ[id]? with
  | some (.row _ _ ks xs)=> .lst ks xs
  | some (.frz ks xs)=> .lst ks xs
  | _=> .undef
 | a=>a
def frzO (σ:List AObj):AV->Option (List AObj)
 | .row id=>match σ[id]? with
  | some (.row _ false ks xs)=>some (σ.set id (.frz ks xs))
  | some (.frz _ _)=>some σ
  | _=>none
 | _=>some σ
def frzL:List AObj->List AV->Option (List AObj)
 | σ,[]=>some σ
 | σ,a::as=>match frzO σ a with
  | some σ'=>frzL σ' as
  | none=>none
theorem Zcju {E:En} {st:St} {ρ:Env} {H:Heap} {g:Gh} (s:Sim E st ρ H g) {a:AV} {v:Value} (hf: ∀id,a= .row id->∃ks xs,st.σ[id]? =some (.frz ks xs)) (h:SimV g H st.σ.length a v):SimV g H st.σ.length (Zex st.σ a) v:=by
 cases a<;>first | exact h | skip
 rename_i id;obtain ⟨ks,xs,ho⟩:=hf id rfl;simp only [Zex,ho];simp only [SimV] at h ⊢;rw [h.2.1];exact s.obj id _ ho
theorem Zbcr {E:En} {st:St} {ρ:Env} {H:Heap} {g:Gh} (s:Sim E st ρ H g) {a:AV} {σ':List AObj} (h:frzO st.σ a=some σ'):
  ∃g',Sim E ⟨st.α,σ'⟩ ρ H g'∧Rel st H g ⟨st.α,σ'⟩ H g'∧σ'.length=st.σ.length∧(∀id,a= .row id->∃ks xs,σ'[id]? =some (.frz ks xs))∧∀(id:Nat) (ks:List Kd) (xs:List (Tp ks)),st.σ[id]? =some (.frz ks xs)->σ'[id]? =some (.frz ks xs):=by
 have triv:(∀id,a≠ .row id)->σ'=st.σ->∃g',Sim E ⟨st.α,σ'⟩ ρ H g'∧Rel st H g ⟨st.α,σ'⟩ H g'∧σ'.length=st.σ.length∧(∀id,a= .row id->∃ks xs,σ'[id]? =some (.frz ks xs))∧∀(id:Nat) (ks:List Kd) (xs:List (Tp ks)),st.σ[id]? =some (.frz ks xs)->σ'[id]? =some (.frz ks xs):=by rintro hn rfl;exact ⟨g,s,.refl _ _ _,rfl,fun id e=>absurd e (hn id),fun _ _ _ h=>h⟩
 unfold frzO at h;split at h
 ·rename_i id;split at h
  ·rename_i T ks xs ho;cases h;obtain ⟨g',h1,h2,_,_⟩:=s.freeze ho;have hlt:=Zbr ho;refine ⟨g',h1,h2,by simp,fun id' e=>?_,fun id' ks' xs' h'=>?_⟩
   cases e;exact ⟨ks,xs,by rw [List.getElem?_set,if_pos rfl,if_pos hlt]⟩
   rw [List.getElem?_set];by_cases e:id=id';subst e;rw [ho] at h';cases h';rw [if_neg e];exact h'
  rename_i ks xs ho;cases h;exact ⟨g,s,.refl _ _ _,rfl,fun id' e=>by cases e;exact ⟨ks,xs,ho⟩,fun _ _ _ h=>h⟩
  cases h
 rename_i hn;cases h;exact triv (fun id e=>hn id e) rfl
theorem Zbcq {E:En} {ρ:Env} {H:Heap} {α:Nat->AV}: ∀(as:List AV) (σ σ':List AObj) (g:Gh),Sim E ⟨α,σ⟩ ρ H g->frzL σ as=some σ'->
  ∃g',Sim E ⟨α,σ'⟩ ρ H g'∧Rel ⟨α,σ⟩ H g ⟨α,σ'⟩ H g'∧σ'.length=σ.length∧(∀a∈as,∀id,a= .row id->∃ks xs,σ'[id]? =some (.frz ks xs))∧∀(id:Nat) (ks:List Kd) (xs:List (Tp ks)),σ[id]? =some (.frz ks xs)->σ'[id]? =some (.frz ks xs):=by
 intro as;induction as with
 | nil=>
  intro σ σ' g s h;simp only [frzL,Option.some.injEq] at h;subst h;exact ⟨g,s,.refl _ _ _,rfl,by simp,fun _ _ _ h=>h⟩
 | cons a as ih=>
  intro σ σ' g s h;simp only [frzL] at h;split at h;rename_i σ1 h1;obtain ⟨g1,s1,r1,l1,f1,k1⟩:=Zbcr s h1;obtain ⟨g2,s2,r2,l2,f2,k2⟩:=ih σ1 σ' g1 s1 h;refine ⟨g2,s2,r1.trans r2,l2.trans l1,fun b hb id e=>?_,fun id ks xs h=>k2 _ _ _ (k1 _ _ _ h)⟩;rcases List.mem_cons.1 hb with rfl | hb;obtain ⟨ks,xs,h3⟩:=f1 id e;exact ⟨ks,xs,k2 _ _ _ h3⟩;exact f2 b hb id e;cases h
theorem Zxx {E:En} {st:St} {ρ:Env} {H:Heap} {g:Gh} (s:Sim E st ρ H g): ∀{as:List AV} {vs:List Value},(∀a∈as,∀id,a= .row id->∃ks xs,st.σ[id]? =some (.frz ks xs))->SimL g H st.σ.length as vs->SimL g H st.σ.length (as.map (Zex st.σ)) vs
 | [],[],_,_=>by simp only [List.map_nil,SimL]
 | [],_::_,_,h=>by simp only [SimL] at h
 | _::_,[],_,h=>by simp only [SimL] at h
 | a::as,v::vs,hf,h=>by simp only [SimL] at h;simp only [List.map_cons,SimL];exact ⟨Zcju s (hf a List.mem_cons_self) h.1,Zxx s (fun b hb=>hf b (List.mem_cons_of_mem _ hb)) h.2⟩
def stP (P:Program) (st:St) (t:TypeId) (a v:AV) (K:St->Prop):Prop:=
 match szOf P t,Ztz v with
 | some s,true=>match Nat.beq (Zbz v).length s with
  | true=>match a with
   | .ptr id off=>match st.σ[id]? with
    | some (.obj T false cs)=>match Nat.ble (off+(Zbz v).length) cs.length with
     | true=>K (st.obj id (.obj T false (setA cs off (Zbz v))))
     | false=>False
    | _=>False
   | .elm id sz i off=>match frzL st.σ (Zbz v) with
    | some σ1=>match σ1[id]? with
     | some (.row T false ks xs)=>match Nat.beq sz ks.length&&Nat.ble (off+(Zbz v).length) ks.length with
      | true=>AtN xs i fun x=>WfT ks x->match unT ks (setA (lvT ks x) off ((Zbz v).map (Zex σ1))) with
       | some y=>K ⟨st.α,σ1.set id (.row T false ks (xs.set i y))⟩
       | none=>False
      | false=>False
     | _=>False
    | none=>False
   | _=>False
  | false=>False
 | _,_=>False
theorem Zcgd {g:Gh} {H H':Heap} {N:Nat} {T T0:TypeId} {ks:List Kd} {xs:List (Tp ks)} {v:Value} {b i off oo nn cc:Nat} (hv:v= .slice (some ⟨b,oo,none⟩) nn cc) {x y:Tp ks} {c:Array Value} {as:List AV} {us:List Value} (h:Zlc g H T ks xs v b) (hx:xs[i]? =some x)
  (hb:H b=some (.cells c T0 (0,0))) (hz: ∀b,g.Z b->H' b=H b) (hu:SimL g H N as us) (hlen:off+us.length <= ks.length) (hy:unT ks (setA (lvT ks x) off as)=some y)
  (hb':H' b=some (.cells (putRow c (oo+i*ks.length+off) us) T0 (0,0))):Zlc g H' T ks (xs.set i y) v b:=by
 obtain ⟨a,n,cap,h1,h2,h3,h4,h5⟩:=h;refine ⟨a,n,cap,h1,by simpa using h2,h3,h4,?_⟩
 have hlt:i<xs.length:=by rcases Nat.lt_or_ge i xs.length with h | h;exact h;rw [List.getElem?_eq_none h] at hx;cases hx
 rcases h5 with ⟨h,h6⟩ | ⟨o,h6,cs,T',hb2,hsz,hc⟩;omega;rw [hb] at hb2;cases hb2;rw [h1,h6] at hv;cases hv;have hmul:(i+1)*ks.length <= cc*ks.length:=Nat.mul_le_mul_right _ (by omega)
 rw [Nat.add_mul] at hmul;have hfit:oo+i*ks.length+off+us.length <= c.size:=by omega
 refine .inr ⟨oo,h6,_,_,hb',by rw [Zwp];exact hsz,fun j z hj=>?_⟩
 rw [List.getElem?_set] at hj;by_cases e:i=j
 ·subst e;rw [if_pos rfl,if_pos hlt] at hj;cases hj;have hx':=hc i x hx;obtain ⟨vs,hl,hs,hv⟩:=Zoc (N:=N) hx';have hset:=Zwy (off:=off) hu hs;have:=Zks hy hset;refine Zc.ext (Z:=g.Z) (H:=H) (fun b hb=>⟨hb,hz b hb⟩) _ _ _ (Zc.congr (fun k hk=>?_) this);rw [Zkl _ _ _ _ hfit,Zchd _ _ _ _ (by omega)]
  by_cases hr:off <= k∧k<off+us.length
  ·rw [if_pos (by omega),if_pos hr]
   congr 1;omega
  ·rw [if_neg (by omega),if_neg hr]
   exact hv k (by omega)
 ·rw [if_neg e] at hj;refine Zc.ext (Z:=g.Z) (H:=H) (fun b hb=>⟨hb,hz b hb⟩) _ _ _ (Zc.congr (fun k hk=>?_) (hc j z hj));rw [Zkl _ _ _ _ hfit,if_neg];intro hr;rcases Nat.lt_or_gt_of_ne e with h | h
  ·have:(i+1)*ks.length <= j*ks.length:=Nat.mul_le_mul_right _ (by omega)
   rw [Nat.add_mul] at this;omega
  ·have:(j+1)*ks.length <= i*ks.length:=Nat.mul_le_mul_right _ (by omega)
   rw [Nat.add_mul] at this;omega
theorem Zchs {P:Program} {E:En} {st:St} {ρ:Env} {H:Heap} {g:Gh} (s:Sim E st ρ H g) {t:TypeId} {a x:AV} {va vx:Value} {K':St->Prop} {K:AV->St->Prop} (h:stP P st t a x K') (ha:SimV g H st.σ.length a va) (hx:SimV g H st.σ.length x vx)
  (hk: ∀st',K' st'->K .undef st'):Zdk P t va vx H (Res E st ρ H g K):=by
 unfold stP at h;split at h
 ·rename_i sz hsz hcel;obtain ⟨hsx,hpl⟩:=Zbas hcel hx;have hlen:=hsx.len;split at h
  ·rename_i hn;have hn:=Nat.eq_of_beq_eq_true hn;have hn2:Nat.beq vx.cells.toList.length sz=true:=by rw [← hlen,hn];exact Nat.beq_refl _
   split at h
   ·rename_i id off;split at h
    ·rename_i T cs ho;split at h
     ·rename_i hle;have hle:=Nat.le_of_ble_eq_true hle;simp only [SimV] at ha;obtain ⟨_,rfl⟩:=ha;obtain ⟨vs,hb,hs⟩:=s.obj id _ ho;have hl2:=hs.len;unfold Zdk;simp only [Zu,hsz,hn2];have fin: ∀H',H' (g.B id)=some (.cells (putRow ⟨vs⟩ off vx.cells.toList) T (0,0))->(∀b',b'≠g.B id->H' b'=H b')->Res E st ρ H g K undef H':=by
       intro H' hb' hoth;rw [Zbeq] at hb';obtain ⟨s',r'⟩:=s.turn (o':= .obj T false (setA cs off (Zbz x))) ho rfl trivial hoth (by rw [hb'];simp) (fun _=>trivial) fun hext=>⟨_,hb',SimL.ext (Nat.le_refl _) hext _ _ (Zwy hsx hs)⟩
       exact ⟨.undef,_,g,s',r',by simp only [SimV],rfl,hk _ h⟩
      refine Zzv _ 0 H ⟨vs⟩ hb (Zbej hpl hsx) (by simp only [List.size_toArray];omega) (fun he=>?_) (fun H' hb' hoth=>fin H' (by simpa using hb') hoth)
      exact fin H (by rw [he];exact hb) fun _ _=>rfl
     exact h.elim
    exact h.elim
   ·rename_i id sz' i off;split at h
    ·rename_i σ1 hf;obtain ⟨g1,s1,r1,l1,f1,_⟩:=Zbcq (Zbz x) st.σ σ1 g s hf;split at h
     ·rename_i T ks xs ho;split at h
      ·rename_i hle;simp only [Bool.and_eq_true] at hle;have hsz':=Nat.eq_of_beq_eq_true hle.1;have hle:=Nat.le_of_ble_eq_true hle.2;simp only [SimV] at ha;obtain ⟨hid,b,oo,n,c,hV,rfl⟩:=ha;obtain ⟨y,hy,h⟩:=h.get;have hrow:=s1.obj id _ ho;obtain ⟨a',n',c',h1,h2',h3',h4',h5'⟩:=hrow;have hV1:g1.V id=g.V id:=r1.ext.v id hid;have hrow:=s1.obj id _ ho;obtain ⟨_,_,_,h1',_,_,_,hat⟩:=Zbc (T:=T) (N:=σ1.length) hrow;obtain ⟨o2,ha1,hw,_⟩:=hat i y hy;rw [hV1,hV] at h1';cases h1';simp only [Option.some.injEq,Addr.mk.injEq] at ha1;obtain ⟨rfl,rfl,_⟩:=ha1;have h:=h hw;split at h
       ·rename_i z hz;have hHas:Has g1 id (.row T false ks xs):=⟨_,_,_,by rw [hV1,hV]⟩
        obtain ⟨c2,T2,hb2⟩:=s1.live ho hHas;have hb: ∃c T',H (g1.B id)=some (.cells c T' (0,0))∧oo+c'*ks.length <= c.size:=by rcases h5' with ⟨h6,h7⟩ | ⟨o3,h6,cc,T',hcc,hs2,_⟩;rw [h1] at hV1;rw [hV] at hV1;cases hV1;cases h6;rw [h1,h6] at hV1;rw [hV] at hV1;cases hV1;exact ⟨cc,T',hcc,hs2⟩
        obtain ⟨c2,T',hb,hcs⟩:=hb;have hilt:i<xs.length:=by rcases Nat.lt_or_ge i xs.length with h | h;exact h;rw [List.getElem?_eq_none h] at hy;cases hy
        have hmul:(i+1)*ks.length <= c'*ks.length:=Nat.mul_le_mul_right _ (by omega)
        rw [Nat.add_mul] at hmul;have hsx1:SimL g1 H σ1.length ((Zbz x).map (Zex σ1)) vx.cells.toList:=by refine Zxx s1 f1 ?_;have:=SimL.ext r1.len r1.ext _ _ hsx;exact this
        unfold Zdk;simp only [Zu,hsz,hn2];have fin: ∀H',H' (g1.B id)=some (.cells (putRow c2 (oo+i*sz'+off) vx.cells.toList) T' (0,0))->(∀b',b'≠g1.B id->H' b'=H b')->Res E st ρ H g K undef H':=by
         intro H' hb' hoth;obtain ⟨s',r'⟩:=s1.turn (o':= .row T false ks (xs.set i z)) ho rfl hHas hoth (by rw [hb'];simp) (fun _=>trivial) fun hext=>by rw [hsz'] at hb';exact Zcgd (T:=T) (N:=σ1.length) (oo:=oo) (by rw [hV1,hV]) hrow hy hb (fun b hbz=>(hext.z b hbz).2) hsx1 (by omega) hz hb'
         exact ⟨.undef,_,g1,s',r1.trans r',by simp only [SimV],rfl,hk _ h⟩
        refine Zzv _ 0 H c2 hb (Zbej hpl hsx) (by rw [hsz'];omega) (fun he=>?_) (fun H' hb' hoth=>fin H' (by simpa using hb') hoth)
        exact fin H (by rw [he];exact hb) fun _ _=>rfl
       exact h.elim
      exact h.elim
     exact h.elim
    exact h.elim
   exact h.elim
  exact h.elim
 exact h.elim
end Go.Sh
end
section
namespace Go.Sh
variable [Laid]
def ixP (P:Program) (st:St) (t:TypeId) (x i:AV) (K:AV->Prop):Prop:=
 match P.underlying t,x,i with
 | some (.slice e),.lst ks xs,.int _ n=>match szOf P e with
  | some s=>match Nat.beq s ks.length with
   | true=>0 <= n∧AtN xs n.toNat fun x=>WfT ks x->K (.rdp (lvT ks x))
   | false=>False
  | none=>False
 | some (.slice e),.row id,.int _ n=>match szOf P e with
  | some s=>match st.σ[id]? with
   | some (.row _ _ ks xs)=>match Nat.beq s ks.length with
    | true=>0 <= n∧n<xs.length∧K (.elm id s n.toNat 0)
    | false=>False
   | some (.frz ks xs)=>match Nat.beq s ks.length with
    | true=>0 <= n∧AtN xs n.toNat fun x=>WfT ks x->K (.rdp (lvT ks x))
    | false=>False
   | _=>False
  | none=>False
 | some (.array len e),.ptr id off,.int _ (.ofNat m)=>match szOf P e with
  | some s=>match Nat.blt m len with
   | true=>K (.ptr id (off+m*s))
   | false=>False
  | none=>False
 | some (.slice e),.osl id off len _,.int _ (.ofNat m)=>match szOf P e with
  | some s=>match Nat.blt m len with
   | true=>K (.ptr id (off+m*s))
   | false=>False
  | none=>False
 | some (.array len e),.rdp cs,.int _ (.ofNat m)=>match szOf P e with
  | some s=>match Nat.blt m len with
   | true=>K (.rdp (cs.drop (m*s)))
   | false=>False
  | none=>False
 | some (.array len e),.arr id,.int _ n=>match szOf P e with
  | some s=>0 <= n∧n<(len:Int)∧K (.elm id s n.toNat 0)
  | none=>False
 | _,_,_=>False
theorem Zbet {g:Gh} {H:Heap} {N:Nat} {cs:List AV} {b o d:Nat} {vs:List Value} (hz:g.Z b) (hs:SimL g H N cs vs) (hc: ∀j,j<vs.length->H.cell ⟨b,o+j,none⟩=vs[j]?):SimV g H N (.rdp (cs.drop d)) (.pointer (some ⟨b,o+d,none⟩)):=by simp only [SimV];exact ⟨b,o+d,vs.drop d,rfl,hz,hs.drop d,Zuc hc⟩
theorem Zbmv {P:Program} {g:Gh} {H:Heap} {N:Nat} {ks:List Kd} {xs:List (Tp ks)} {v:Value} {t e:TypeId} {k:IntKind} {n:Int} {s:Nat} {K':AV->Prop} {K:Value->Heap->Prop} (hu:P.underlying t=some (.slice e)) (hs:szOf P e=some s) (hsz:s=ks.length)
  (hv:Zh g.Z H (.lst ks) xs v) (h0:0 <= n) (h:AtN xs n.toNat fun x=>WfT ks x->K' (.rdp (lvT ks x))) (hk: ∀a v,SimV g H N a v->K' a->K v H):Zfb P t v (.int k n) H K:=by
 obtain ⟨x,hx,h⟩:=h.get;obtain ⟨a,m,c,rfl,hl,_,_,hat⟩:=Zbmt (N:=N) hv;obtain ⟨b,o,rfl,hz,hw,vs,hvl,hvs,hvc⟩:=hat _ x hx;have hlt:n.toNat<xs.length:=by rcases Nat.lt_or_ge n.toNat xs.length with h | h;exact h;rw [List.getElem?_eq_none h] at hx;cases hx
 unfold Zfb;simp only [hu,Zu,hs];refine ⟨h0,by omega,?_⟩
 refine hk _ _ ?_ (h hw);have:=Zbet (d:=0) hz hvs hvc;rw [hsz];simpa using this
theorem Zcam {P:Program} {E:En} {st:St} {ρ:Env} {H:Heap} {g:Gh} (s:Sim E st ρ H g) {t:TypeId} {x i:AV} {vx vi:Value} {K':AV->Prop} {K:Value->Heap->Prop} (h:ixP P st t x i K') (hx:SimV g H st.σ.length x vx) (hi:SimV g H st.σ.length i vi)
  (hk: ∀a v,SimV g H st.σ.length a v->K' a->K v H):Zfb P t vx vi H K:=by
 unfold ixP at h;split at h;rename_i e ks xs k n hu;simp only [SimV] at hx hi;obtain ⟨rfl,_⟩:=hi;split at h;rename_i sz hs;split at h;rename_i hsz;exact Zbmv hu hs (Nat.eq_of_beq_eq_true hsz) hx h.1 h.2 hk;exact h.elim;exact h.elim
 ·rename_i e id k n hu;simp only [SimV] at hx hi;obtain ⟨rfl,_⟩:=hi;obtain ⟨hid,rfl,_⟩:=hx;split at h
  ·rename_i sz hs;split at h
   ·rename_i T r ks xs ho;split at h
    ·rename_i hsz;have hsz:=Nat.eq_of_beq_eq_true hsz;obtain ⟨h0,h1,h⟩:=h;obtain ⟨a,m,c,hV,hl,hm,_,h5⟩:=s.obj id _ ho;obtain ⟨o5,rfl⟩: ∃o,a=some ⟨g.B id,o,none⟩:=by rcases h5 with ⟨_,h6⟩ | ⟨o,h6,_⟩;omega;exact ⟨o,h6⟩
     rw [hV];unfold Zfb;simp only [hu,Zu,hs];refine ⟨h0,by omega,?_⟩
     refine hk _ _ ?_ h;simp only [SimV];exact ⟨hid,_,_,_,_,hV,by simp⟩
    exact h.elim
   rename_i ks xs ho;split at h;rename_i hsz;exact Zbmv hu hs (Nat.eq_of_beq_eq_true hsz) (s.obj id _ ho) h.1 h.2 hk;exact h.elim;exact h.elim
  exact h.elim
 ·rename_i len e id off k m hu;simp only [SimV] at hx hi;obtain ⟨rfl,_⟩:=hi;obtain ⟨hid,rfl⟩:=hx;split at h
  ·rename_i sz hs;split at h
   ·rename_i hlt;have hlt:m<len:=by simpa using hlt
    unfold Zfb;simp only [hu,Zu,hs];refine ⟨by simp,by simpa using hlt,?_⟩
    refine hk _ _ ?_ h;simp only [SimV];exact ⟨hid,by simp⟩
   exact h.elim
  exact h.elim
 ·rename_i e id off len cap k m hu;simp only [SimV] at hx hi;obtain ⟨rfl,_⟩:=hi;obtain ⟨hid,rfl⟩:=hx;split at h
  ·rename_i sz hs;split at h
   ·rename_i hlt;have hlt:m<len:=by simpa using hlt
    unfold Zfb;simp only [hu,Zu,hs,NilP];refine ⟨by simp,by simpa using hlt,?_⟩
    refine hk _ _ ?_ h;simp only [SimV];exact ⟨hid,by simp⟩
   exact h.elim
  exact h.elim
 ·rename_i len e cs k m hu;simp only [SimV] at hx hi;obtain ⟨rfl,_⟩:=hi;obtain ⟨b,o,vs,rfl,hz,hvs,hvc⟩:=hx;split at h
  ·rename_i sz hs;split at h
   ·rename_i hlt;have hlt:m<len:=by simpa using hlt
    unfold Zfb;simp only [hu,Zu,hs];refine ⟨by simp,by simpa using hlt,?_⟩
    exact hk _ _ (by simpa using Zbet (d:=m*sz) hz hvs hvc) h
   exact h.elim
  exact h.elim
 ·rename_i len e id k n hu;simp only [SimV] at hx hi;obtain ⟨rfl,_⟩:=hi;obtain ⟨hid,b,m,c,hV,rfl⟩:=hx;split at h;rename_i sz hs;obtain ⟨h0,h1,h⟩:=h;unfold Zfb;simp only [hu,Zu,hs];refine ⟨h0,h1,?_⟩;refine hk _ _ ?_ h;simp only [SimV];exact ⟨hid,_,_,_,_,hV,by simp⟩
  exact h.elim
 exact h.elim
def inP (P:Program) (t:TypeId) (x i:AV) (K:AV->Prop):Prop:=
 match P.underlying t,x,i with
 | some .string,.str l,.int _ n=>0 <= n∧AtN l n.toNat fun c=>K (.int .u8 (c.toNat:Int))
 | some (.array len e),.agg cs,.int _ (.ofNat m)=>match szOf P e,Zde P e,Nat.blt m len with
  | some s,some true,true=>K (.agg ((cs.drop (m*s)).take s))
  | some s,some false,true=>match cs[m*s]? with
   | some a=>K a
   | none=>False
  | _,_,_=>False
 | _,_,_=>False
theorem Zbzy {P:Program} {g:Gh} {H:Heap} {N:Nat} {t:TypeId} {x i:AV} {vx vi:Value} {K':AV->Prop} {K:Value->Heap->Prop} (h:inP P t x i K') (hx:SimV g H N x vx) (hi:SimV g H N i vi) (hk: ∀a v,SimV g H N a v->K' a->K v H):IdxW P t vx vi H K:=by
 unfold inP at h;split at h
 ·rename_i l k n hu;simp only [SimV] at hx hi;obtain ⟨rfl,_⟩:=hi;obtain ⟨rfl,_⟩:=hx;obtain ⟨h0,h⟩:=h;obtain ⟨c,hc,h⟩:=h.get;have hlt:n.toNat<l.length:=by rcases Nat.lt_or_ge n.toNat l.length with h | h;exact h;rw [List.getElem?_eq_none h] at hc;cases hc
  unfold IdxW;simp only [hu];refine ⟨h0,by simp [bstr,ByteArray.size];omega,?_⟩
  have e:(bstr l).data.getD n.toNat 0=c:=by simp only [bstr,Array.getD_eq_getD_getElem?,List.getElem?_toArray,hc,Option.getD_some]
  show K (.int .u8 ((bstr l).data.getD n.toNat 0).toNat) H;rw [e];exact hk _ _ (by simp only [SimV];exact ⟨trivial,by have:=UInt8.toNat_lt c;simp only [InR,loI,hiI];omega⟩) h
 ·rename_i len e cs k m hu;simp only [SimV] at hx hi;obtain ⟨rfl,_⟩:=hi;obtain ⟨vs,rfl,hs⟩:=hx;split at h
  ·rename_i sz hsz hA hlt;have hlt:m<len:=by simpa using hlt
   unfold IdxW;simp only [hu,Zu,hsz,hA];refine ⟨by simp,by simpa using hlt,?_⟩
   refine hk _ _ ?_ h;simp only [SimV];exact ⟨_,rfl,(hs.drop _).take _⟩
  ·rename_i sz hsz hA hlt;have hlt:m<len:=by simpa using hlt
   split at h
   ·rename_i a ha;obtain ⟨v,hv,hsv⟩:=hs.get ha;unfold IdxW;simp only [hu,Zu,hsz,hA];refine ⟨by simp,by simpa using hlt,?_⟩
    have:vs[(Int.ofNat m).toNat*sz]? =some v:=by simpa using hv
    simp only [this];exact hk _ _ hsv h
   exact h.elim
  exact h.elim
 exact h.elim
def slN (hi:Option AV) (dflt bound:Nat) (k:Nat->Prop):Prop:=match hi with
 | none=>k dflt
 | some (.int _ n)=>0 <= n∧n <= bound∧k n.toNat
 | some _=>False
def cut {A:Type} (xs:List A) (lo hi:Option AV) (K:List A->Prop):Prop:=match lo,hi with
 | none,none=>K xs
 | none,some _=>slN hi 0 xs.length fun h=>K (xs.take h)
 | some _,none=>slN lo 0 xs.length fun l=>K (xs.drop l)
 | some _,some _=>slN hi 0 xs.length fun h=>slN lo 0 h fun l=>K ((xs.take h).drop l)
theorem Zxc {g:Gh} {H:Heap} {N:Nat} {a:AV} {v:Value} {len cap d b:Nat} {k k':Nat->Prop} (h:slN (some a) d b k) (ha:SimV g H N a v) (hb:b <= cap) (hk: ∀n,n <= b->k n->k' n):slHi (some v) len cap k':=by
 unfold slN at h;split at h;rename_i e;cases e;rename_i n e;cases e;simp only [SimV] at ha;obtain ⟨rfl,_⟩:=ha;exact ⟨h.1,by omega,hk _ (by omega) h.2.2⟩
 exact h.elim
def loK (vlo:Option Value) (k':Nat->Option Nat->Prop) (n:Nat):Prop:=match vlo with
 | none=>k' n none
 | some v=>slHi (some v) 0 n fun l=>k' n (some l)
theorem Zbbi {A:Type} {g:Gh} {H:Heap} {N:Nat} {xs:List A} {lo hi:Option AV} {vlo vhi:Option Value} {K:List A->Prop} {cap:Nat} {k':Nat->Option Nat->Prop} (h:cut xs lo hi K) (hl: ∀a,lo=some a->∃v,vlo=some v∧SimV g H N a v) (hl0:lo=none->vlo=none)
  (hh: ∀a,hi=some a->∃v,vhi=some v∧SimV g H N a v) (hh0:hi=none->vhi=none) (hc:xs.length <= cap)
  (hk0: ∀n,n <= xs.length->K (xs.take n)->k' n none) (hk1: ∀n l,n <= xs.length->l <= n->K ((xs.take n).drop l)->k' n (some l)):
  slHi vhi xs.length cap (loK vlo k'):=by
 unfold cut at h;split at h;rw [hl0 rfl,hh0 rfl];exact hk0 _ (Nat.le_refl _) (by rw [List.take_length];exact h)
 rename_i a;obtain ⟨v,rfl,hv⟩:=hh a rfl;rw [hl0 rfl];exact Zxc h hv hc fun n hn h=>hk0 n hn h;rename_i a;obtain ⟨v,rfl,hv⟩:=hl a rfl;rw [hh0 rfl];exact Zxc h hv (Nat.le_refl _) fun l hl h=>hk1 _ l (Nat.le_refl _) hl (by rw [List.take_length];exact h)
 rename_i a b;obtain ⟨v,rfl,hv⟩:=hl a rfl;obtain ⟨u,rfl,hu⟩:=hh b rfl;exact Zxc h hu hc fun n hn h=>Zxc h hv (Nat.le_refl _) fun l hl h=>hk1 n l hn hl h
def natA:Option AV->Nat->Option Nat
 | none,d=>some d
 | some (.int _ (.ofNat m)),_=>some m
 | _,_=>none
theorem Zwe {g:Gh} {H:Heap} {N:Nat} {lo:Option AV} {vlo:Option Value} {len cap m:Nat} {k:Nat->Prop} (h:natA lo len=some m) (h0:lo=none->vlo=none) (h1: ∀b,lo=some b->∃v,vlo=some v∧SimV g H N b v) (hm:m <= cap) (hk:k m):slHi vlo len cap k:=by
 unfold natA at h;split at h;cases h;rw [h0 rfl];exact hk;cases h;obtain ⟨v,rfl,hv⟩:=h1 _ rfl;simp only [SimV] at hv;obtain ⟨rfl,_⟩:=hv;exact ⟨by simp,by simp;omega,by simpa using hk⟩
 cases h
def slP (P:Program) (st:St) (t:TypeId) (x:AV) (lo hi:Option AV) (mx:Option AV) (K:AV->St->Prop):Prop:=
 match P.underlying t,x,mx with
 | some .string,.str l,none=>cut l lo hi fun l'=>K (.str l') st
 | some (.slice e),.lst ks xs,none=>match szOf P e with
  | some s=>match Nat.beq s ks.length with
   | true=>cut xs lo hi fun ys=>K (.lst ks ys) st
   | false=>False
  | none=>False
 | some (.slice e),.nils,none=>match szOf P e,lo,hi with
  | some _,none,some (.int _ n)=>0 <= n∧n <= 0∧K .nils st
  | _,_,_=>False
 | some (.slice e),.row id,none=>match szOf P e,frzO st.σ (.row id) with
  | some s,some σ1=>match σ1[id]? with
   | some (.frz ks xs)=>match Nat.beq s ks.length with
    | true=>cut xs lo hi fun ys=>K (.lst ks ys) ⟨st.α,σ1⟩
    | false=>False
   | _=>False
  | _,_=>False
 | some (.array n e),.ptr id off,none=>match szOf P e,natA lo 0,natA hi n with
  | some s,some l,some h=>match Nat.ble l h&&Nat.ble h n&&Nat.blt l n with
   | true=>K (.osl id (off+l*s) (h - l) (n - l)) st
   | false=>False
  | _,_,_=>False
 | some (.slice e),.osl id off len cap,none=>match szOf P e,natA lo 0,natA hi len with
  | some s,some l,some h=>match Nat.ble l h&&Nat.ble h cap&&Nat.blt l cap with
   | true=>K (.osl id (off+l*s) (h - l) (cap - l)) st
   | false=>False
  | _,_,_=>False
 | _,_,_=>False
theorem Zbmu {g:Gh} {H:Heap} {ks:List Kd} {xs:List (Tp ks)} {a:Option Addr} {n c sz:Nat} (hsz:sz=ks.length) (h:Zh g.Z H (.lst ks) xs (.slice a n c)) {h':Nat} (hh:h' <= xs.length):
  Zh g.Z H (.lst ks) (xs.take h':List (Tp ks)) (.slice a h' c)∧∀l,l <= h'->Zh g.Z H (.lst ks) ((xs.take h').drop l:List (Tp ks)) (.slice (if c=l then a else a.map (·.add (l*sz))) (h' - l) (c - l)):=by
 simp only [Zh] at h ⊢;obtain ⟨_,_,_,e,h2,h3,h4,h5⟩:=h;cases e;simp only [asL] at h2;refine ⟨⟨a,h',c,rfl,by simp [asL];omega,by omega,h4,fun h0=>?_⟩,fun l hl=>⟨_,_,_,rfl,by simp [asL];omega,by omega,by omega,fun h0=>?_⟩⟩
 ·obtain ⟨b,o,ha,hz,cs,T,fr,hb,hc⟩:=h5 (by omega)
  refine ⟨b,o,ha,hz,cs,T,fr,hb,fun i x hx=>hc i x ?_⟩;simp only [asL] at hx ⊢;rw [List.getElem?_take] at hx;split at hx;exact hx;cases hx
 ·obtain ⟨b,o,ha,hz,cs,T,fr,hb,hc⟩:=h5 (by omega)
  subst ha;have hne:c≠l:=by omega
  refine ⟨b,o+l*sz,?_,hz,cs,T,fr,hb,fun i x hx=>?_⟩;rw [if_neg hne];simp only [Option.map_some];rw [Zfd rfl];simp only [asL] at hx;rw [List.getElem?_drop,List.getElem?_take] at hx;split at hx;have:=hc (l+i) x hx;refine Zc.congr (fun j _=>?_) this;congr 1;rw [hsz,Nat.add_mul];omega;cases hx
theorem Zty (l:List UInt8) {i j:Nat} (_:i <= j):(bstr l).extract i j=bstr ((l.take j).drop i):=by
 have:((bstr l).extract i j).data=(bstr ((l.take j).drop i)).data:=by rw [ByteArray.data_extract];apply Array.ext';simp only [bstr,Array.toList_extract,List.extract_eq_take_drop,List.drop_take]
 cases h1:(bstr l).extract i j;cases h2:bstr ((l.take j).drop i);rw [h1,h2] at this;simpa using this
theorem Zchj {P:Program} {E:En} {st:St} {ρ:Env} {H:Heap} {g:Gh} (s:Sim E st ρ H g) {t:TypeId} {x:AV} {lo hi mx:Option AV} {vx:Value} {vlo vhi vmx:Option Value} {K':AV->St->Prop} (h:slP P st t x lo hi mx K') (hx:SimV g H st.σ.length x vx)
  (hl: ∀a,lo=some a->∃v,vlo=some v∧SimV g H st.σ.length a v) (hl0:lo=none->vlo=none) (hh: ∀a,hi=some a->∃v,vhi=some v∧SimV g H st.σ.length a v) (hh0:hi=none->vhi=none) (hm0:mx=none->vmx=none):
  Zek P t vx vlo vhi vmx H (Res E st ρ H g K'):=by
 have core: ∀(e:TypeId) (ks:List Kd) (xs:List (Tp ks)) (sz:Nat) (st1:St) (g1:Gh),P.underlying t=some (.slice e)->szOf P e=some sz->sz=ks.length->st1.α=st.α->Sim E st1 ρ H g1->Rel st H g st1 H g1->Zh g1.Z H (.lst ks) xs vx->
   cut xs lo hi (fun ys=>K' (.lst ks ys) st1)->Zek P t vx vlo vhi none H (Res E st ρ H g K'):=by
  intro e ks xs sz st1 g1 hu hsz hszk hα s1 r1 hc h;have hc0:=hc;simp only [Zh] at hc0;obtain ⟨a,n,c,rfl,h2,h3,h4,_⟩:=hc0;simp only [asL] at h2;unfold Zek;simp only [hu,Zu,hsz]
  have:=Zbbi (cap:=c) (k':=fun n l=>match l with | none=>Res E st ρ H g K' (.slice a n c) H | some l=>Res E st ρ H g K' (.slice (if c=l then a else a.map (·.add (l*sz))) (n - l) (c - l)) H) h hl hl0 hh hh0 (by omega)
   (fun n hn hk=>⟨_,st1,g1,s1,r1,by simp only [SimV];exact (Zbmu hszk hc hn).1,hα,hk⟩)
   (fun n l hn hl hk=>⟨_,st1,g1,s1,r1,by simp only [SimV];exact (Zbmu hszk hc hn).2 l hl,hα,hk⟩)
  rw [h2] at this;refine slHi.mono (fun n hn=>?_) this;cases vlo with
  | none=>exact hn
  | some v=>exact hn
 unfold slP at h;split at h
 ·rename_i l hu;rw [hm0 rfl];simp only [SimV] at hx;obtain ⟨rfl,hlen⟩:=hx;unfold Zek;simp only [hu];have sz:(bstr l).size=l.length:=by simp [bstr,ByteArray.size]
  rw [sz];have:=Zbbi (cap:=l.length) (k':=fun n l'=>match l' with | none=>Res E st ρ H g K' (.string ((bstr l).extract 0 n)) H | some i=>Res E st ρ H g K' (.string ((bstr l).extract i n)) H) h hl hl0 hh hh0 (Nat.le_refl _)
   (fun n hn hk=>Res.same s (a:= .str (l.take n)) (by simp only [SimV];exact ⟨by rw [Zty l (Nat.zero_le _)];simp,by simp;omega⟩) hk)
   (fun n i hn hi hk=>Res.same s (a:= .str ((l.take n).drop i)) (by simp only [SimV];exact ⟨by rw [Zty l hi],by simp;omega⟩) hk)
  refine slHi.mono (fun n hn=>?_) this;cases vlo with
  | none=>exact hn
  | some v=>exact hn
 rename_i e ks xs hu;rw [hm0 rfl];split at h;rename_i sz hsz;split at h;rename_i hb;simp only [SimV] at hx;exact core e ks xs sz st g hu hsz (Nat.eq_of_beq_eq_true hb) rfl s (.refl _ _ _) hx h;exact h.elim;exact h.elim
 ·rename_i e hu;rw [hm0 rfl];split at h
  ·rename_i sz k n hsz;obtain ⟨h1,h2,h⟩:=h;obtain ⟨v,rfl,hv⟩:=hh _ rfl;rw [hl0 rfl];simp only [SimV] at hv hx;obtain ⟨rfl,_⟩:=hv;subst hx;unfold Zek;simp only [hu,Zu,hsz];have e0:n.toNat=0:=by omega
   refine ⟨h1,by omega,?_⟩
   rw [e0];exact Res.same s (a:= .nils) (by simp only [SimV]) h
  exact h.elim
 ·rename_i e id hu;rw [hm0 rfl];split at h
  ·rename_i sz σ1 hsz hf;obtain ⟨g1,s1,r1,l1,f1,_⟩:=Zbcr s hf;split at h
   ·rename_i ks xs ho;split at h
    ·rename_i hb;have hx1:=SimV.ext r1.len r1.ext _ _ hx;simp only [SimV] at hx1;have hc:Zh g1.Z H (.lst ks) xs vx:=by rw [hx1.2.1];exact s1.obj id _ ho
     exact core e ks xs sz ⟨st.α,σ1⟩ g1 hu hsz (Nat.eq_of_beq_eq_true hb) rfl s1 r1 hc h
    exact h.elim
   exact h.elim
  exact h.elim
 ·rename_i n e id off hu;rw [hm0 rfl];split at h
  ·rename_i sz l hh' hsz hlo hhi;split at h
   ·rename_i hb;simp only [Bool.and_eq_true] at hb;have b1:=Nat.le_of_ble_eq_true hb.1.1;have b2:=Nat.le_of_ble_eq_true hb.1.2;have b3:l<n:=by simpa using hb.2
    simp only [SimV] at hx;obtain ⟨hid,rfl⟩:=hx;unfold Zek;simp only [hu,Zu,hsz];refine Zwe hhi hh0 hh b2 ?_;cases vlo with
    | none=>
     have:l=0:=by
      cases lo with
      | none=>simpa [natA] using hlo.symm
      | some b=>obtain ⟨v,hv,_⟩:=hl _ rfl;cases hv
     subst this;exact Res.same s (a:= .osl id (off+0*sz) (hh' - 0) (n - 0)) (by simp only [SimV];exact ⟨hid,by simp⟩) h
    | some v=>
     refine Zwe hlo hl0 hl b1 ?_;rw [if_neg (by omega),Zfd rfl]
     exact Res.same s (a:= .osl id (off+l*sz) (hh' - l) (n - l)) (by simp only [SimV];exact ⟨hid,trivial⟩) h
   exact h.elim
  exact h.elim
 ·rename_i e id off len cap hu;rw [hm0 rfl];split at h
  ·rename_i sz l hh' hsz hlo hhi;split at h
   ·rename_i hb;simp only [Bool.and_eq_true] at hb;have b1:=Nat.le_of_ble_eq_true hb.1.1;have b2:=Nat.le_of_ble_eq_true hb.1.2;have b3:l<cap:=by simpa using hb.2
    simp only [SimV] at hx;obtain ⟨hid,rfl⟩:=hx;unfold Zek;simp only [hu,Zu,hsz];refine Zwe hhi hh0 hh b2 ?_;cases vlo with
    | none=>
     have:l=0:=by
      cases lo with
      | none=>simpa [natA] using hlo.symm
      | some b=>obtain ⟨v,hv,_⟩:=hl _ rfl;cases hv
     subst this;exact Res.same s (a:= .osl id (off+0*sz) (hh' - 0) (cap - 0)) (by simp only [SimV];exact ⟨hid,by simp⟩) h
    | some v=>
     refine Zwe hlo hl0 hl b1 ?_;rw [if_neg (by omega)]
     simp only [Option.map_some];rw [Zfd rfl];exact Res.same s (a:= .osl id (off+l*sz) (hh' - l) (cap - l)) (by simp only [SimV];exact ⟨hid,trivial⟩) h
   exact h.elim
  exact h.elim
 exact h.elim
def Zjx (place:Nat->Option (Nat×Nat)):List AV->List (Nat×AV)->Option (List AV)
 | cells,[]=>some cells
 | cells,(i,v)::rest=>match place i with
  | none=>none
  | some (off,size)=>match Ztz v&&(Nat.beq (Zbz v).length size&&Nat.ble (off+(Zbz v).length) cells.length) with
   | true=>Zjx place (setA cells off (Zbz v)) rest
   | false=>none
theorem Zrh {g:Gh} {H:Heap} {N:Nat} (place:Nat->Option (Nat×Nat)): ∀(parts:List (Nat×AV)) (pv:List (Nat×Value)) (cs:List AV) (vs:List Value) (r:List AV),Zjx place cs parts=some r->pv.map (·.1)=parts.map (·.1)->SimL g H N (parts.map (·.2)) (pv.map (·.2))->SimL g H N cs vs->
  ∃us,Zie place vs pv=some us∧SimL g H N r us
 | [],[],cs,vs,r,h,_,_,hc=>by simp only [Zjx,Option.some.injEq] at h;subst h;exact ⟨vs,rfl,hc⟩
 | [],_::_,_,_,_,_,hm,_,_=>by simp at hm
 | _::_,[],_,_,_,_,hm,_,_=>by simp at hm
 | (i,a)::parts,(i',v)::pv,cs,vs,r,h,hm,hp,hc=>by simp only [List.map_cons,List.cons.injEq] at hm;obtain ⟨rfl,hm⟩:=hm;simp only [List.map_cons,SimL] at hp;simp only [Zjx] at h;split at h;cases h;rename_i off size hpl;split at h;rename_i hcond;simp only [Bool.and_eq_true] at hcond;obtain ⟨hce,h1,h2⟩:=hcond;obtain ⟨hs,_⟩:=Zbas hce hp.1;have hl:=hs.len;have hl2:=hc.len;obtain ⟨us,hu,hr⟩:=Zrh place parts pv _ _ r h hm hp.2 (Zwy (off:=off) hs hc);refine ⟨us,?_,hr⟩;simp only [Zie,hpl];rw [← hl,h1,← hl2,h2];exact hu;cases h
def Zpe (P:Program) (t:TypeId):Option (List AV):=match Zdj P t with
 | some l=>some (l.map ofV1)
 | none=>none
theorem Zya {P:Program} {t:TypeId} {g:Gh} {H:Heap} {N:Nat} {cs:List AV} (h:Zpe P t=some cs): ∃vs,Zdj P t=some vs∧SimL g H N cs vs:=by unfold Zpe at h;split at h;rename_i l hl;cases h;exact ⟨l,hl,Zlz l⟩;cases h
def Zbam (P:Program) (t:TypeId) (parts:List (Nat×AV)):Option (List AV):=
 match P.underlying t with
 | some (.struct fs)=>match Zpe P t,Zsa P fs.toList with
  | some z,some pl=>Zjx (pl[·]?) z parts
  | _,_=>none
 | some (.array _ e)=>match Zpe P t,szOf P e with
  | some z,some s=>Zjx (fun i=>some (i*s,s)) z parts
  | _,_=>none
 | _=>none
theorem Zbxl {P:Program} {t:TypeId} {g:Gh} {H:Heap} {N:Nat} {parts:List (Nat×AV)} {pv:List (Nat×Value)} {r:List AV} (h:Zbam P t parts=some r) (hm:pv.map (·.1)=parts.map (·.1)) (hp:SimL g H N (parts.map (·.2)) (pv.map (·.2))):
  ∃us,Zqg P t pv=some us∧SimL g H N r us:=by
 unfold Zbam at h;unfold Zqg;split at h;rename_i fs hu;rw [hu];split at h;rename_i z pl hz hpl;obtain ⟨vs,hzl,hs⟩:=Zya (g:=g) (H:=H) (N:=N) hz;simp only [hzl,hpl];exact Zrh _ _ _ _ _ _ h hm hp hs;cases h;rename_i n e hu;rw [hu];split at h;rename_i z sz hz hsz;obtain ⟨vs,hzl,hs⟩:=Zya (g:=g) (H:=H) (N:=N) hz;simp only [hzl,hsz];exact Zrh _ _ _ _ _ _ h hm hp hs;cases h;cases h
def kdOf (P:Program):Nat->TypeId->Option (List Kd)
 | 0,_=>none
 | d+1,t=>match P.underlying t with
  | some (.int k)=>some [.int k]
  | some .bool=>some [.bool]
  | some .string=>some [.str]
  | some (.slice e)=>match kdOf P d e with
   | some ks=>some [.lst ks]
   | none=>none
  | some (.struct fs)=>fs.toList.foldr (fun f acc=>match kdOf P d f.type,acc with
   | some ks,some r=>some (ks++r)
   | _,_=>none) (some [])
  | some (.array n e)=>match kdOf P d e with
   | some ks=>some (List.replicate n ks).flatten
   | none=>none
  | _=>none
def unTs (ks:List Kd):Nat->List AV->Option (List (Tp ks))
 | 0,[]=>some []
 | 0,_::_=>none
 | n+1,cs=>match unT ks (cs.take ks.length),unTs ks n (cs.drop ks.length) with
  | some x,some r=>some (x::r)
  | _,_=>none
theorem Zxw: ∀{ks:List Kd} {as:List AV} {x:Tp ks},unT ks as=some x->as.length=ks.length
 | [],[],_,_=>rfl
 | [],_::_,_,h=>by simp only [unT] at h;cases h
 | _::_,[],_,h=>by simp only [unT] at h;cases h
 | k::ks,a::as,x,h=>by simp only [unT] at h;split at h;rename_i y z hy hz;simp [Zxw hz];cases h
theorem Zsr {g:Gh} {H:Heap} {N:Nat} {ks:List Kd}: ∀{n:Nat} {cs:List AV} {vs:List Value} {xs:List (Tp ks)},unTs ks n cs=some xs->SimL g H N cs vs->xs.length=n∧vs.length=n*ks.length∧∀i x,xs[i]? =some x->Zc g.Z H ks x (fun j=>vs[i*ks.length+j]?)
 | 0,[],vs,xs,h,hs=>by simp only [unTs,Option.some.injEq] at h;subst h;exact ⟨rfl,by rw [← hs.len];simp,fun i x hx=>by simp at hx⟩
 | 0,_::_,_,_,h,_=>by simp only [unTs] at h;cases h
 | n+1,cs,vs,xs,h,hs=>by
  simp only [unTs] at h;split at h
  ·rename_i x r hx hr;cases h;obtain ⟨h1,h2,h3⟩:=Zsr hr (hs.drop ks.length);have h4:=Zks hx (hs.take ks.length);have h5:=Zxw hx;have h6:=hs.len;simp only [List.length_take] at h5;simp only [List.length_drop] at h2;have hlen:vs.length=(n+1)*ks.length:=by rw [Nat.add_mul];omega
   refine ⟨by simp [h1],hlen,fun i y hy=>?_⟩
   cases i with
   | zero=>
    simp at hy;subst hy;refine Zc.congr (fun j hj=>?_) h4;rw [Nat.zero_mul,Nat.zero_add,List.getElem?_take_of_lt hj]
   | succ i=>
    simp at hy;refine Zc.congr (fun j hj=>?_) (h3 i y hy);rw [List.getElem?_drop];congr 1;rw [Nat.add_mul];omega
  cases h
theorem Sim.newRow {E:En} {st:St} {ρ:Env} {H:Heap} {g:Gh} (s:Sim E st ρ H g) {n:Nat} (hn:H n=none) {vs:List Value} {T:TypeId} {ks:List Kd} {xs:List (Tp ks)} {cap:Nat} {K:AV->St->Prop}
  (hle:xs.length <= cap) (hcap:cap <= Zo) (hvl:vs.length=cap*ks.length) (hc: ∀i x,xs[i]? =some x->Zc g.Z H ks x (fun j=>vs[i*ks.length+j]?))
  (hk:K (.row st.σ.length) (st.new (.row T false ks xs))):Res E st ρ H g K (.slice (some ⟨n,0,none⟩) xs.length cap) (H.upd n (.cells ⟨vs⟩ T (0,0))):=by
 obtain ⟨g',s',r',gB,gV⟩:=s.new (o:= .row T false ks xs) (c:=⟨vs⟩) (T:=T) hn (.slice (some ⟨n,0,none⟩) xs.length cap) (fun g' hext hz hB hV=>by
  simp only [SimO];refine ⟨_,_,_,hV,rfl,hle,hcap,.inr ⟨0,by rw [hB],⟨vs⟩,T,by rw [hB];exact Sh.upd_eq,by simp [hvl],fun i x hx=>?_⟩⟩
  refine Zc.ext hext.z _ _ _ (Zc.congr (fun j _=>?_) (hc i x hx));simp)
 refine ⟨_,_,g',s',r',?_,rfl,hk⟩;simp only [SimV];exact ⟨by simp [St.new],gV.symm,_,_,_,rfl⟩
def rowA (P:Program) (e:TypeId) (len:Nat) (parts:List (Nat×AV)):Option (List AV):=
 match szOf P e with
 | some s=>match len with
  | 0=>Zjx (fun i=>some (i*s,s)) [] parts
  | len+1=>match Zdj P e with
   | some z=>match Nat.beq z.length s&&Nat.ble ((len+1)*s) 16777216 with
    | true=>Zjx (fun i=>some (i*s,s)) ((repL (len+1) z).map ofV1) parts
    | false=>none
   | none=>none
 | none=>none
theorem Zcfz {P:Program} {e:TypeId} {len:Nat} {g:Gh} {H:Heap} {N:Nat} {parts:List (Nat×AV)} {pv:List (Nat×Value)} {r:List AV} (h:rowA P e len parts=some r) (hm:pv.map (·.1)=parts.map (·.1)) (hp:SimL g H N (parts.map (·.2)) (pv.map (·.2))):
  ∃us,rowL P e len pv=some us∧SimL g H N r us:=by
 unfold rowA at h;unfold rowL;split at h
 ·rename_i s hs;rw [hs];simp only;cases len with
  | zero=>exact Zrh _ _ _ _ _ _ h hm hp (by simp only [SimL])
  | succ len=>
   simp only at h ⊢;split at h;rename_i z hz;rw [hz];simp only;split at h;rename_i hc;rw [hc];exact Zrh _ _ _ _ _ _ h hm hp (Zlz _);cases h;cases h
 cases h
def Zbdt (P:Program) (st:St) (t:TypeId) (len:Nat) (parts:List (Nat×AV)) (K:AV->St->Prop):Prop:=
 match P.underlying t with
 | some (.slice e)=>match rowA P e len parts,kdOf P 8 e with
  | some cs,some ks=>match frzL st.σ cs with
   | some σ1=>match unTs ks len (cs.map (Zex σ1)) with
    | some xs=>match Nat.ble len 1000000000 with
     | true=>K (.row st.σ.length) ⟨st.α,σ1++[.row e false ks xs]⟩
     | false=>False
    | none=>False
   | none=>False
  | _,_=>False
 | _=>False
theorem Zccm {P:Program} {E:En} {st:St} {ρ:Env} {H:Heap} {g:Gh} (s:Sim E st ρ H g) {t:TypeId} {len:Nat} {parts:List (Nat×AV)} {pv:List (Nat×Value)} {K:AV->St->Prop} (h:Zbdt P st t len parts K) (hm:pv.map (·.1)=parts.map (·.1)) (hp:SimL g H st.σ.length (parts.map (·.2)) (pv.map (·.2))):
  ∃e l,P.underlying t=some (.slice e)∧rowL P e len pv=some l∧∀n,H n=none->Res E st ρ H g K (.slice (some ⟨n,0,none⟩) len len) (H.upd n (.cells ⟨l⟩ e)):=by
 unfold Zbdt at h;split at h
 ·rename_i e hu;split at h
  ·rename_i cs ks hr hks;obtain ⟨us,hul,hs⟩:=Zcfz hr hm hp;split at h
   ·rename_i σ1 hf;obtain ⟨g1,s1,r1,l1,f1,_⟩:=Zbcq cs st.σ σ1 g s hf;split at h
    ·rename_i xs hxs;split at h
     ·rename_i hble;have hs1:=Zxx s1 f1 (SimL.ext r1.len r1.ext _ _ hs);obtain ⟨h1,h2,h3⟩:=Zsr hxs hs1;refine ⟨e,us,hu,hul,fun n hn=>?_⟩;have hl:len <= Zo:=by have:=Nat.le_of_ble_eq_true hble;unfold Zo;omega
      have:=s1.newRow (T:=e) (K:=K) hn (vs:=us) (xs:=xs) (cap:=len) (by omega) hl h2 h3 (by
       simp only [St.new];rw [l1];exact h)
      rw [h1] at this;obtain ⟨a,st',g',sa,ra,va,ea,ka⟩:=this;exact ⟨a,st',g',sa,r1.trans ra,va,ea,ka⟩
     exact h.elim
    exact h.elim
   exact h.elim
  exact h.elim
 exact h.elim
end Go.Sh
end
section
namespace Go.Sh
variable [Laid]
theorem Sim.renew {E:En} {st:St} {ρ:Env} {H:Heap} {g:Gh} (s:Sim E st ρ H g) {id:Nat} {o:AObj} (hi:st.σ[id]? =some o) (hr:isRo o=false) {H':Heap} (v:Value) {o':AObj}
  (hh:(Has g id o∧(∀b,b≠g.B id->H' b=H b)∧H' (g.B id)≠none)∨(H'=H∧∀g':Gh,g'.V st.σ.length=v->¬Has g' st.σ.length o'))
  (ho: ∀g',Ext st.σ.length g H g' H'->g'.Z=g.Z->g'.B st.σ.length=g.B id->g'.V st.σ.length=v->SimO g' H' (st.σ.length+1) st.σ.length o'):
  ∃g',Sim E ⟨st.α,st.σ.set id .gone++[o']⟩ ρ H' g'∧Rel st H g ⟨st.α,st.σ.set id .gone++[o']⟩ H' g'∧g'.B st.σ.length=g.B id∧g'.V st.σ.length=v:=by
 let N:=st.σ.length
 have hlt:=Zbr hi
 let g':Gh:=⟨g.Z,fun i=>if i=st.σ.length then g.B id else g.B i,fun i=>if i=st.σ.length then v else g.V i⟩
 have gB:g'.B st.σ.length=g.B id:=if_pos rfl;have gV:g'.V st.σ.length=v:=if_pos rfl;have hz: ∀b,g.Z b->H' b=H b:=fun b hb=>by
  rcases hh with ⟨h1,h2,_⟩ | ⟨rfl,_⟩
  ·exact h2 b fun e=>by subst e;exact s.nz id o hi h1 hb
  rfl
 have hext:Ext st.σ.length g H g' H':=⟨fun b hb=>⟨hb,hz b hb⟩,fun i hi=>if_neg (by omega),fun i hi=>if_neg (by omega)⟩
 have hlen:(st.σ.set id .gone++[o']).length=st.σ.length+1:=by simp
 have old: ∀i oi,(st.σ.set id .gone++[o'])[i]? =some oi->(i<st.σ.length∧i≠id∧st.σ[i]? =some oi)∨(i=id∧oi= .gone)∨(i=st.σ.length∧oi=o'):=by
  intro i oi hi';rcases Nat.lt_trichotomy i st.σ.length with h | h | h
  ·rw [List.getElem?_append_left (by simpa using h),List.getElem?_set] at hi'
   by_cases e:id=i;subst e;rw [if_pos rfl,if_pos hlt] at hi';cases hi';exact .inr (.inl ⟨rfl,rfl⟩);rw [if_neg e] at hi';exact .inl ⟨h,fun e'=>e e'.symm,hi'⟩
  ·subst h;rw [List.getElem?_append_right (by simp)] at hi'
   simp at hi';exact .inr (.inr ⟨rfl,hi'.symm⟩)
  ·rw [List.getElem?_eq_none (by simp;omega)] at hi';cases hi'
 have same: ∀i oi,i≠id->st.σ[i]? =some oi->Has g i oi->H' (g.B i)=H (g.B i):=by intro i oi hne hio hhi;rcases hh with ⟨h1,h2,_⟩ | ⟨rfl,_⟩;exact h2 _ (s.dis i id oi o hne hio hi hhi h1);rfl
 have newHas:Has g' st.σ.length o'->Has g id o:=fun hn=>by rcases hh with ⟨h1,_,_⟩ | ⟨_,h2⟩;exact h1;exact absurd hn (h2 g' gV)
 refine ⟨g',⟨fun t=>?_,fun i oi hi'=>?_,fun i oi hi' hhi=>?_,fun i j oi oj hij hi' hj hhi hhj=>?_,fun i oi hi' hhi=>?_,?_,s.zsub,s.znew,fun b hb=>?_,s.lay,Zpd s.zc hz⟩,⟨by simp only [hlen];omega,hext,fun i oi hi' hr'=>?_⟩,gB,gV⟩
 rw [hlen];exact SimV.ext (Nat.le_succ _) hext _ _ (s.tmp t);rw [hlen];rcases old i oi hi' with ⟨h1,h2,h3⟩ | ⟨rfl,rfl⟩ | ⟨rfl,rfl⟩;exact SimO.ext (Nat.le_succ _) hext h1 (fun hhi=>same i oi h2 h3 hhi) (s.obj i oi h3);trivial;exact ho g' hext rfl gB gV;rcases old i oi hi' with ⟨h1,h2,h3⟩ | ⟨rfl,rfl⟩ | ⟨rfl,rfl⟩;rw [hext.b i h1];exact s.nz i oi h3 ((Has.ext hext h1).1 hhi);exact hhi.elim;rw [gB];exact s.nz id o hi (newHas hhi);rcases old i oi hi' with ⟨h1,h2,h3⟩ | ⟨rfl,rfl⟩ | ⟨rfl,rfl⟩;rcases old j oj hj with ⟨h4,h5,h6⟩ | ⟨rfl,rfl⟩ | ⟨rfl,rfl⟩;rw [hext.b i h1,hext.b j h4];exact s.dis i j oi oj hij h3 h6 ((Has.ext hext h1).1 hhi) ((Has.ext hext h4).1 hhj);exact hhj.elim;rw [gB,hext.b i h1];exact s.dis i id oi o h2 h3 hi ((Has.ext hext h1).1 hhi) (newHas hhj);exact hhi.elim;rcases old j oj hj with ⟨h4,h5,h6⟩ | ⟨rfl,rfl⟩ | ⟨rfl,rfl⟩;rw [gB,hext.b j h4];exact fun e=>s.dis j id oj o h5 h6 hi ((Has.ext hext h4).1 hhj) (newHas hhi) e.symm;exact hhj.elim;exact absurd rfl hij;rcases old i oi hi' with ⟨h1,h2,h3⟩ | ⟨rfl,rfl⟩ | ⟨rfl,rfl⟩;rw [hext.b i h1];exact s.own i oi h3 ((Has.ext hext h1).1 hhi);exact hhi.elim;rw [gB];exact s.own id o hi (newHas hhi);rcases hh with ⟨h1,h2,h3⟩ | ⟨rfl,_⟩;refine ⟨fun b hb h0=>?_,fun b h0=>?_⟩;by_cases e:b=g.B id;rcases s.own id o hi h1 with h | h;rw [← e] at h;exact absurd h hb;rw [← e] at h;exact absurd h h0;rw [h2 b e];exact s.keep.same b hb h0;by_cases e:b=g.B id;rw [e];exact h3;rw [h2 b e];exact s.keep.live b h0;exact s.keep;rw [hz b hb];exact s.zlive b hb
 ·have hne:i≠id:=fun e=>by subst e;rw [hi] at hi';cases hi';rw [hr] at hr';cases hr'
  refine ⟨?_,fun hhi=>same i oi hne hi' hhi⟩;rw [List.getElem?_append_left (by simpa using Zbr hi'),List.getElem?_set,if_neg (fun e=>hne e.symm)];exact hi'
theorem Sim.newNo {E:En} {st:St} {ρ:Env} {H:Heap} {g:Gh} (s:Sim E st ρ H g) {T:TypeId} {ks:List Kd} {K:AV->St->Prop} (hk:K (.row st.σ.length) (st.new (.row T false ks []))):Res E st ρ H g K (.slice none 0 0) H:=by
 let g':Gh:=⟨g.Z,g.B,fun i=>if i=st.σ.length then .slice none 0 0 else g.V i⟩
 have hext:Ext st.σ.length g H g' H:=⟨fun b hb=>⟨hb,rfl⟩,fun i hi=>rfl,fun i hi=>if_neg (by omega)⟩
 have gV:g'.V st.σ.length= .slice none 0 0:=if_pos rfl;have hlen:(st.new (.row T false ks [])).σ.length=st.σ.length+1:=by simp [St.new]
 have nh: ¬Has g' st.σ.length (.row T false ks []):=by rintro ⟨a,n,c,h⟩;rw [gV] at h;cases h
 have old: ∀i oi,(st.new (.row T false ks [])).σ[i]? =some oi->(i<st.σ.length∧st.σ[i]? =some oi)∨(i=st.σ.length∧oi= .row T false ks []):=by
  intro i oi hi;simp only [St.new] at hi;rcases Nat.lt_trichotomy i st.σ.length with h | h | h;exact .inl ⟨h,by rw [List.getElem?_append_left h] at hi;exact hi⟩
  subst h;rw [List.getElem?_append_right (Nat.le_refl _)] at hi;simp at hi;exact .inr ⟨rfl,hi.symm⟩
  ·rw [List.getElem?_eq_none (by simp;omega)] at hi;cases hi
 refine ⟨_,st.new (.row T false ks []),g',⟨fun t=>?_,fun i oi hi=>?_,fun i oi hi hh=>?_,fun i j oi oj hij hi hj hhi hhj=>?_,fun i oi hi hh=>?_,s.keep,s.zsub,s.znew,s.zlive,s.lay,s.zc⟩,⟨by omega,hext,fun i oi hi hr=>⟨?_,fun hh=>rfl⟩⟩,?_,rfl,hk⟩
 rw [hlen];exact SimV.ext (Nat.le_succ _) hext _ _ (s.tmp t);rw [hlen];rcases old i oi hi with ⟨h1,h2⟩ | ⟨rfl,rfl⟩;exact SimO.ext (Nat.le_succ _) hext h1 (fun hh=>rfl) (s.obj i oi h2);exact ⟨none,0,0,gV,rfl,Nat.le_refl _,Nat.zero_le _,.inl ⟨rfl,rfl⟩⟩;rcases old i oi hi with ⟨h1,h2⟩ | ⟨rfl,rfl⟩;exact s.nz i oi h2 ((Has.ext hext h1).1 hh);exact absurd hh nh;rcases old i oi hi with ⟨h1,h2⟩ | ⟨rfl,rfl⟩;rcases old j oj hj with ⟨h3,h4⟩ | ⟨rfl,rfl⟩;exact s.dis i j oi oj hij h2 h4 ((Has.ext hext h1).1 hhi) ((Has.ext hext h3).1 hhj);exact absurd hhj nh;exact absurd hhi nh;rcases old i oi hi with ⟨h1,h2⟩ | ⟨rfl,rfl⟩;exact s.own i oi h2 ((Has.ext hext h1).1 hh);exact absurd hh nh;simp only [St.new];rw [List.getElem?_append_left (Zbr hi)];exact hi;rw [hlen];simp only [SimV];exact ⟨by omega,gV.symm,none,0,0,rfl⟩
theorem Zh.plain {Z:Nat->Prop} {H:Heap}: ∀{k:Kd} {x:El k} {v:Value},Zh Z H k x v->Zcy v=true
 | .int _,_,_,h=>by simp only [Zh] at h;rw [h.1];rfl
 | .bool,_,_,h=>by simp only [Zh] at h;rw [h];rfl
 | .str,_,_,h=>by simp only [Zh] at h;rw [h.1];rfl
 | .lst _,_,_,h=>by simp only [Zh] at h;obtain ⟨a,n,c,h,_⟩:=h;rw [h];rfl
theorem Zc.plain {Z:Nat->Prop} {H:Heap}: ∀{ks:List Kd} {x:Tp ks} {f:Nat->Option Value},Zc Z H ks x f->∀j,j<ks.length->∃v,f j=some v∧Zcy v=true
 | [],_,_,_,j,hj=>by simp at hj
 | k::ks,x,f,h,j,hj=>by
  simp only [Zc] at h;obtain ⟨⟨v,h1,h2⟩,h3⟩:=h;cases j with
  | zero=>exact ⟨v,h1,h2.plain⟩
  | succ j=>exact Zc.plain h3 j (by simpa using hj)
theorem Zbix {Z:Nat->Prop} {H:Heap} {ks:List Kd} {xs:List (Tp ks)} {cs:Array Value} {o:Nat} (h: ∀i x,xs[i]? =some x->Zc Z H ks x (fun j=>cs[o+i*ks.length+j]?)):
  ∃new:List Value,new.length=xs.length*ks.length∧(∀j,j<xs.length*ks.length->cs[o+j]? =new[j]?)∧(∀i x,xs[i]? =some x->Zc Z H ks x (fun j=>new[i*ks.length+j]?))∧∀v∈new,Zcy v=true:=by
 have get: ∀j,j<xs.length*ks.length->∃v,cs[o+j]? =some v∧Zcy v=true:=by
  intro j hj;have hk:0<ks.length:=by rcases Nat.eq_zero_or_pos ks.length with e | e;rw [e] at hj;simp at hj;exact e
  have hi:j/ks.length<xs.length:=Nat.div_lt_of_lt_mul (by rw [Nat.mul_comm];exact hj)
  obtain ⟨v,hv,hp⟩:=(h (j/ks.length) _ (List.getElem?_eq_getElem hi)).plain (j%ks.length) (Nat.mod_lt _ hk);refine ⟨v,?_,hp⟩;rw [← hv];congr 1;have:=Nat.div_add_mod j ks.length;rw [Nat.mul_comm] at this;omega
 have hsz:xs.length*ks.length=0∨o+xs.length*ks.length <= cs.size:=by
  rcases Nat.eq_zero_or_pos (xs.length*ks.length) with e | e;exact .inl e
  ·obtain ⟨v,hv,_⟩:=get (xs.length*ks.length - 1) (by omega)
   have:o+(xs.length*ks.length - 1)<cs.size:=(Array.getElem?_eq_some_iff.1 hv).1;exact .inr (by omega)
 have hget: ∀j,j<xs.length*ks.length->cs[o+j]? =((cs.toList.drop o).take (xs.length*ks.length))[j]? :=by intro j hj;rw [List.getElem?_take_of_lt hj,List.getElem?_drop];simp
 refine ⟨(cs.toList.drop o).take (xs.length*ks.length),?_,hget,fun i x hx=>?_,fun v hv=>?_⟩;simp only [List.length_take,List.length_drop,Array.length_toList];rcases hsz with e | e<;>omega
 ·refine Zc.congr (fun j hj=>?_) (h i x hx);have hi:i<xs.length:=by rcases Nat.lt_or_ge i xs.length with h | h;exact h;rw [List.getElem?_eq_none h] at hx;cases hx
  have hb:i*ks.length+j<xs.length*ks.length:=by
   have:(i+1)*ks.length <= xs.length*ks.length:=Nat.mul_le_mul_right _ (by omega)
   rw [Nat.add_mul] at this;omega
  rw [← hget _ hb,Nat.add_assoc]
 ·obtain ⟨j,hj⟩:=List.getElem?_of_mem hv;have hlt:j<xs.length*ks.length:=by
   rcases Nat.lt_or_ge j (xs.length*ks.length) with h | h;exact h
   ·rw [List.getElem?_eq_none (by simp only [List.length_take];omega)] at hj;cases hj
  obtain ⟨u,hu,hp⟩:=get j hlt;rw [hget j hlt,hj] at hu;cases hu;exact hp
def RdOk (g:Gh) (H:Heap) (ks:List Kd) (xs:List (Tp ks)) (v:Value):Prop:=
 ∃a n c new,v= .slice a n c∧xs.length=n∧n <= c∧c <= Zo∧Reads H a (n*ks.length) new∧(∀i x,xs[i]? =some x->Zc g.Z H ks x (fun j=>new[i*ks.length+j]?))∧∀v∈new,Zcy v=true
theorem Zvz {g:Gh} {H:Heap} {ks:List Kd} {xs:List (Tp ks)} {v:Value} (h:Zh g.Z H (.lst ks) xs v):RdOk g H ks xs v:=by
 simp only [Zh] at h;obtain ⟨a,n,c,h1,h2,h3,h4,h5⟩:=h;simp only [asL] at h2;rcases Nat.eq_zero_or_pos n with e | e
 ·subst e;have:xs= []:=List.eq_nil_of_length_eq_zero h2;subst this;refine ⟨a,0,c,[],h1,rfl,h3,h4,⟨by simp,?_⟩,fun i x hx=>by simp at hx,by simp⟩
  cases a with
  | none=>simp
  | some a=>intro h0;simp at h0
 obtain ⟨b,o,ha,hz,cs,T,fr,hb,hc⟩:=h5 e;obtain ⟨new,h6,h7,h8,h9⟩:=Zbix hc;rw [h2] at h6 h7;refine ⟨a,n,c,new,h1,h2,h3,h4,⟨h6,?_⟩,h8,h9⟩;subst ha;exact fun _=>⟨rfl,cs,T,fr,hb,h7⟩
theorem Zbfg {g:Gh} {H:Heap} {T:TypeId} {ks:List Kd} {xs:List (Tp ks)} {v:Value} {b:Nat} (h:Zlc g H T ks xs v b):RdOk g H ks xs v:=by
 obtain ⟨a,n,c,h1,h2,h3,h4,h5⟩:=h;rcases h5 with ⟨rfl,rfl⟩ | ⟨o,rfl,cs,T',hb,hs,hc⟩
 ·have e:n=0:=by omega
  subst e;have:xs= []:=List.eq_nil_of_length_eq_zero h2;subst this;exact ⟨none,0,0,[],h1,rfl,h3,h4,⟨by simp,by simp⟩,fun i x hx=>by simp at hx,by simp⟩
 obtain ⟨new,h6,h7,h8,h9⟩:=Zbix (o:=o) hc;rw [h2] at h6 h7;exact ⟨_,n,c,new,h1,h2,h3,h4,⟨h6,fun _=>⟨rfl,cs,T',_,hb,h7⟩⟩,h8,h9⟩
def rdL (σ:List AObj) (ks:List Kd):AV->Option (List (Tp ks))
 | .lst ks' xs=>match Kd.decs ks' ks with
  | isTrue h=>some (Zdl h xs)
  | isFalse _=>none
 | .nils=>some []
 | .row id=>match σ[id]? with
  | some (.row _ _ ks' xs)=>match Kd.decs ks' ks with
   | isTrue h=>some (Zdl h xs)
   | isFalse _=>none
  | some (.frz ks' xs)=>match Kd.decs ks' ks with
   | isTrue h=>some (Zdl h xs)
   | isFalse _=>none
  | _=>none
 | _=>none
theorem Zbpj {E:En} {st:St} {ρ:Env} {H:Heap} {g:Gh} (s:Sim E st ρ H g) {ks:List Kd} {a:AV} {v:Value} {xs:List (Tp ks)} (h:rdL st.σ ks a=some xs) (hs:SimV g H st.σ.length a v):RdOk g H ks xs v:=by
 unfold rdL at h;split at h;split at h;rename_i hk _;subst hk;cases h;simp only [SimV] at hs;exact Zvz hs;cases h;cases h;simp only [SimV] at hs;exact ⟨none,0,0,[],hs,rfl,Nat.le_refl _,Nat.zero_le _,⟨by simp,by simp⟩,fun i x hx=>by simp at hx,by simp⟩
 rename_i id;simp only [SimV] at hs;obtain ⟨_,rfl,_⟩:=hs;split at h;rename_i T r ks' xs' ho;split at h;rename_i hk _;subst hk;cases h;exact Zbfg (T:=T) (s.obj id _ ho);cases h;rename_i ks' xs' ho;split at h;rename_i hk _;subst hk;cases h;exact Zvz (s.obj id _ ho);cases h;cases h;cases h
def Zqm (P:Program) (e:TypeId) (ks:List Kd):Bool:=match P.info? e,Zdj P e with
 | some it,some z=>Nat.beq it.size ks.length&&Nat.beq z.length ks.length&&Nat.blt 0 it.bytes&&Nat.ble it.bytes 100000
 | _,_=>false
theorem Zbbo {P:Program} {e:TypeId} {ks:List Kd} (h:Zqm P e ks=true): ∃it z,P.info? e=some it∧Zdj P e=some z∧it.size=ks.length∧z.length=ks.length∧0<it.bytes∧it.bytes <= 100000:=by
 unfold Zqm at h;split at h;rename_i it z hi hz;simp only [Bool.and_eq_true] at h;exact ⟨it,z,hi,hz,Nat.eq_of_beq_eq_true h.1.1.1,Nat.eq_of_beq_eq_true h.1.1.2,by simpa using h.1.2,Nat.le_of_ble_eq_true h.2⟩
 cases h
theorem AppW.zeros {P:Program} {st xt t e:TypeId} {n:Nat} {k:IntKind} {z:List Value} {H:Heap} {K:Value->Heap->Prop} {it:TypeInfo}
  (hu:P.underlying st=some (.slice e)) (hx:P.underlying xt=some (.int k)) (hi:P.info? e=some it) (hz:Zdj P e=some z) (hb0:0<it.bytes) (hb1:it.bytes <= 100000) (hsz:0<it.size) (hn0:0<n) (hn:n <= 1000000000)
  (h: ∀m cap,H m=none->n <= cap->cap <= 9223372036854775807->K (.slice (some ⟨m,0,none⟩) n cap) (H.upd m (.cells ⟨repL n z++repL (cap - n) z⟩ e))):
  AppW P #[st,xt] t [.slice none 0 0,.int .i64 n] H K:=by
 unfold AppW Builtin.append_;have hsize:szOf P e=some it.size:=by unfold szOf;rw [hi]
 refine (SemW.bind _ _ _ _).2 (Zp hu ?_);refine (SemW.bind _ _ _ _).2 (Zei hsize ?_);have ht: ∀(K':TypeInfo->Heap->Prop),K' it H->SemW P (typeInfo e) H K':=fun K' hk=>by
  unfold typeInfo;refine (SemW.bind _ _ _ _).2 ?_;change SemW P (match P.info? e with | some i=>pure i | none=>stuck "no such type") H K'
  rw [hi];exact hk
 refine (SemW.bind _ _ _ _).2 ?_;refine (SemW.bind _ _ _ _).2 ?_;change SemW P (underlying xt) H _;refine Zp hx ?_;have wn:IntKind.i64.wrap (n:Int)=n:=Zbl (by omega) (by omega)
 have hmul:n*it.bytes <= 1000000000*100000:=Nat.mul_le_mul hn hb1;have hmulI:(n:Int)*(it.bytes:Int)=((n*it.bytes:Nat):Int):=by rw [Int.natCast_mul]
 have room: ∀(k:Nat) (s:Sem Value),SemW P s H K->SemW P (do askRoom k;s) H K:=fun k s hs=>by unfold askRoom;split<;>exact hs
 show SemW P (if IntKind.i64.wrap (n:Int)<0 then _ else _) H _
 rw [wn,if_neg (by omega)]
 show SemW P (typeInfo e>>= _) H _;refine (SemW.bind _ _ _ _).2 (ht _ ?_);show SemW P (if (n:Int)*(it.bytes:Int)>2^48 then _ else _) H _
 rw [if_neg (by rw [hmulI];omega)]
 show SemW P (if 0+(n:Int).toNat <= 0 then _ else _) H K
 rw [if_neg (by omega)]
 have e0:(n:Int).toNat=n:=by omega
 rw [e0,Nat.zero_add];show SemW P (typeInfo e>>= _) H K;refine (SemW.bind _ _ _ _).2 (ht _ ?_);rw [if_neg (by
  have hm:IntKind.i64.max=9223372036854775807:=rfl;rw [hm];omega)]
 show SemW P (typeInfo e>>= _) H K;refine (SemW.bind _ _ _ _).2 (ht _ ?_);have hcap0:Builtin.nextslicecap n 0=n:=by unfold Builtin.nextslicecap;rw [if_pos (by omega)]
 rw [hcap0,if_neg (by omega)]
 show SemW P (choose (.appendCap n 0 e)>>= _) H K;refine (SemW.bind _ _ _ _).2 ⟨fun hq=>(by cases hq),fun _ tape=>?_⟩
 have hge:=Zbid n 0 e tape;have hle:=Zbie n 0 e tape (by omega)
 generalize (Question.appendCap n 0 e).cut tape=cap at hge hle;show SemW P (typeInfo e>>= _) H K;refine (SemW.bind _ _ _ _).2 (ht _ ?_);refine room _ _ ?_;show SemW P (Builtin.firstCells it.size 0 (.slice none 0 0)>>= _) H K;refine (SemW.bind _ _ _ _).2 ?_;show SemW P ((if n*it.size=0 then pure #[] else do pure (Builtin.zeroCells (← zeroValue e).cells n))>>= _) H K
 rw [if_neg (by
  have:0<n*it.size:=Nat.mul_pos hn0 hsz;omega)]
 refine (SemW.bind _ _ _ _).2 ?_;refine (SemW.bind _ _ _ _).2 (Zkn hz fun v hv=>?_);show SemW P (zeroValue e>>= _) H K;refine (SemW.bind _ _ _ _).2 (Zkn hz fun v' hv'=>?_);show SemW P (newRow e (#[]++Builtin.zeroCells v.cells n++Builtin.zeroCells v'.cells (cap - n))>>= _) H K;refine (SemW.bind _ _ _ _).2 (Zmf fun m hm=>?_);have he:((#[]:Array Value)++Builtin.zeroCells v.cells n++Builtin.zeroCells v'.cells (cap - n))=⟨repL n z++repL (cap - n) z⟩:=by rw [Zbgm,Zbgm,hv,hv'];apply Array.ext';simp
 rw [he];exact h m cap hm hge hle
def azP (P:Program) (st:St) (t0 t1:TypeId) (s x:AV) (K:AV->St->Prop):Prop:=
 match P.underlying t0,P.underlying t1,s,x with
 | some (.slice e),some (.int _),.nils,.int .i64 n=>match kdOf P 8 e with
  | some ks=>match Zqm P e ks&&Nat.blt 0 ks.length,Zdj P e with
   | true,some z=>match unT ks (z.map ofV1) with
    | some x=>0<n∧n <= 1000000000∧K (.row st.σ.length) (st.new (.row e false ks (List.replicate n.toNat x)))
    | none=>False
   | _,_=>False
  | none=>False
 | _,_,_,_=>False
theorem Zbxf {P:Program} {E:En} {st:St} {ρ:Env} {H:Heap} {g:Gh} (s:Sim E st ρ H g) {t0 t1 t:TypeId} {a x:AV} {va vx:Value} {K:AV->St->Prop} (h:azP P st t0 t1 a x K) (ha:SimV g H st.σ.length a va) (hx:SimV g H st.σ.length x vx):
  AppW P #[t0,t1] t [va,vx] H (Res E st ρ H g K):=by
 unfold azP at h;split at h
 case h_2=>exact h.elim
 rename_i e k n hu hu';simp only [SimV] at ha hx;subst ha;obtain ⟨rfl,_⟩:=hx;split at h
 case h_2=>exact h.elim
 rename_i ks hks;split at h
 case h_2=>exact h.elim
 rename_i z hel hz;simp only [Bool.and_eq_true] at hel;obtain ⟨hel,hks0⟩:=hel;obtain ⟨it,z',hi,hz',hsz,hzl,hb0,hb1⟩:=Zbbo hel;rw [hz] at hz';cases hz';split at h
 case h_2=>exact h.elim
 rename_i y hy;obtain ⟨h0,h1,h⟩:=h;have en:n=(n.toNat:Int):=by omega
 have hks0':0<ks.length:=by simpa using hks0
 rw [en];refine AppW.zeros hu hu' hi hz hb0 hb1 (by omega) (by omega) (by omega) fun m cap hm hge hle=>?_
 have hy':=Zks hy (Zlz (g:=g) (H:=H) (N:=st.σ.length) z)
 have:=s.newRow (T:=e) (K:=K) hm (vs:=repL n.toNat z++repL (cap - n.toNat) z) (xs:=List.replicate n.toNat y) (cap:=cap) (by simp;omega) hle (by
  rw [List.length_append,Zip,Zip,hzl,← Nat.add_mul];congr 1;omega) (fun i y' hi'=>by
  rw [List.getElem?_replicate] at hi';split at hi'
  ·rename_i hlt;cases hi';refine Zc.congr (fun j hj=>?_) hy';have hlt2:i*ks.length+j<n.toNat*z.length:=by
    rw [hzl];have:(i+1)*ks.length <= n.toNat*ks.length:=Nat.mul_le_mul_right _ (by omega)
    rw [Nat.add_mul] at this;omega
   rw [List.getElem?_append_left (by rw [Zip];exact hlt2),Zbew z (by omega) n.toNat _ hlt2]
   congr 1;rw [hzl,Nat.mul_comm,Nat.mul_add_mod];exact Nat.mod_eq_of_lt hj
  ·cases hi') h
 simpa using this
def Zqe (b:Nat):Nat:=(281474976710656/b - 192)/2
def Zqh (P:Program) (e:TypeId):Nat:=match P.info? e with
 | some it=>it.bytes
 | none=>1
theorem Zbaa {b m:Nat} (h0:0<b) (h1:b <= 100000) (h:m <= Zqe b):(2*m+192)*b <= 2^48:=by
 unfold Zqe at h;have h2:281474976710656/100000 <= 281474976710656/b:=Nat.div_le_div_left h1 h0;have h3:2*m+192 <= 281474976710656/b:=by have:281474976710656/100000=2814749767:=rfl;omega
 exact Nat.le_trans (Nat.mul_le_mul_right _ h3) (Nat.div_mul_le_self _ _)
def appP (P:Program) (st:St) (t0 t1:TypeId) (s x:AV) (K:AV->St->Prop):Prop:=
 match P.underlying t0,P.underlying t1 with
 | some (.slice e),some (.slice _)=>match kdOf P 8 e with
  | some ks=>match Zqm P e ks,rdL st.σ ks x with
   | true,some ys=>match s with
    | .nils=>ys.length <= Zqe (Zqh P e)∧K (.row st.σ.length) ⟨st.α,st.σ++[.row e false ks ys]⟩
    | .row id=>match st.σ[id]? with
     | some (.row T false ks' xs)=>match Nat.beq T e,Kd.decs ks' ks with
      | true,isTrue h=>xs.length+ys.length <= Zqe (Zqh P e)∧K (.row st.σ.length) ⟨st.α,st.σ.set id .gone++[.row e false ks (Zdl h xs++ys)]⟩
      | _,_=>False
     | _=>False
    | .osl id off n c=>match st.σ[id]?,Nat.beq n c&&Nat.ble n 1000000 with
     | some (.obj _ false cs),true=>match unTs ks n ((cs.drop off).take (n*ks.length)),Nat.ble (off+n*ks.length) cs.length with
      | some xs,true=>xs.length+ys.length <= Zqe (Zqh P e)∧K (.row st.σ.length) ⟨st.α,st.σ.set id .gone++[.row e false ks (xs++ys)]⟩
      | _,_=>False
     | _,_=>False
    | _=>False
   | _,_=>False
  | none=>False
 | _,_=>False
theorem Zbat {Z:Nat->Prop} {H:Heap} {ks:List Kd} {xs ys:List (Tp ks)} {old new:List Value} {f:Nat->Option Value} (ho:old.length=xs.length*ks.length) (h1: ∀i x,xs[i]? =some x->Zc Z H ks x (fun j=>old[i*ks.length+j]?))
  (h2: ∀i x,ys[i]? =some x->Zc Z H ks x (fun j=>new[i*ks.length+j]?)) (hf1: ∀j,j<old.length->f j=old[j]?) (hf2: ∀j,j<new.length->f (old.length+j)=new[j]?) (hn:new.length=ys.length*ks.length):
  ∀i x,(xs++ys)[i]? =some x->Zc Z H ks x (fun j=>f (i*ks.length+j)):=by
 intro i x hx;by_cases hi:i<xs.length
 ·rw [List.getElem?_append_left hi] at hx;refine Zc.congr (fun j hj=>hf1 _ ?_) (h1 i x hx);have:(i+1)*ks.length <= xs.length*ks.length:=Nat.mul_le_mul_right _ (by omega)
  rw [Nat.add_mul] at this;omega
 ·rw [List.getElem?_append_right (by omega)] at hx
  have hlt:i - xs.length<ys.length:=by rcases Nat.lt_or_ge (i - xs.length) ys.length with h | h;exact h;rw [List.getElem?_eq_none h] at hx;cases hx
  have e:i*ks.length=old.length+(i - xs.length)*ks.length:=by rw [ho,← Nat.add_mul];congr 1;omega
  refine Zc.congr (fun j hj=>?_) (h2 _ x hx);rw [e,Nat.add_assoc];refine hf2 _ ?_;have:(i - xs.length+1)*ks.length <= ys.length*ks.length:=Nat.mul_le_mul_right _ (by omega)
  rw [Nat.add_mul] at this;omega
theorem Zbxc {P:Program} {E:En} {st:St} {ρ:Env} {H:Heap} {g:Gh} (s:Sim E st ρ H g) {t0 t1 t:TypeId} {a x:AV} {va vx:Value} {K:AV->St->Prop} (h:appP P st t0 t1 a x K) (ha:SimV g H st.σ.length a va) (hx:SimV g H st.σ.length x vx):
  AppW P #[t0,t1] t [va,vx] H (Res E st ρ H g K):=by
 unfold appP at h;split at h
 ·rename_i e e' hu hu';split at h
  ·rename_i ks hks;split at h
   ·rename_i ys hel hrd;obtain ⟨it,z,hi,hz,hsz,hzl,hb0,hb1⟩:=Zbbo hel;obtain ⟨xb,n,xc,new,rfl,hyl,_,_,hnew,hnc,hnp⟩:=Zbpj s hrd hx;have hnl:=hnew.len;have hbe:Zqh P e=it.bytes:=by unfold Zqh;rw [hi]
    rw [hbe] at h;split at h
    ·obtain ⟨hle,h⟩:=h;simp only [SimV] at ha;subst ha;have hold:Reads H none (0*ks.length) []:=by rw [Nat.zero_mul];exact Reads.nil
     refine AppW.intro2 (n:=n) (sLen:=0) (sCap:=0) (sz:=ks.length) (by_:=it.bytes) hu hu' hi hsz rfl (by omega) hz hzl hold hnew (.inl ?_) (fun hc=>?_) fun hc m cap hm hcap hcb=>?_
     exact Zbaa (by omega) hb1 (by omega)
     ·have hn0:n=0:=by omega
      subst hn0;have:ys= []:=List.eq_nil_of_length_eq_zero hyl;subst this;exact ⟨rfl,s.newNo h⟩
     ·have hrl:(repL (cap - (0+n)) z).length=(cap - n)*ks.length:=by rw [Zip,hzl,Nat.zero_add]
      have:=s.newRow (T:=e) (K:=K) hm (vs:=[]++new++repL (cap - (0+n)) z) (xs:=ys) (cap:=cap) (by omega) hcb ?_ ?_ h
      rw [hyl] at this;rw [Nat.zero_add];rw [Nat.zero_add] at this;exact this;simp only [List.nil_append,List.length_append,hrl,hnl];rw [← Nat.add_mul];congr 1;omega
      ·have:=Zbat (xs:=[]) (ys:=ys) (old:=[]) (new:=new) (f:=fun j=>([]++new++repL (cap - (0+n)) z)[j]?) (by simp) (fun i x hx=>by simp at hx) hnc (by simp) (fun j hj=>by
        simp only [List.length_nil,Nat.zero_add,List.nil_append];rw [List.getElem?_append_left hj]) (by rw [hnl,hyl])
       simpa using this
    ·rename_i id;split at h
     ·rename_i T ks' xs ho;split at h
      ·rename_i _ _ hke hT _;have hT:=Nat.eq_of_beq_eq_true hT;subst hT hke;obtain ⟨hle,h⟩:=h;simp only [Zdl] at h;simp only [SimV] at ha;obtain ⟨_,rfl,_⟩:=ha;have hrow:=s.obj id _ ho;obtain ⟨aa,m,c,old,hV,hxl,hmc,hcm,hold,hoc,_⟩:=Zbfg (T:=T) hrow;have hol:=hold.len;obtain ⟨aa',m',c',hV',_,_,_,h5⟩:=hrow;rw [hV] at hV';cases hV';rw [hV];have happ: ∀(f:Nat->Option Value),(∀j,j<old.length->f j=old[j]?)->(∀j,j<new.length->f (old.length+j)=new[j]?)->∀i x,(xs++ys)[i]? =some x->Zc g.Z H ks' x (fun j=>f (i*ks'.length+j)):=
        fun f h1 h2=>Zbat (by rw [hol,hxl]) hoc hnc h1 h2 (by rw [hnl,hyl])
       refine AppW.intro2 (n:=n) (sLen:=m) (sCap:=c) (sz:=ks'.length) (by_:=it.bytes) hu hu' hi hsz rfl (by omega) hz hzl hold hnew (.inl ?_) (fun hc=>?_) fun hc mb cap hm hcap hcb=>?_
       exact Zbaa (by omega) hb1 (by omega)
       ·rcases h5 with ⟨rfl,rfl⟩ | ⟨oo,rfl,cc,T',hcc,hcs,_⟩
        ·have hn0:n=0:=by omega
         have hm0:m=0:=by omega
         subst hn0 hm0;have e1:ys= []:=List.eq_nil_of_length_eq_zero hyl;have e2:xs= []:=List.eq_nil_of_length_eq_zero hxl;subst e1 e2;obtain ⟨s1,r1⟩:=s.drop ho rfl;refine ⟨rfl,?_⟩;have:=s1.newNo (T:=T) (ks:=ks') (K:=K) (by
          simp only [St.new,St.obj,List.length_set];exact h)
         obtain ⟨a,st',g',sa,ra,va,ea,ka⟩:=this;exact ⟨a,st',g',sa,r1.trans ra,va,ea,ka⟩
        ·refine ⟨rfl,cc,T',hcc,?_,hnp,fun H' hb' hoth=>?_⟩;exact hcs
         ·have hmul:(m+n)*ks'.length <= c*ks'.length:=Nat.mul_le_mul_right _ hc;rw [Nat.add_mul] at hmul;have hfit:oo+m*ks'.length+new.length <= cc.size:=by omega
          obtain ⟨g',s',r',gB,gV⟩:=s.renew (o':= .row T false ks' (xs++ys)) ho rfl (H':=H') (.slice (some ⟨g.B id,oo,none⟩) (m+n) c) (.inl ⟨⟨_,_,_,hV⟩,hoth,by unfold Blk at hb';rw [hb'];simp⟩) (fun g' hext hz' hB hV2=>by
           simp only [SimO];refine ⟨_,_,_,hV2,by simp [hxl,hyl],hc,hcm,.inr ⟨oo,by rw [hB],_,T',by rw [hB];exact hb',by rw [Zwp];exact hcs,fun i x hx=>?_⟩⟩
           refine Zc.ext hext.z _ _ _ (Zc.congr (fun j _=>by rw [Nat.add_assoc]) (happ (fun j=>(putRow cc (oo+m*ks'.length) new)[oo+j]?) (fun j hj=>?_) (fun j hj=>?_) i x hx))
           ·show (putRow cc (oo+m*ks'.length) new)[oo+j]? =_;rw [Zkl _ _ _ _ hfit,if_neg (by omega)]
            obtain ⟨_,ct,Tt,frt,hbt,hct⟩:=hold.2 (by omega)
            simp only at hbt;rw [hcc] at hbt;cases hbt;exact hct j (by omega)
           ·show (putRow cc (oo+m*ks'.length) new)[oo+(old.length+j)]? =_;rw [Zkl _ _ _ _ hfit,if_pos (by omega)]
            congr 1;omega)
          refine ⟨_,_,g',s',r',?_,rfl,h⟩;simp only [SimV];exact ⟨by simp,gV.symm,_,_,_,rfl⟩
       ·obtain ⟨s1,r1⟩:=s.drop ho rfl;have hrl:(repL (cap - (m+n)) z).length=(cap - (m+n))*ks'.length:=by rw [Zip,hzl]
        have:=s1.newRow (T:=T) (K:=K) hm (vs:=old++new++repL (cap - (m+n)) z) (xs:=xs++ys) (cap:=cap) (by simp;omega) hcb (by
         simp only [List.length_append,hrl,hnl,hol];rw [← Nat.add_mul,← Nat.add_mul];congr 1;omega) (by
         refine happ (fun j=>(old++new++repL (cap - (m+n)) z)[j]?) (fun j hj=>?_) (fun j hj=>?_);show (old++new++repL (cap - (m+n)) z)[j]? =_;rw [List.append_assoc,List.getElem?_append_left hj]
         ·show (old++new++repL (cap - (m+n)) z)[old.length+j]? =_;rw [List.append_assoc,List.getElem?_append_right (by omega),Nat.add_sub_cancel_left,List.getElem?_append_left hj]) (by
         simp only [St.new,St.obj,List.length_set];exact h)
        have el:(xs++ys).length=m+n:=by simp [hxl,hyl]
        rw [el] at this;obtain ⟨a,st',g',sa,ra,va,ea,ka⟩:=this;exact ⟨a,st',g',sa,r1.trans ra,va,ea,ka⟩
      exact h.elim
     exact h.elim
    ·rename_i id off m c;split at h
     ·rename_i T cs ho hmc;simp only [Bool.and_eq_true] at hmc;have hm1:=Nat.le_of_ble_eq_true hmc.2;have hmc:=Nat.eq_of_beq_eq_true hmc.1;subst hmc;split at h
      ·rename_i xs hun hfl;have hfl:=Nat.le_of_ble_eq_true hfl;obtain ⟨hle,h⟩:=h;simp only [SimV] at ha;obtain ⟨_,rfl⟩:=ha;obtain ⟨us,hb,hs⟩:=s.obj id _ ho;have hs2:=(hs.drop off).take (m*ks.length);obtain ⟨hxl,hol,hoc⟩:=Zsr hun hs2;have hfit:off+m*ks.length <= us.length:=by rw [← hs.len];exact hfl
       have happ: ∀(f:Nat->Option Value),(∀j,j<((us.drop off).take (m*ks.length)).length->f j=((us.drop off).take (m*ks.length))[j]?)->(∀j,j<new.length->f (((us.drop off).take (m*ks.length)).length+j)=new[j]?)->∀i x,(xs++ys)[i]? =some x->Zc g.Z H ks x (fun j=>f (i*ks.length+j)):=
        fun f h1 h2=>Zbat (by rw [hol,hxl]) hoc hnc h1 h2 (by rw [hnl,hyl])
       have hold:Reads H (some ⟨g.B id,off,none⟩) (m*ks.length) ((us.drop off).take (m*ks.length)):=⟨hol,fun _=>⟨rfl,_,T,_,hb,fun j hj=>by
        simp only [List.getElem?_toArray];rw [List.getElem?_take,if_pos hj,List.getElem?_drop]⟩⟩
       generalize hg:(us.drop off).take (m*ks.length)=old at hs2 hol hoc happ hold;refine AppW.intro2 (n:=n) (sLen:=m) (sCap:=m) (sz:=ks.length) (by_:=it.bytes) hu hu' hi hsz rfl (by omega) hz hzl hold hnew (.inl ?_) (fun hc=>?_) fun hc mb cap hm hcap hcb=>?_
       exact Zbaa (by omega) hb1 (by omega)
       ·have hn0:n=0:=by omega
        subst hn0;have e1:ys= []:=List.eq_nil_of_length_eq_zero hyl;subst e1;have e2:new= []:=List.eq_nil_of_length_eq_zero (by rw [hnl];omega)
        subst e2;refine ⟨rfl,⟨us⟩,T,hb,by simpa using hfit,hnp,fun H' hb' hoth=>?_⟩
        obtain ⟨g',s',r',gB,gV⟩:=s.renew (o':= .row e false ks (xs++[])) ho rfl (H':=H') (.slice (some ⟨g.B id,off,none⟩) (m+0) m) (.inl ⟨trivial,hoth,by unfold Blk at hb';rw [hb'];simp⟩) (fun g' hext hz' hB hV2=>by
         simp only [SimO];refine ⟨_,_,_,hV2,by simp [hxl],by omega,by unfold Zo;omega,.inr ⟨off,by rw [hB],_,T,by rw [hB];exact hb',by simpa [putRow] using hfit,fun i x hx=>?_⟩⟩
         refine Zc.ext hext.z _ _ _ (Zc.congr (fun j _=>by simp only [putRow,Nat.add_assoc]) (happ (fun j=>(⟨us⟩:Array Value)[off+j]?) (fun j hj=>?_) (fun j hj=>by simp at hj) i x hx))
         rw [← hg] at hj ⊢;simp only [List.getElem?_toArray];rw [List.getElem?_take,if_pos (by simp only [List.length_take] at hj;omega),List.getElem?_drop])
        refine ⟨_,_,g',s',r',?_,rfl,h⟩;simp only [SimV];exact ⟨by simp,gV.symm,_,_,_,rfl⟩
       ·obtain ⟨s1,r1⟩:=s.drop ho rfl;have hrl:(repL (cap - (m+n)) z).length=(cap - (m+n))*ks.length:=by rw [Zip,hzl]
        have:=s1.newRow (T:=e) (K:=K) hm (vs:=old++new++repL (cap - (m+n)) z) (xs:=xs++ys) (cap:=cap) (by simp;omega) hcb (by
         simp only [List.length_append,hrl,hnl,hol];rw [← Nat.add_mul,← Nat.add_mul];congr 1;omega) (by
         refine happ (fun j=>(old++new++repL (cap - (m+n)) z)[j]?) (fun j hj=>?_) (fun j hj=>?_);show (old++new++repL (cap - (m+n)) z)[j]? =_;rw [List.append_assoc,List.getElem?_append_left hj]
         ·show (old++new++repL (cap - (m+n)) z)[old.length+j]? =_;rw [List.append_assoc,List.getElem?_append_right (by omega),Nat.add_sub_cancel_left,List.getElem?_append_left hj]) (by
         simp only [St.new,St.obj,List.length_set];exact h)
        have el:(xs++ys).length=m+n:=by simp [hxl,hyl]
        rw [el] at this;obtain ⟨a,st',g',sa,ra,va,ea,ka⟩:=this;exact ⟨a,st',g',sa,r1.trans ra,va,ea,ka⟩
      exact h.elim
     exact h.elim
    exact h.elim
   exact h.elim
  exact h.elim
 exact h.elim
def soP (P:Program) (st:St) (t:TypeId) (x:AV) (lo hi:Option AV) (mx:Option AV) (K:AV->St->Prop):Prop:=
 match P.underlying t,x,mx with
 | some (.slice e),.row id,none=>match szOf P e,st.σ[id]? with
  | some s,some (.row T false ks xs)=>match Nat.beq s ks.length with
   | true=>cut xs lo hi fun ys=>K (.row st.σ.length) ⟨st.α,st.σ.set id .gone++[.row T false ks ys]⟩
   | false=>False
  | _,_=>False
 | some (.array n e),.ptr id 0,none=>match kdOf P 8 e,szOf P e,st.σ[id]? with
  | some ks,some s,some (.obj _ false cs)=>match Nat.beq s ks.length&&Nat.ble n 1000000,lo,hi,unTs ks n cs with
   | true,none,none,some xs=>K (.row st.σ.length) ⟨st.α,st.σ.set id .gone++[.row e false ks xs]⟩
   | _,_,_,_=>False
  | _,_,_=>False
 | _,_,_=>False
theorem Zchk {P:Program} {E:En} {st:St} {ρ:Env} {H:Heap} {g:Gh} (s:Sim E st ρ H g) {t:TypeId} {x:AV} {lo hi mx:Option AV} {vx:Value} {vlo vhi vmx:Option Value} {K':AV->St->Prop} (h:soP P st t x lo hi mx K') (hx:SimV g H st.σ.length x vx)
  (hl: ∀a,lo=some a->∃v,vlo=some v∧SimV g H st.σ.length a v) (hl0:lo=none->vlo=none) (hh: ∀a,hi=some a->∃v,vhi=some v∧SimV g H st.σ.length a v) (hh0:hi=none->vhi=none) (hm0:mx=none->vmx=none):
  Zek P t vx vlo vhi vmx H (Res E st ρ H g K'):=by
 unfold soP at h;split at h
 case h_3=>exact h.elim
 case h_2=>
  rename_i n e id hu;rw [hm0 rfl];split at h
  case h_2=>exact h.elim
  rename_i ks sz T cs hks hsz ho;split at h
  case h_2=>exact h.elim
  rename_i xs hck hxs;have hle:n <= 1000000:=by simp only [Bool.and_eq_true] at hck;simpa using hck.2
  obtain ⟨vs,hb,hs⟩:=s.obj id _ ho;obtain ⟨h1,h2,h3⟩:=Zsr hxs hs;simp only [SimV] at hx;obtain ⟨_,rfl⟩:=hx;rw [hl0 rfl,hh0 rfl]
  obtain ⟨g',s',r',gB,gV⟩:=s.renew (o':= .row e false ks xs) ho rfl (H':=H) (.slice (some ⟨g.B id,0,none⟩) n n) (.inl ⟨trivial,fun _ _=>rfl,by rw [hb];simp⟩) (fun g' hext hz' hB hV2=>by
   simp only [SimO];refine ⟨_,_,_,hV2,h1,Nat.le_refl _,by unfold Zo;omega,.inr ⟨0,by rw [hB],⟨vs⟩,T,by rw [hB];exact hb,by simp [h2],fun i x hx=>?_⟩⟩
   refine Zc.ext hext.z _ _ _ (Zc.congr (fun j _=>?_) (h3 i x hx));simp)
  unfold Zek;simp only [hu,Zu,hsz,slHi];refine ⟨_,_,g',s',r',?_,rfl,h⟩;simp only [SimV];exact ⟨by simp,gV.symm,_,_,_,rfl⟩
 rename_i e id hu;rw [hm0 rfl];split at h
 case h_2=>exact h.elim
 rename_i sz T ks xs hsz ho;split at h
 case h_2=>exact h.elim
 rename_i hb;have hszk:=Nat.eq_of_beq_eq_true hb;have hrow:=s.obj id _ ho;obtain ⟨a,n,c,hV,hxl,hnc,hcm,h5⟩:=hrow;simp only [SimV] at hx;obtain ⟨_,rfl,_⟩:=hx;rw [hV];have mk: ∀(ys:List (Tp ks)) (a':Option Addr) (n' c':Nat),ys.length=n'->n' <= c'->c' <= Zo->((a=none∧a'=none∧c'=0)∨∃o o',(a=some ⟨g.B id,o,none⟩∧a'=some ⟨g.B id,o',none⟩∧∃cc T',H (g.B id)=some (.cells cc T' (0,0))∧o'+c'*ks.length <= cc.size∧
   ∀i x,ys[i]? =some x->Zc g.Z H ks x (fun j=>cc[o'+i*ks.length+j]?)))->K' (.row st.σ.length) ⟨st.α,st.σ.set id .gone++[.row T false ks ys]⟩->Res E st ρ H g K' (.slice a' n' c') H:=by
  intro ys a' n' c' h1 h2 h3 h4 hk;obtain ⟨g',s',r',gB,gV⟩:=s.renew (o':= .row T false ks ys) ho rfl (H':=H) (.slice a' n' c') (by
   rcases h4 with ⟨rfl,rfl,rfl⟩ | ⟨o,o',rfl,rfl,cc,T',hcc,_⟩;refine .inr ⟨rfl,fun g' hv=>?_⟩;rintro ⟨a,n,c,h⟩;rw [hv] at h;cases h
   ·exact .inl ⟨⟨_,_,_,hV⟩,fun _ _=>rfl,by rw [hcc];simp⟩) (fun g' hext hz' hB hV2=>by
   simp only [SimO];refine ⟨_,_,_,hV2,h1,h2,h3,?_⟩;rcases h4 with ⟨_,rfl,rfl⟩ | ⟨o,o',_,rfl,cc,T',hcc,h6,h7⟩;exact .inl ⟨rfl,rfl⟩
   ·exact .inr ⟨o',by rw [hB],cc,T',by rw [hB];exact hcc,h6,fun i x hx=>Zc.ext hext.z _ _ _ (h7 i x hx)⟩)
  refine ⟨_,_,g',s',r',?_,rfl,hk⟩;simp only [SimV];exact ⟨by simp,gV.symm,_,_,_,rfl⟩
 unfold Zek;simp only [hu,Zu,hsz]
 have:=Zbbi (cap:=c) (k':=fun n l=>match l with | none=>Res E st ρ H g K' (.slice a n c) H | some l=>Res E st ρ H g K' (.slice (if c=l then a else a.map (·.add (l*sz))) (n - l) (c - l)) H) h hl hl0 hh hh0 (by omega)
  (fun m hm hk=>mk _ a m c (by simp;omega) (by omega) hcm (by
   rcases h5 with ⟨rfl,rfl⟩ | ⟨o,rfl,cc,T',hcc,h6,h7⟩;exact .inl ⟨rfl,rfl,rfl⟩
   ·refine .inr ⟨o,o,rfl,rfl,cc,T',hcc,h6,fun i x hx=>h7 i x ?_⟩;rw [List.getElem?_take] at hx;split at hx;exact hx
    ·cases hx) hk)
  (fun m l hm hl hk=>mk _ _ _ _ (by simp;omega) (by omega) (by omega) (by
   rcases h5 with ⟨rfl,rfl⟩ | ⟨o,rfl,cc,T',hcc,h6,h7⟩
   ·refine .inl ⟨rfl,?_,by omega⟩
    split<;>rfl
   ·by_cases hcl:c=l
    ·rw [if_pos hcl];refine .inr ⟨o,o,rfl,rfl,cc,T',hcc,by subst hcl;simp;omega,fun i x hx=>?_⟩
     rw [List.getElem?_drop,List.getElem?_take] at hx;split at hx;omega;cases hx
    ·rw [if_neg hcl];have hsum:(l+(c - l))*ks.length=l*ks.length+(c - l)*ks.length:=Nat.add_mul _ _ _;have e1:l+(c - l)=c:=by omega
     rw [e1] at hsum;refine .inr ⟨o,o+l*sz,rfl,by simp only [Option.map_some];rw [Zfd rfl],cc,T',hcc,by rw [hszk];omega,fun i x hx=>?_⟩
     rw [List.getElem?_drop,List.getElem?_take] at hx;split at hx;refine Zc.congr (fun j _=>?_) (h7 (l+i) x hx);congr 1;rw [hszk,Nat.add_mul];omega
     ·cases hx) hk)
 rw [hxl] at this;refine slHi.mono (fun n hn=>?_) this;cases vlo with
 | none=>exact hn
 | some v=>exact hn
def mkP (P:Program) (st:St) (t:TypeId) (l c:AV) (K:AV->St->Prop):Prop:=
 match P.underlying t,l,c with
 | some (.slice e),.int .i64 n,.int .i64 m=>match kdOf P 8 e with
  | some ks=>match Zqm P e ks,Zdj P e with
   | true,some z=>match unT ks (z.map ofV1) with
    | some x=>0 <= n∧n <= m∧m <= 1000000000∧K (.row st.σ.length) (st.new (.row e false ks (List.replicate n.toNat x)))
    | none=>False
   | _,_=>False
  | none=>False
 | _,_,_=>False
theorem Zcck {P:Program} {E:En} {st:St} {ρ:Env} {H:Heap} {g:Gh} (s:Sim E st ρ H g) {t:TypeId} {l c:AV} {vl vc:Value} {K:AV->St->Prop} (h:mkP P st t l c K) (hl:SimV g H st.σ.length l vl) (hc:SimV g H st.σ.length c vc):
  Zix P t vl vc H (Res E st ρ H g K):=by
 unfold mkP at h;split at h
 ·rename_i e n m hu;simp only [SimV] at hl hc;obtain ⟨rfl,_⟩:=hl;obtain ⟨rfl,_⟩:=hc;split at h
  ·rename_i ks hks;split at h
   ·rename_i z hel hz;obtain ⟨it,z',hi,hz',hsz,hzl,hb0,hb1⟩:=Zbbo hel;rw [hz] at hz';cases hz';split at h
    ·rename_i x hx;obtain ⟨h0,h1,h2,h⟩:=h;have en:n=(n.toNat:Int):=by omega
     have em:m=(m.toNat:Int):=by omega
     rw [en,em];have hmul:it.bytes*m.toNat <= 100000*1000000000:=Nat.mul_le_mul hb1 (by omega)
     refine Zix.intro (z:=z) (it:=it) hu hi hz (by omega) (by omega) (by omega) (by omega) fun b hb=>?_
     have hx':=Zks hx (Zlz (g:=g) (H:=H) (N:=st.σ.length) z)
     have:=s.newRow (T:=e) (K:=K) hb (vs:=repL m.toNat z) (xs:=List.replicate n.toNat x) (cap:=m.toNat) (by simp;omega) (by unfold Zo;omega) (by rw [Zip,hzl]) (fun i y hy=>by
      rw [List.getElem?_replicate] at hy;split at hy
      ·rename_i hlt;cases hy;refine Zc.congr (fun j hj=>?_) hx';have hjz:j<z.length:=by omega
       have hlt2:i*ks.length+j<m.toNat*z.length:=by
        rw [hzl];have:(i+1)*ks.length <= m.toNat*ks.length:=Nat.mul_le_mul_right _ (by omega)
        rw [Nat.add_mul] at this;omega
       rw [Zbew z (by omega) m.toNat _ hlt2]
       congr 1;rw [hzl,Nat.mul_comm,Nat.mul_add_mod];exact Nat.mod_eq_of_lt hj
      ·cases hy) h
     simpa using this
    exact h.elim
   exact h.elim
  exact h.elim
 exact h.elim
def unL (ks:List Kd):List AV->Option (List (Tp ks))
 | []=>some []
 | a::as=>match unT ks [a],unL ks as with
  | some x,some xs=>some (x::xs)
  | _,_=>none
theorem Zbqy {g:Gh} {H:Heap} {N:Nat} {ks:List Kd} (h1:ks.length=1): ∀{as:List AV} {vs:List Value} {xs:List (Tp ks)},unL ks as=some xs->SimL g H N as vs->xs.length=vs.length∧∀i x,xs[i]? =some x->Zc g.Z H ks x (fun j=>vs[i*ks.length+j]?)
 | [],[],xs,h,_=>by simp only [unL,Option.some.injEq] at h;subst h;exact ⟨rfl,fun i x hx=>by simp at hx⟩
 | [],_::_,_,_,hs=>by simp only [SimL] at hs
 | _::_,[],_,_,hs=>by simp only [SimL] at hs
 | a::as,v::vs,xs,h,hs=>by
  simp only [SimL] at hs;simp only [unL] at h;split at h
  ·rename_i x xs' hx hxs;simp only [Option.some.injEq] at h;subst h;obtain ⟨h2,h3⟩:=Zbqy h1 hxs hs.2;refine ⟨by simp [h2],fun i y hy=>?_⟩
   cases i with
   | zero=>
    simp only [List.getElem?_cons_zero,Option.some.injEq] at hy;subst hy;have:=Zks hx (vs:=[v]) (by simp only [SimL];exact ⟨hs.1,trivial⟩)
    refine Zc.congr (fun j hj=>?_) this;obtain rfl:j=0:=by omega
    simp
   | succ i=>
    have:=h3 i y (by simpa using hy)
    refine Zc.congr (fun j hj=>?_) this;rw [h1,Nat.mul_one,Nat.mul_one,show i+1+j=(i+j)+1 by omega,List.getElem?_cons_succ]
  cases h
def arP (P:Program) (st:St) (t:TypeId) (K:AV->St->Prop):Prop:=
 match P.underlying t,Zpe P t with
 | some (.array _ e),some cs=>match kdOf P 8 e with
  | some ks=>match Nat.beq ks.length 1,unL ks cs with
   | true,some xs=>match Nat.ble xs.length 1000000 with
    | true=>K (.arr st.σ.length) (st.new (.row e false ks xs))
    | false=>False
   | _,_=>False
  | none=>False
 | _,_=>False
theorem Zbxd {P:Program} {E:En} {st:St} {ρ:Env} {H:Heap} {g:Gh} (s:Sim E st ρ H g) {t:TypeId} {K:AV->St->Prop} (h:arP P st t K):
  ∃l,Zdj P t=some l∧∀n,H n=none->Res E st ρ H g K (.pointer (some ⟨n,0,none⟩)) (H.upd n (.cells ⟨l⟩ t (0,0))):=by
 unfold arP at h;split at h
 ·rename_i len e cs hu hcs;obtain ⟨vs,hz,hs⟩:=Zya (g:=g) (H:=H) (N:=st.σ.length) hcs;split at h
  ·rename_i ks hks;split at h
   ·rename_i xs hk1 hxs;have h1:=Nat.eq_of_beq_eq_true hk1;split at h
    ·rename_i hle;have hle:xs.length <= 1000000:=by simpa using hle
     obtain ⟨hl,hc⟩:=Zbqy h1 hxs hs;refine ⟨vs,hz,fun n hn=>?_⟩;obtain ⟨g',s',r',gB,gV⟩:=s.new (o:= .row e false ks xs) (c:=⟨vs⟩) (T:=t) hn (.slice (some ⟨n,0,none⟩) xs.length xs.length) (fun g' hext hz' hB hV=>by
      simp only [SimO];refine ⟨_,_,_,hV,rfl,Nat.le_refl _,by unfold Zo;omega,.inr ⟨0,by rw [hB],⟨vs⟩,t,by rw [hB];exact Sh.upd_eq,by simp [hl,h1],fun i x hx=>?_⟩⟩
      refine Zc.ext hext.z _ _ _ (Zc.congr (fun j _=>?_) (hc i x hx));simp)
     refine ⟨_,_,g',s',r',?_,rfl,h⟩;simp only [SimV];exact ⟨by simp [St.new],n,_,_,gV,rfl⟩
    exact h.elim
   exact h.elim
  exact h.elim
 exact h.elim
def saP (P:Program) (st:St) (t:TypeId) (a:AV) (ks':List Kd) (xs':List (Tp ks')) (K:St->Prop):Prop:=
 match szOf P t,a with
 | some s,.arr id=>match st.σ[id]?,Nat.blt 0 s with
  | some (.row T false ks xs),true=>match Kd.decs ks' ks with
   | isTrue h=>xs'.length=xs.length∧xs'.length*ks.length=s∧K (st.obj id (.row T false ks (Zdl h xs')))
   | isFalse _=>False
  | _,_=>False
 | _,_=>False
theorem Zcgh {P:Program} {E:En} {st:St} {ρ:Env} {H:Heap} {g:Gh} (s:Sim E st ρ H g) {t:TypeId} {a:AV} {ks':List Kd} {xs':List (Tp ks')} {va vx:Value} {K':St->Prop} {K:AV->St->Prop} (h:saP P st t a ks' xs' K') (ha:SimV g H st.σ.length a va) (hx:SimV g H st.σ.length (.arv ks' xs') vx)
  (hk: ∀st',K' st'->K .undef st'):Zdk P t va vx H (Res E st ρ H g K):=by
 unfold saP at h;split at h
 ·rename_i sz id hsz;split at h
  ·rename_i T ks xs ho hpos;have hpos:0<sz:=by simpa using hpos
   split at h
   ·rename_i hks _;subst hks;obtain ⟨h1,h2,h⟩:=h;simp only [Zdl] at h;simp only [SimV] at ha hx;obtain ⟨_,b,m,c0,hV,rfl⟩:=ha;obtain ⟨vs,rfl,hvl,hvc⟩:=hx;obtain ⟨a,n,cap,e1,e2,e3,e4,e5⟩:=s.obj id _ ho;have e1':=e1;rw [hV] at e1;cases e1;rcases e5 with ⟨e6,_⟩ | ⟨o,e6,cs,T',hb,hle,hc⟩;cases e6
    ·simp only [Option.some.injEq,Addr.mk.injEq] at e6;obtain ⟨rfl,rfl,_⟩:=e6;have hmul:xs.length*ks'.length <= c0*ks'.length:=Nat.mul_le_mul_right _ (by omega)
     have hcl:(Value.agg ⟨vs⟩).cells.toList=vs:=rfl;have hfit:0+vs.length <= cs.size:=by rw [hvl,h1];omega
     have hkp:0<ks'.length:=by rcases Nat.eq_zero_or_pos ks'.length with e | e;rw [e,Nat.mul_zero] at h2;omega;exact e
     have hpl: ∀v∈vs,Zcy v=true:=by
      intro v hv;obtain ⟨q,hq⟩:=List.getElem?_of_mem hv;have hql:q<vs.length:=by rcases Nat.lt_or_ge q vs.length with h | h;exact h;rw [List.getElem?_eq_none h] at hq;cases hq
      have hi:q/ks'.length<xs'.length:=by rw [Nat.div_lt_iff_lt_mul hkp,← hvl];exact hql
      obtain ⟨w,hw,hp⟩:=(hvc (q/ks'.length) xs'[q/ks'.length] (List.getElem?_eq_getElem hi)).plain (q%ks'.length) (Nat.mod_lt _ hkp);have e:q/ks'.length*ks'.length+q%ks'.length=q:=by rw [Nat.mul_comm];exact Nat.div_add_mod _ _
      rw [e,hq] at hw;cases hw;exact hp
     unfold Zdk;have hn2:Nat.beq vs.length sz=true:=by rw [hvl,h2];exact Nat.beq_refl _
     simp only [Zu,hsz,hcl,hn2];have fin: ∀H',H' (g.B id)=some (.cells (putRow cs 0 vs) T' (0,0))->(∀b',b'≠g.B id->H' b'=H b')->Res E st ρ H g K undef H':=by
      intro H' hb' hoth
      obtain ⟨s',r'⟩:=s.turn (o':= .row T false ks' xs') ho rfl ⟨_,_,_,hV⟩ hoth (by rw [hb'];simp) (fun _=>trivial) fun hext=>by
       simp only [SimO];refine ⟨_,_,_,e1',by rw [h1];exact e2,e3,e4,.inr ⟨0,rfl,_,_,hb',by rw [Zwp];exact hle,fun i x hx=>?_⟩⟩
       have hlt:i<xs'.length:=by rcases Nat.lt_or_ge i xs'.length with h | h;exact h;rw [List.getElem?_eq_none h] at hx;cases hx
       refine Zc.ext hext.z _ _ _ (Zc.congr (fun j hj=>?_) (hvc i x hx));have hm2:(i+1)*ks'.length <= xs'.length*ks'.length:=Nat.mul_le_mul_right _ (by omega)
       rw [Nat.add_mul,Nat.one_mul] at hm2;rw [Zkl _ _ _ _ hfit,if_pos (by omega)]
       congr 1;omega
      exact ⟨.undef,_,g,s',r',by simp only [SimV],rfl,hk _ h⟩
     refine Zzv vs 0 H cs hb hpl (by omega) (fun he=>?_) (fun H' hb' hoth=>fin H' (by simpa using hb') hoth)
     rw [he] at hvl;simp only [List.length_nil] at hvl;omega
   exact h.elim
  exact h.elim
 exact h.elim
def cvP (P:Program) (st:St) (s d ot:TypeId) (x:AV) (K:AV->Prop):Prop:=
 match Zho P s with
 | true=>match P.underlying d,x with
  | some (.int k),.int _ n=>K (.int k (k.wrap n))
  | _,_=>False
 | false=>match P.underlying s,P.underlying d with
  | some (.slice e),some .string=>match P.underlying e,rdL st.σ [.int .u8] x with
   | some (.int .u8),some xs=>match Zgt P ot (.str xs) with
    | true=>K (.str xs)
    | false=>False
   | _,_=>False
  | some .string,some .string=>match x with
   | .str l=>match Zgt P ot (.str l) with
    | true=>K (.str l)
    | false=>False
   | _=>False
  | _,_=>False
theorem Zbyn {P:Program} {E:En} {st:St} {ρ:Env} {H:Heap} {g:Gh} (sm:Sim E st ρ H g) {s d ot:TypeId} {x:AV} {vx:Value} {K':AV->Prop} {K:Value->Heap->Prop} (h:cvP P st s d ot x K') (hx:SimV g H st.σ.length x vx)
  (hk: ∀a v,SimV g H st.σ.length a v->K' a->K v H):Zfa P s d ot vx H K:=by
 have fit: ∀(l:List UInt8),l.length <= Zo->(match Zgt P ot (.str l) with | true=>K' (.str l) | false=>False)->ofTy P ot K (.string (bstr l)) H:=fun l hl hk'=>by
  have hs:SimV g H st.σ.length (.str l) (.string (bstr l)):=by simp only [SimV];exact ⟨trivial,hl⟩
  split at hk';rename_i hf;exact Zbkp hf hs (hk _ _ hs hk');exact hk'.elim
 unfold cvP at h;unfold Zfa;split at h
 ·rename_i hi;rw [hi];simp only;split at h;rename_i k k' n hd;simp only [SimV] at hx;obtain ⟨rfl,_⟩:=hx;simp only [hd];exact hk _ _ (by simp only [SimV];exact ⟨trivial,Zhc _ _⟩) h
  exact h.elim
 ·rename_i hi;rw [hi];simp only;split at h
  ·rename_i e hs hd;split at h
   ·rename_i xs he hr;obtain ⟨a,n,c,new,rfl,hl,_,hcl,hrd,hc,_⟩:=Zbpj sm hr hx;have hnl:=hrd.len;simp only [List.length_cons,List.length_nil,Nat.zero_add,Nat.mul_one] at hnl hc hrd;have hnew:new=(xs:List UInt8).map fun x=> .int .u8 x.toNat:=by
     apply List.ext_getElem?
     intro i;rw [List.getElem?_map];by_cases hi:i<xs.length;have:=hc i xs[i] (List.getElem?_eq_getElem hi);simp only [Zc,Zh,Nat.add_zero] at this;obtain ⟨⟨v,h1,h2,_⟩,_⟩:=this;rw [h1,h2];have e:(xs:List UInt8)[i]? =some (xs[i]:UInt8):=List.getElem?_eq_getElem hi;rw [e];rfl
     ·have e:(xs:List UInt8)[i]? =none:=List.getElem?_eq_none (by omega)
      rw [e,List.getElem?_eq_none (by omega)];rfl
    rw [hnew] at hrd;exact StrW.intro (bs:=(xs:List UInt8)) hs hd he hrd (fit xs (by have: @List.length UInt8 xs=n:=hl;omega) h)
   exact h.elim
  rename_i hs hd;split at h;rename_i l;simp only [SimV] at hx;obtain ⟨rfl,hll⟩:=hx;unfold convert;refine (SemW.bind _ _ _ _).2 (Zp hs ?_);refine (SemW.bind _ _ _ _).2 (Zp hd ?_);exact fit l hll h;exact h.elim;exact h.elim
end Go.Sh
end
section
namespace Go.Sh
variable [Laid]
abbrev Ct:=St->List AV->(AV->St->Prop)->Prop
def Zcp (P:Program) (f:FuncId) (c:Ct):Prop:=∀(E:En) (st:St) (ρ:Env) (H:Heap) (g:Gh) (args:List AV) (vs:List Value) (K:AV->St->Prop),Sim E st ρ H g->SimL g H st.σ.length args vs->c st args K->FnW P f ⟨vs⟩ H (Res E st ρ H g K)
def ctOf (f:Nat):List (Nat×Ct)->Option Ct
 | []=>none
 | (k,c)::l=>match Nat.beq f k with
  | true=>some c
  | false=>ctOf f l
def Zjq (P:Program):List (Nat×Ct)->Prop
 | []=>True
 | (f,c)::l=>Zcp P f c∧Zjq P l
theorem Zjq.get {P:Program} {f:Nat} {c:Ct}: ∀{l:List (Nat×Ct)},Zjq P l->ctOf f l=some c->Zcp P f c
 | [],_,h=>by simp only [ctOf] at h;cases h
 | (k,c')::l,hl,h=>by simp only [ctOf] at h;split at h;rename_i hb;cases h;rw [Nat.eq_of_beq_eq_true hb];exact hl.1;exact Zjq.get hl.2 h
def lnP (P:Program) (st:St) (t:TypeId) (x:AV) (K:AV->Prop):Prop:=
 match P.underlying t,x with
 | some .string,.str l=>K (.int .i64 (l.length:Int))
 | some (.array n _),_=>match Nat.ble n Zo with
  | true=>K (.int .i64 (n:Int))
  | false=>False
 | some (.slice _),.lst _ xs=>K (.int .i64 (xs.length:Int))
 | some (.slice _),.nils=>K (.int .i64 0)
 | some (.slice _),.osl _ _ n _=>match Nat.ble n Zo with
  | true=>K (.int .i64 (n:Int))
  | false=>False
 | some (.slice _),.row id=>match st.σ[id]? with
  | some (.row _ _ _ xs)=>K (.int .i64 (xs.length:Int))
  | some (.frz _ xs)=>K (.int .i64 (xs.length:Int))
  | _=>False
 | _,_=>False
theorem Zcbz {P:Program} {st:St} {t:TypeId} {x:AV} {K:AV->Prop} (h:lnP P st t x K):Zhp P (some t)=false:=by
 cases hm:Zhp P (some t) with
 | false=>rfl
 | true=>
  unfold Zhp at hm;dsimp only at hm;split at hm;rename_i k e hu;unfold lnP at h;rw [hu] at h;cases x<;>exact h.elim;cases hm
theorem Zcca {P:Program} {E:En} {st:St} {ρ:Env} {H:Heap} {g:Gh} (s:Sim E st ρ H g) {t:TypeId} {x:AV} {v:Value} {K':AV->Prop} {K:Value->Heap->Prop} (h:lnP P st t x K') (hx:SimV g H st.σ.length x v)
  (hk: ∀a v,SimV g H st.σ.length a v->K' a->K v H):LenW P (some t) (some v) H K:=by
 have ki: ∀n:Nat,n <= Zo->K' (.int .i64 (n:Int))->K (goInt n) H:=fun n hn h=>hk _ _ (by simp only [SimV,goInt];exact ⟨trivial,by unfold Zo at hn;simp only [InR,loI,hiI];omega⟩) h
 unfold lnP at h;unfold LenW;split at h
 ·rename_i l hu;simp only [SimV] at hx;obtain ⟨rfl,hl⟩:=hx;simp only [hu];have:(bstr l).size=l.length:=by simp [bstr,ByteArray.size]
  rw [this];exact ki _ hl h
 rename_i n e _ hu;simp only [hu];split at h;rename_i hn;exact ki _ (Nat.le_of_ble_eq_true hn) h;exact h.elim;rename_i e ks xs hu;simp only [SimV] at hx;obtain ⟨a,n,c,new,rfl,hl,h1,h2,_⟩:=Zvz hx;simp only [hu];rw [← hl];exact ki _ (by omega) h
 rename_i e hu;simp only [SimV] at hx;subst hx;simp only [hu];exact ki 0 (Nat.zero_le _) h;rename_i e id off n cap hu;simp only [SimV] at hx;obtain ⟨_,rfl⟩:=hx;simp only [hu];split at h;rename_i hn;exact ki _ (Nat.le_of_ble_eq_true hn) h;exact h.elim
 ·rename_i e id hu;simp only [SimV] at hx;obtain ⟨_,rfl,_⟩:=hx;split at h;rename_i T r ks xs ho;obtain ⟨a,n,c,new,hv,hl,h1,h2,_⟩:=Zbfg (T:=T) (s.obj id _ ho);rw [hv];simp only [hu];rw [← hl];exact ki _ (by omega) h
  rename_i ks xs ho;obtain ⟨a,n,c,new,hv,hl,h1,h2,_⟩:=Zvz (s.obj id _ ho);rw [hv];simp only [hu];rw [← hl];exact ki _ (by omega) h
  exact h.elim
 exact h.elim
def unP (op:UnOp) (x:AV) (K:AV->Prop):Prop:=
 match op,x with
 | .not,.bool b=>K (.bool (!b))
 | .neg,.int k n=>K (.int k (k.wrap (0 - n)))
 | .xor,.int k n=>K (.int k (Zbio k (if k.signed=true then -1 else k.max) n))
 | _,_=>False
theorem Zcjs {P:Program} {op:UnOp} {x:AV} {v:Value} {g:Gh} {H:Heap} {N:Nat} {K':AV->Prop} {K:Value->Heap->Prop} (h:unP op x K') (hx:SimV g H N x v) (hk: ∀a v,SimV g H N a v->K' a->K v H):UnW P op v H K:=by
 unfold unP at h;split at h;simp only [SimV] at hx;subst hx;exact hk _ _ (by simp only [SimV]) h
 simp only [SimV] at hx;obtain ⟨rfl,_⟩:=hx;exact hk (.int _ _) _ (by simp only [SimV];exact ⟨trivial,Zhc _ _⟩) h
 simp only [SimV] at hx;obtain ⟨rfl,_⟩:=hx;exact hk (.int _ _) _ (by simp only [SimV];exact ⟨rfl,Zhc _ _⟩) h
 exact h.elim
def fldP (P:Program) (s:TypeId) (x:AV) (f:Nat) (K:AV->Prop):Prop:=
 match P.underlying s with
 | some (.struct fs)=>match fs.toList[f]? with
  | some f=>match szOf P f.type with
   | some (_+1)=>match x with
    | .ptr id off=>K (.ptr id (off+f.offset))
    | .rdp cs=>K (.rdp (cs.drop f.offset))
    | .elm id sz i off=>K (.elm id sz i (off+f.offset))
    | _=>False
   | _=>False
  | none=>False
 | _=>False
theorem Zbee (b o n:Nat):padd ⟨b,o,none⟩ n=⟨b,o+n,none⟩:=by rw [Zog];exact Zfd rfl n
theorem Zbzb {P:Program} {g:Gh} {H:Heap} {N:Nat} {s:TypeId} {x:AV} {v:Value} {f:Nat} {K':AV->Prop} {K:Value->Heap->Prop} (h:fldP P s x f K') (hx:SimV g H N x v) (hk: ∀a v,SimV g H N a v->K' a->K v H):Zhe P s v f H K:=by
 unfold fldP at h;split at h
 ·rename_i fs hu;split at h
  ·rename_i fl hf;split at h
   ·rename_i n hsz;split at h;rename_i id off;simp only [SimV] at hx;obtain ⟨hid,rfl⟩:=hx;unfold Zhe;simp only [hu,hf,Zu,hsz];rw [Zbee];exact hk _ _ (by simp only [SimV];exact ⟨hid,trivial⟩) h
    rename_i cs;simp only [SimV] at hx;obtain ⟨b,o,vs,rfl,hz,hs,hc⟩:=hx;unfold Zhe;simp only [hu,hf,Zu,hsz];rw [Zbee];exact hk _ _ (Zbet hz hs hc) h;rename_i id sz i off;simp only [SimV] at hx;obtain ⟨hid,b,oo,n',c,hv,rfl⟩:=hx;unfold Zhe;simp only [hu,hf,Zu,hsz];rw [Zbee];exact hk _ _ (by simp only [SimV];exact ⟨hid,b,oo,n',c,hv,by rw [Nat.add_assoc]⟩) h
    exact h.elim
   exact h.elim
  exact h.elim
 exact h.elim
def fvP (P:Program) (t:TypeId) (x:AV) (f:Nat) (K:AV->Prop):Prop:=
 match P.underlying t,x with
 | some (.struct fs),.agg cs=>match fs.toList[f]? with
  | some f=>match Zde P f.type with
   | some true=>match szOf P f.type with
    | some s=>K (.agg ((cs.drop f.offset).take s))
    | none=>False
   | some false=>match cs[f.offset]? with
    | some a=>K a
    | none=>False
   | none=>False
  | none=>False
 | _,_=>False
theorem Zbzh {P:Program} {g:Gh} {H:Heap} {N:Nat} {t:TypeId} {x:AV} {v:Value} {f:Nat} {K':AV->Prop} {K:Value->Heap->Prop} (h:fvP P t x f K') (hx:SimV g H N x v) (hk: ∀a v,SimV g H N a v->K' a->K v H):Ziw P t v f H K:=by
 unfold fvP at h;split at h
 ·rename_i fs cs hu;simp only [SimV] at hx;obtain ⟨vs,rfl,hs⟩:=hx;split at h
  ·rename_i fl hf;unfold Ziw;simp only [hu,hf];split at h
   ·rename_i hA;split at h;rename_i s hsz;simp only [hA,Zu,hsz];exact hk _ _ (by simp only [SimV];exact ⟨_,rfl,(hs.drop _).take _⟩) h
    exact h.elim
   rename_i hA;split at h;rename_i a ha;obtain ⟨u,hu',hsu⟩:=hs.get ha;simp only [hA,hu'];exact hk _ _ hsu h;exact h.elim;exact h.elim
  exact h.elim
 exact h.elim
def capP (P:Program) (t:TypeId) (x:AV) (K:AV->Prop):Prop:=
 match x with
 | .nils=>match P.underlying t with
  | some (.slice _)=>K (.int .i64 0)
  | _=>False
 | _=>False
theorem Zbxq {P:Program} {g:Gh} {H:Heap} {N:Nat} {t:TypeId} {x:AV} {v:Value} {K':AV->Prop} {K:Value->Heap->Prop} (h:capP P t x K') (hx:SimV g H N x v) (hk: ∀a v,SimV g H N a v->K' a->K v H):CapW P t v H K:=by
 unfold capP at h;split at h
 ·split at h;rename_i e hu;simp only [SimV] at hx;subst hx;unfold CapW;simp only [hu];exact hk (.int .i64 0) _ (by simp only [SimV];exact ⟨rfl,by simp [InR,loI,hiI]⟩) h
  exact h.elim
 exact h.elim
def Zmo (P:Program) (o:Oper) (st:St) (K:AV->Prop):Prop:=
 match o.op with
 | .move x=>K (evA st.α x)
 | .assign x=>K (evA st.α x)
 | .pick c a b=>match evA st.α c with
  | .bool t=>IfB t (K (evA st.α a)) (K (evA st.α b))
  | _=>False
 | .load t a=>ldP P st t (evA st.α a) K
 | .nilCheck x=>match evA st.α x with
  | .ptr id off=>K (.ptr id off)
  | .rdp cs=>K (.rdp cs)
  | .elm id sz i off=>K (.elm id sz i off)
  | .arr id=>K (.arr id)
  | _=>False
 | .indexAddr t x i=>ixP P st t (evA st.α x) (evA st.α i) K
 | .index t x i=>inP P t (evA st.α x) (evA st.α i) K
 | .build t parts=>match Zbam P t (parts.toList.map fun p=>(p.1,evA st.α p.2)) with
  | some cs=>K (.agg cs)
  | none=>False
 | .binOp op t x y _=>binA P (isLit y) t op (evA st.α x) (evA st.α y) K
 | .convert s d x=>cvP P st s d o.type (evA st.α x) K
 | .fieldAddr s x f=>fldP P s (evA st.α x) f K
 | .field t x f=>fvP P t (evA st.α x) f K
 | .extract t ix=>match evA st.α t with
  | .tup vs=>match vs[ix]? with
   | some v=>K v
   | none=>False
  | _=>False
 | .call c=>match c.callee with
  | .builtin .len=>match c.argTypes.toList[0]?,(c.args.toList.map (evA st.α))[0]? with
   | some t,some x=>lnP P st t x K
   | _,_=>False
  | .builtin .cap=>match c.argTypes.toList[0]?,(c.args.toList.map (evA st.α))[0]? with
   | some t,some x=>capP P t x K
   | _,_=>False
  | .builtin .min=>match c.args.toList.map (evA st.α) with
   | [.int k x,.int k' y]=>match decide (k=k') with
    | true=>K (.int k (min x y))
    | false=>False
   | _=>False
  | .builtin .max=>match c.args.toList.map (evA st.α) with
   | [.int k x,.int k' y]=>match decide (k=k') with
    | true=>K (.int k (max x y))
    | false=>False
   | _=>False
  | _=>False
 | .unOp op _ x=>unP op (evA st.α x) K
 | _=>False
theorem Zne {E:En} {st:St} {ρ:Env} {H:Heap} {g:Gh} (s:Sim E st ρ H g): ∀l:List Operand,SimL g H st.σ.length (l.map (evA st.α)) (l.map (ev ρ))
 | []=>by simp only [List.map_nil,SimL]
 | x::l=>by simp only [List.map_cons,SimL];exact ⟨Zjv s x,Zne s l⟩
theorem Zbkb {E:En} {st:St} {ρ:Env} {H:Heap} {g:Gh} (s:Sim E st ρ H g) (l:List (Nat×Operand)):
  (l.map fun p=>(p.1,ev ρ p.2)).map (·.1)=(l.map fun p=>(p.1,evA st.α p.2)).map (·.1)∧SimL g H st.σ.length ((l.map fun p=>(p.1,evA st.α p.2)).map (·.2)) ((l.map fun p=>(p.1,ev ρ p.2)).map (·.2)):=by
 induction l with
 | nil=>exact ⟨rfl,by simp only [List.map_nil,SimL]⟩
 | cons p l ih=>
  refine ⟨by simp,?_⟩
  simp only [List.map_cons,SimL];exact ⟨Zjv s p.2,ih.2⟩
theorem Zbhq {P:Program} {E:En} {st:St} {ρ:Env} {H:Heap} {g:Gh} (s:Sim E st ρ H g) {o:Oper} {K':AV->Prop} {K:Value->Heap->Prop} (h:Zmo P o st K') (hk: ∀a v,SimV g H st.σ.length a v->K' a->K v H):OpW P o ρ H K:=by
 have e:=Zjv s;unfold Zmo at h;unfold OpW;split at h<;>rename_i ho<;>(try simp only [ho])
 exact hk _ _ (e _) h;exact hk _ _ (e _) h
 ·rename_i c a b;split at h
  ·rename_i t ht;have:=e c;rw [ht] at this;simp only [SimV] at this;rw [this];cases t with
   | true=>exact hk _ _ (e a) h
   | false=>exact hk _ _ (e b) h
  exact h.elim
 exact Zrq s h (e _) hk
 ·rename_i x;have hx:=e x;split at h;rename_i id off hx';rw [hx'] at hx;have hx2:=hx;simp only [SimV] at hx;rw [hx.2];simp only [Ztr];exact hk _ _ (by rw [hx.2] at hx2;exact hx2) h
  rename_i cs hx';rw [hx'] at hx;have hx2:=hx;simp only [SimV] at hx;obtain ⟨b,oo,vs,hv,_⟩:=hx;rw [hv];simp only [Ztr];exact hk _ _ (by rw [hv] at hx2;exact hx2) h
  rename_i id sz i off hx';rw [hx'] at hx;have hx2:=hx;simp only [SimV] at hx;obtain ⟨_,b,_,n,c,_,hv⟩:=hx;rw [hv];simp only [Ztr];exact hk _ _ (by rw [hv] at hx2;exact hx2) h
  rename_i id hx';rw [hx'] at hx;have hx2:=hx;simp only [SimV] at hx;obtain ⟨_,b,n,c,_,hv⟩:=hx;rw [hv];simp only [Ztr];exact hk _ _ (by rw [hv] at hx2;exact hx2) h
  exact h.elim
 exact Zcam s h (e _) (e _) hk;exact Zbzy h (e _) (e _) hk
 ·rename_i t parts;split at h;rename_i cs hcs;obtain ⟨h1,h2⟩:=Zbkb s parts.toList;obtain ⟨us,hu,hs⟩:=Zbxl hcs h1 h2;rw [hu];exact hk _ _ (by simp only [SimV];exact ⟨us,rfl,hs⟩) h
  exact h.elim
 exact Zbxh h (e _) (e _) hk;exact Zbyn s h (e _) hk;exact Zbzb h (e _) hk;exact Zbzh h (e _) hk;rename_i t ix;split at h;rename_i vs hv;have ht:=e t;rw [hv] at ht;simp only [SimV] at ht;obtain ⟨us,hu,hs⟩:=ht;rw [hu];split at h;rename_i v hx;obtain ⟨u,hu',hsu⟩:=hs.get hx;simp only [hu'];exact hk _ _ hsu h;exact h.elim;exact h.elim
 ·rename_i c;have hargs:=Zne s c.args.toList;unfold Zgb;split at h;rename_i hc;simp only [hc];split at h;rename_i t x h1 h2;obtain ⟨v,hv,hsv⟩:=hargs.get h2;rw [h1,hv];rw [Zcbz h];exact Zcca s h hsv hk;exact h.elim;rename_i hc;simp only [hc];split at h;rename_i t x h1 h2;obtain ⟨v,hv,hsv⟩:=hargs.get h2;rw [h1,hv];exact Zbxq h hsv hk;exact h.elim
  ·rename_i hc;simp only [hc];split at h
   ·rename_i k x k' y ha;rw [ha] at hargs;split at h
    ·rename_i hk';have hk':=of_decide_eq_true hk';subst hk';cases hm:c.args.toList.map (ev ρ) with
     | nil=>rw [hm] at hargs;simp only [SimL] at hargs
     | cons v vs=>
      rw [hm] at hargs;cases vs with
      | nil=>simp only [SimL] at hargs;exact hargs.2.elim
      | cons u us=>
       simp only [SimL] at hargs;cases us with
       | nil=>
        obtain ⟨h1,h2,_⟩:=hargs;simp only [SimV] at h1 h2;obtain ⟨rfl,r1⟩:=h1;obtain ⟨rfl,r2⟩:=h2;exact hk _ _ (by simp only [SimV];refine ⟨trivial,?_⟩;rw [Int.min_def];split;exact r1;exact r2) h
       | cons=>exact hargs.2.2.elim
    exact h.elim
   exact h.elim
  ·rename_i hc;simp only [hc];split at h
   ·rename_i k x k' y ha;rw [ha] at hargs;split at h
    ·rename_i hk';have hk':=of_decide_eq_true hk';subst hk';cases hm:c.args.toList.map (ev ρ) with
     | nil=>rw [hm] at hargs;simp only [SimL] at hargs
     | cons v vs=>
      rw [hm] at hargs;cases vs with
      | nil=>simp only [SimL] at hargs;exact hargs.2.elim
      | cons u us=>
       simp only [SimL] at hargs;cases us with
       | nil=>
        obtain ⟨h1,h2,_⟩:=hargs;simp only [SimV] at h1 h2;obtain ⟨rfl,r1⟩:=h1;obtain ⟨rfl,r2⟩:=h2;exact hk _ _ (by simp only [SimV];refine ⟨trivial,?_⟩;rw [Int.max_def];split;exact r2;exact r1) h
       | cons=>exact hargs.2.2.elim
    exact h.elim
   exact h.elim
  exact h.elim
 exact Zcjs h (e _) hk;exact h.elim
def Zboe (own:List Tmp) (o:Oper):Bool:=match o.dst with
 | some d=>memB d own
 | none=>false
def POp (P:Program) (tab:List (Nat×Ct)) (own:List Tmp) (o:Oper) (st:St) (K:AV->St->Prop):Prop:=
 match o.op with
 | .store t a v=>match evA st.α v with
  | .arv ks xs=>saP P st t (evA st.α a) ks xs fun st'=>K .undef st'
  | x=>stP P st t (evA st.α a) x fun st'=>K .undef st'
 | .slice t x lo hi mx=>match Zboe own o with
  | true=>soP P st t (evA st.α x) (lo.map (evA st.α)) (hi.map (evA st.α)) (mx.map (evA st.α)) K
  | false=>slP P st t (evA st.α x) (lo.map (evA st.α)) (hi.map (evA st.α)) (mx.map (evA st.α)) K
 | .buildSlice t len parts=>Zbdt P st t len (parts.toList.map fun p=>(p.1,evA st.α p.2)) K
 | .alloc t=>match Zboe own o with
  | true=>arP P st t K
  | false=>match Zpe P t with
   | some cs=>K (.ptr st.σ.length 0) ⟨st.α,st.σ++[.obj t false cs]⟩
   | none=>False
 | .box t v=>match Ztz (evA st.α v) with
  | true=>K (.ptr st.σ.length 0) ⟨st.α,st.σ++[.obj t false (Zbz (evA st.α v))]⟩
  | false=>False
 | .makeSlice t l c=>mkP P st t (evA st.α l) (evA st.α c) fun a st'=>match Zgt P o.type a with
  | true=>K a st'
  | false=>False
 | .makeInterface t _=>match P.underlying t with
  | some (.interface _)=>False
  | some _=>match Zgt P o.type (.err false) with
   | true=>K (.err false) st
   | false=>False
  | none=>False
 | .makeFunc (.func f) first captured=>match first.toList with
  | []=>K (.fn f (captured.toList.map (evA st.α))) st
  | _=>False
 | .call c=>match c.callee with
  | .value (.func f)=>match ctOf f tab with
   | some ct=>ct st (c.args.toList.map (evA st.α)) fun a st'=>match Zgt P o.type a with
    | true=>K a st'
    | false=>False
   | none=>False
  | .value (.tmp t)=>match st.α t with
   | .fn f caps=>match ctOf f tab with
    | some ct=>ct st (c.args.toList.map (evA st.α)++caps) fun a st'=>match Zgt P o.type a with
     | true=>K a st'
     | false=>False
    | none=>False
   | _=>False
  | .builtin .append=>match c.argTypes.toList,c.args.toList.map (evA st.α) with
   | [t0,t1],[s,x]=>match Zho P t1 with
    | false=>appP P st t0 t1 s x fun a st'=>match Zgt P o.type a with
     | true=>K a st'
     | false=>False
    | true=>azP P st t0 t1 s x fun a st'=>match Zgt P o.type a with
     | true=>K a st'
     | false=>False
   | _,_=>False
  | _=>Zmo P o st fun a=>K a st
 | _=>Zmo P o st fun a=>K a st
theorem Res.fits {P:Program} {t:TypeId} {E:En} {st:St} {ρ:Env} {H:Heap} {g:Gh} {K:AV->St->Prop} {v:Value} {H':Heap} (h:Res E st ρ H g (fun a st'=>match Zgt P t a with | true=>K a st' | false=>False) v H'):ofTy P t (Res E st ρ H g K) v H':=by obtain ⟨a,st',g',hs,hr,hv,he,hk⟩:=h;split at hk;rename_i hf;exact Zbkp hf hv ⟨a,st',g',hs,hr,hv,he,hk⟩;exact hk.elim
theorem Zts {P:Program} {tab:List (Nat×Ct)} {own:List Tmp} (ht:Zjq P tab) {E:En} {st:St} {ρ:Env} {H:Heap} {g:Gh} (s:Sim E st ρ H g) {o:Oper} {K:AV->St->Prop} (h:POp P tab own o st K):OpW P o ρ H (Res E st ρ H g K):=by
 have e:=Zjv s;have pure':Zmo P o st (fun a=>K a st)->OpW P o ρ H (Res E st ρ H g K):=fun h=>Zbhq s h fun a v hv hk=>Res.same s hv hk;unfold POp at h;split at h;rename_i t a v ho;unfold OpW;simp only [ho];have ev':=e v;split at h;rename_i ks xs hav;rw [hav] at ev';exact Zcgh s h (e _) ev' fun st' hk=>hk;exact Zchs s h (e _) (e _) fun st' hk=>hk
 ·rename_i t x lo hi mx ho;unfold OpW;simp only [ho];split at h
  ·refine Zchk s h (e _) (fun a ha=>?_) (fun h=>?_) (fun a ha=>?_) (fun h=>?_) (fun h=>?_)
   ·cases lo with
    | none=>cases ha
    | some y=>cases ha;exact ⟨_,rfl,e y⟩
   ·cases lo with
    | none=>rfl
    | some y=>cases h
   ·cases hi with
    | none=>cases ha
    | some y=>cases ha;exact ⟨_,rfl,e y⟩
   ·cases hi with
    | none=>rfl
    | some y=>cases h
   ·cases mx with
    | none=>rfl
    | some y=>cases h
  ·refine Zchj s h (e _) (fun a ha=>?_) (fun h=>?_) (fun a ha=>?_) (fun h=>?_) (fun h=>?_)
   ·cases lo with
    | none=>cases ha
    | some y=>cases ha;exact ⟨_,rfl,e y⟩
   ·cases lo with
    | none=>rfl
    | some y=>cases h
   ·cases hi with
    | none=>cases ha
    | some y=>cases ha;exact ⟨_,rfl,e y⟩
   ·cases hi with
    | none=>rfl
    | some y=>cases h
   ·cases mx with
    | none=>rfl
    | some y=>cases h
 rename_i t len parts ho;unfold OpW;simp only [ho];obtain ⟨h1,h2⟩:=Zbkb s parts.toList;obtain ⟨e',l,hu,hl,hk⟩:=Zccm s h h1 h2;simp only [hu,hl];exact hk
 ·rename_i t ho;unfold OpW;simp only [ho];split at h;obtain ⟨l,hl,hr⟩:=Zbxd s h;rw [hl];exact hr;split at h
  ·rename_i cs hcs;obtain ⟨vs,hz,hs⟩:=Zya (g:=g) (H:=H) (N:=st.σ.length) hcs;rw [hz];intro n hn;obtain ⟨g',s',r',gB,_⟩:=s.new (o:= .obj t false cs) (c:=⟨vs⟩) (T:=t) hn undef (fun g' hext hz' hB _=>⟨vs,by rw [hB];exact Sh.upd_eq,SimL.ext (Nat.le_succ _) hext _ _ hs⟩)
   refine ⟨_,_,g',s',r',?_,rfl,h⟩;simp only [SimV];exact ⟨by simp [St.new],by rw [gB]⟩
  exact h.elim
 ·rename_i t v ho;unfold OpW;simp only [ho];split at h
  ·rename_i hcel;obtain ⟨hs,_⟩:=Zbas hcel (e v);intro n hn;have hcs:(ev ρ v).cells=⟨(ev ρ v).cells.toList⟩:=by simp
   rw [hcs];obtain ⟨g',s',r',gB,_⟩:=s.new (o:= .obj t false (Zbz (evA st.α v))) (c:=⟨(ev ρ v).cells.toList⟩) (T:=t) hn undef (fun g' hext hz' hB _=>⟨_,by rw [hB];exact Sh.upd_eq,SimL.ext (Nat.le_succ _) hext _ _ hs⟩)
   refine ⟨_,_,g',s',r',?_,rfl,h⟩;simp only [SimV];exact ⟨by simp [St.new],by rw [gB]⟩
  exact h.elim
 rename_i t l c ho;unfold OpW;simp only [ho];have:=Zcck s h (e l) (e c);exact SemW.mono _ _ _ _ (fun v H' h=>Res.fits h) this
 ·rename_i t x ho;unfold OpW;simp only [ho];split at h;exact h.elim
  ·rename_i d hd hni;split at h
   ·unfold execOp;simp only [ho];refine (SemW.bind _ _ _ _).2 ?_;unfold Instr.makeInterface;refine (SemW.bind _ _ _ _).2 (Zp hni ?_);have key:SemW P (pure (Value.iface t (ev ρ x))) H (fun a H'=>SemW P (pure (Next.value a)) H' (Zw P (Res E st ρ H g K))):=
     Res.same s (a:= .err false) (by simp only [SimV];exact ⟨_,_,rfl⟩) h
    cases d<;>first | exact key | exact (hd _ rfl).elim
   exact h.elim
  exact h.elim
 ·rename_i f first captured ho
  split at h
  ·rename_i h1;unfold OpW;simp only [ho];have e1:first=⟨[]⟩:=by apply Array.ext';simpa using h1
   subst e1;unfold Zgp;simp only [ho];have key:Res E st ρ H g K (.func (.func f) #[] ⟨captured.toList.map (ev ρ)⟩) H:=
    Res.same s (a:= .fn f (captured.toList.map (evA st.α))) (v:= .func (.func f) #[] ⟨captured.toList.map (ev ρ)⟩) (by simp only [SimV];exact ⟨_,rfl,Zne s _⟩) h
   exact key
  exact h.elim
 ·rename_i c ho;split at h;rename_i f hc;unfold OpW;simp only [ho];unfold Zgb;simp only [hc];split at h;rename_i ct hct;exact Zga.of_fn (((ht.get hct) E st ρ H g _ _ _ s (Zne s _) h).mono fun v H' h=>Res.fits h);exact h.elim
  ·rename_i t hc;split at h
   ·rename_i f caps hf;split at h
    ·rename_i ct hct;have ha:=s.tmp t;rw [hf] at ha;simp only [SimV] at ha;obtain ⟨vs,hv,hvs⟩:=ha;have hfn:=((ht.get hct) E st ρ H g _ _ _ s ((Zne s _).append hvs) h).mono fun v H' h=>Res.fits h;unfold OpW;simp only [ho];unfold Zgb;simp only [hc];rw [show Zjr (ρ t)= .fn f vs by rw [hv];rfl]
     exact hfn
    exact h.elim
   exact h.elim
  ·rename_i hc;unfold OpW;simp only [ho];unfold Zgb;simp only [hc];split at h
   ·rename_i t0 t1 a x h1 h2;have hargs:=Zne s c.args.toList;rw [h2] at hargs;have hat:c.argTypes= #[t0,t1]:=by apply Array.ext';simpa using h1
    rw [hat];cases hm:c.args.toList.map (ev ρ) with
    | nil=>rw [hm] at hargs;simp only [SimL] at hargs
    | cons v vs=>
     rw [hm] at hargs;cases vs with
     | nil=>simp only [SimL] at hargs;exact hargs.2.elim
     | cons u us=>
      simp only [SimL] at hargs;cases us with
      | nil=>
       split at h;have:=Zbxc (t:=o.type) s h hargs.1 hargs.2.1;exact SemW.mono _ _ _ _ (fun v H' h=>Res.fits h) this
       ·have:=Zbxf (t:=o.type) s h hargs.1 hargs.2.1;exact SemW.mono _ _ _ _ (fun v H' h=>Res.fits h) this
      | cons=>exact hargs.2.2.elim
   exact h.elim
  exact pure' h
 exact pure' h
end Go.Sh
end
section
namespace Go.Sh
variable [Laid]
def Zbdc:Value->Bool
 | .tuple _=>true
 | _=>false
def PG (all:Array Oper) (S:Oper->St->(AV->St->Prop)->Prop) (o:Oper) (st:St) (K:St->Prop):Prop:=
 match o.guard with
 | none=>S o st fun a st'=>K (st'.put o.dst a)
 | some (j,want)=>match gdst all j with
  | some d=>match st.α d with
   | .bool b=>IfB b
     (match want with
      | true=>S o (st.put (some d) (.bool true)) fun a st'=>K (st'.put o.dst a)
      | false=>K ((st.put (some d) (.bool true)).put o.dst (.raw undef)))
     (match want with
      | false=>S o (st.put (some d) (.bool false)) fun a st'=>K (st'.put o.dst a)
      | true=>K ((st.put (some d) (.bool false)).put o.dst (.raw undef)))
   | .raw u=>match Zbdc u with
    | true=>K (st.put o.dst (.raw undef))
    | false=>False
   | _=>False
  | none=>False
def POps (all:Array Oper) (S:Oper->St->(AV->St->Prop)->Prop):List Oper->St->(St->Prop)->Prop
 | [],st,K=>K st
 | o::os,st,K=>PG all S o st fun st'=>POps all S os st' K
def Lp (E:En) (st:St) (H:Heap) (g:Gh) (K:St->Prop):Env->Heap->Prop:=fun ρ' H'=>∃st' g',Sim E st' ρ' H' g'∧Rel st H g st' H' g'∧K st'
theorem Zbwp {E:En} {all:Array Oper} {S:Oper->St->(AV->St->Prop)->Prop} {S':Oper->Env->Heap->(Value->Heap->Prop)->Prop} (N:Nice S') {st0:St} {H0:Heap} {g0:Gh} {o:Oper} {st:St} {ρ:Env} {H:Heap} {g:Gh} {K:St->Prop}
  (hS: ∀{α:Nat->AV} {ρ:Env} {K:AV->St->Prop},Sim E ⟨α,st.σ⟩ ρ H g->S o ⟨α,st.σ⟩ K->S' o ρ H fun v H'=>∃a st' g',Sim E st' ρ H' g'∧Rel st0 H0 g0 st' H' g'∧SimV g' H' st'.σ.length a v∧K a st')
  (s:Sim E st ρ H g) (r:Rel st0 H0 g0 st H g) (h:PG all S o st K):OpG all S' o ρ H fun ρ' H'=>∃st' g',Sim E st' ρ' H' g'∧Rel st0 H0 g0 st' H' g'∧K st':=by
 have step: ∀{α:Nat->AV} {ρ:Env},Sim E ⟨α,st.σ⟩ ρ H g->S o ⟨α,st.σ⟩ (fun a st'=>K (st'.put o.dst a))->S' o ρ H fun v H'=>∃st' g',Sim E st' (put ρ o.dst v) H' g'∧Rel st0 H0 g0 st' H' g'∧K st':=by intro α ρ s h;refine N.mono _ _ _ _ _ (fun v H' hv=>?_) (hS s h);obtain ⟨a,st',g',h1,h2,h3,h4⟩:=hv;exact ⟨st'.put o.dst a,g',h1.put o.dst h3,⟨h2.len,h2.ext,h2.ro⟩,h4⟩
 unfold PG at h;unfold OpG;split at h;rename_i hg;rw [hg];exact step s h
 ·rename_i j want hg;rw [hg];simp only;split at h
  ·rename_i d hd;rw [hd];simp only;split at h
   ·rename_i b hb;have hρ:=s.tmp d;rw [hb] at hρ;simp only [SimV] at hρ;rw [hρ];simp only;refine IfB.mono h (fun h=>?_) (fun h=>?_)
    ·have s1:Sim E (st.put (some d) (.bool true)) (put ρ (some d) (.bool true)) H g:=s.put (some d) (by simp only [SimV])
     cases want with
     | true=>exact step s1 h
     | false=>exact ⟨_,g,s1.put o.dst (a:= .raw undef) (by simp only [SimV]),⟨r.len,r.ext,r.ro⟩,h⟩
    ·have s1:Sim E (st.put (some d) (.bool false)) (put ρ (some d) (.bool false)) H g:=s.put (some d) (by simp only [SimV])
     cases want with
     | false=>exact step s1 h
     | true=>exact ⟨_,g,s1.put o.dst (a:= .raw undef) (by simp only [SimV]),⟨r.len,r.ext,r.ro⟩,h⟩
   ·rename_i u hu;have hρ:=s.tmp d;rw [hu] at hρ;simp only [SimV] at hρ;rw [hρ];split at h
    ·rename_i hun;have fin: ∃st' g',Sim E st' (put ρ o.dst undef) H g'∧Rel st0 H0 g0 st' H g'∧K st':=⟨_,g,s.put o.dst (a:= .raw undef) (by simp only [SimV]),⟨r.len,r.ext,r.ro⟩,h⟩
     cases u<;>simp only [Zbdc] at hun<;>first | (cases hun;done) | exact fin
    exact h.elim
   exact h.elim
  exact h.elim
theorem Ziy {E:En} {all:Array Oper} {S:Oper->St->(AV->St->Prop)->Prop} {S':Oper->Env->Heap->(Value->Heap->Prop)->Prop} (N:Nice S') {st0:St} {H0:Heap} {g0:Gh} {K:St->Prop}
  (hS: ∀{o:Oper} {st:St} {ρ:Env} {H:Heap} {g:Gh} {K:AV->St->Prop},Sim E st ρ H g->Rel st0 H0 g0 st H g->S o st K->S' o ρ H fun v H'=>∃a st' g',Sim E st' ρ H' g'∧Rel st0 H0 g0 st' H' g'∧SimV g' H' st'.σ.length a v∧K a st'):
  ∀(l:List Oper) (st:St) (ρ:Env) (H:Heap) (g:Gh),Sim E st ρ H g->Rel st0 H0 g0 st H g->POps all S l st K->OpsL all S' l ρ H fun ρ' H'=>∃st' g',Sim E st' ρ' H' g'∧Rel st0 H0 g0 st' H' g'∧K st':=by
 intro l;induction l with
 | nil=>exact fun st ρ H g s r h=>⟨st,g,s,r,h⟩
 | cons o os ih=>
  intro st ρ H g s r h;refine OpG.mono N (fun ρ' H' hk=>?_) (Zbwp N (fun {α ρ K} s' h'=>hS s' ⟨r.len,r.ext,r.ro⟩ h') s r h);obtain ⟨st',g',s',r',h'⟩:=hk;exact ih st' ρ' H' g' s' r' h'
def Zdd (r:Bool):AObj->AObj
 | .obj T _ cs=> .obj T r cs
 | .row T _ ks xs=> .row T r ks xs
 | o=>o
def Zgc (o o':AObj):Prop:=∃r,o'=Zdd r o
theorem Zgc.has {g:Gh} {id:Nat} {o o':AObj} (h:Zgc o o'):Has g id o'↔Has g id o:=by obtain ⟨r,rfl⟩:=h;cases o<;>exact Iff.rfl
theorem Zgc.sim {g:Gh} {H:Heap} {N id:Nat} {o o':AObj} (h:Zgc o o'):SimO g H N id o'↔SimO g H N id o:=by obtain ⟨r,rfl⟩:=h;cases o<;>exact Iff.rfl
theorem Sim.like {E:En} {st:St} {ρ:Env} {H:Heap} {g:Gh} (s:Sim E st ρ H g) {σ':List AObj} (hl:σ'.length=st.σ.length) (h: ∀(i:Nat) (o:AObj),σ'[i]? =some o->∃o1,st.σ[i]? =some o1∧Zgc o1 o):Sim E ⟨st.α,σ'⟩ ρ H g:=by refine ⟨fun t=>?_,fun i o hi=>?_,fun i o hi hh=>?_,fun i j oi oj hij hi hj hhi hhj=>?_,fun i o hi hh=>?_,s.keep,s.zsub,s.znew,s.zlive,s.lay,s.zc⟩;simp only [hl];exact s.tmp t;simp only [hl];obtain ⟨o1,h1,h2⟩:=h i o hi;exact h2.sim.2 (s.obj i o1 h1);obtain ⟨o1,h1,h2⟩:=h i o hi;exact s.nz i o1 h1 (h2.has.1 hh);obtain ⟨o1,h1,h2⟩:=h i oi hi;obtain ⟨o3,h3,h4⟩:=h j oj hj;exact s.dis i j o1 o3 hij h1 h3 (h2.has.1 hhi) (h4.has.1 hhj);obtain ⟨o1,h1,h2⟩:=h i o hi;exact s.own i o1 h1 (h2.has.1 hh)
def Zbdp:AObj->AObj
 | .obj T _ cs=> .obj T true cs
 | o=>o
def pts (α:Nat->AV):List Tmp->List Nat
 | []=>[]
 | t::ts=>match α t with
  | .ptr id _=>id::pts α ts
  | _=>pts α ts
def Zq (keep:List Nat):Nat->List AObj->List AObj
 | _,[]=>[]
 | i,o::os=>(match memB i keep with | true=>o | false=>Zbdp o)::Zq keep (i+1) os
theorem Zbdo (keep:List Nat): ∀(σ:List AObj) (i:Nat),(Zq keep i σ).length=σ.length
 | [],_=>rfl
 | o::os,i=>by simp [Zq,Zbdo keep os]
theorem Zbdn (keep:List Nat): ∀(σ:List AObj) (i j:Nat),(Zq keep i σ)[j]? =(σ[j]?).map fun o=>match memB (i+j) keep with | true=>o | false=>Zbdp o
 | [],_,_=>by simp [Zq]
 | o::os,i,0=>by simp [Zq]
 | o::os,i,j+1=>by
  simp only [Zq,List.getElem?_cons_succ];rw [Zbdn keep os (i+1) j];have e:i+1+j=i+(j+1):=by omega
  rw [e]
def Zri:AObj->Bool
 | .obj _ r _=>r
 | .row _ r _ _=>r
 | _=>false
def unmark:List AObj->List AObj->List AObj
 | o::os,o'::os'=>Zdd (Zri o) o'::unmark os os'
 | _,os'=>os'
theorem Zvw (o:AObj):Zgc o o:=⟨Zri o,by cases o<;>rfl⟩
theorem Zbgh: ∀(old σ:List AObj) (i:Nat) (o:AObj),(unmark old σ)[i]? =some o->∃o1,σ[i]? =some o1∧Zgc o1 o
 | [],σ,i,o,h=>⟨o,by simpa [unmark] using h,Zvw o⟩
 | _::_,[],i,o,h=>by simp [unmark] at h
 | a::old,b::σ,0,o,h=>by simp [unmark] at h;exact ⟨b,rfl,_,h.symm⟩
 | a::old,b::σ,i+1,o,h=>by simp [unmark] at h;obtain ⟨o1,h1,h2⟩:=Zbgh old σ i o h;exact ⟨o1,by simpa using h1,h2⟩
theorem Zss: ∀(old σ:List AObj),(unmark old σ).length=σ.length
 | [],σ=>by simp [unmark]
 | _::_,[]=>rfl
 | a::old,b::σ=>by simp [unmark,Zss old σ]
theorem Zbgg: ∀(old σ:List AObj) (i:Nat) (o o':AObj),old[i]? =some o->σ[i]? =some o'->(unmark old σ)[i]? =some (Zdd (Zri o) o')
 | [],_,_,_,_,h,_=>by simp at h
 | _::_,[],_,_,_,_,h=>by simp at h
 | a::old,b::σ,0,o,o',h,h'=>by simp at h h';subst h h';rfl
 | a::old,b::σ,i+1,o,o',h,h'=>by simp at h h';simpa [unmark] using Zbgg old σ i o o' h h'
theorem Zbks (o:AObj):Zdd (Zri o) o=o:=by cases o<;>rfl
theorem Sim.unmark {E:En} {st:St} {ρ:Env} {H:Heap} {g:Gh} (s:Sim E st ρ H g) (old:List AObj):Sim E ⟨st.α,Sh.unmark old st.σ⟩ ρ H g:=
 s.like (Zss _ _) (Zbgh _ _)
theorem Rel.unmark {st st':St} {σm:List AObj} {H H':Heap} {g g':Gh} (hm: ∀(i:Nat) (o:AObj),st.σ[i]? =some o->isRo o=true->σm[i]? =some o) (hl:σm.length=st.σ.length) (r:Rel ⟨st.α,σm⟩ H g st' H' g'):Rel st H g ⟨st'.α,Sh.unmark st.σ st'.σ⟩ H' g':=by
 refine ⟨by simp only [Zss];have:=r.len;simp only at this;omega,by have:=r.ext;simp only [hl] at this;exact this,fun id o ho hr=>?_⟩
 obtain ⟨h1,h2⟩:=r.ro id o (hm id o ho hr) hr;exact ⟨by rw [Zbgg _ _ _ _ _ ho h1,Zbks],h2⟩
def POpK (P:Program) (C:List Tmp) (o:Oper) (st:St) (K:AV->St->Prop):Prop:=
 match inC C o with
 | true=>match o.op with
  | .load t a=>match evA st.α a with
   | .ptr id off=>match st.σ[id]? with
    | some (.obj _ true _)=>ldP P st t (.ptr id off) fun a=>K a st
    | _=>False
   | .rdp cs=>ldP P st t (.rdp cs) fun a=>K a st
   | _=>False
  | _=>False
 | false=>Zmo P o st fun a=>K a st
def POpR (P:Program) (tab:List (Nat×Ct)) (own:List Tmp) (C:List Tmp) (σm:List AObj) (o:Oper) (st:St) (K:AV->St->Prop):Prop:=
 match inC C o with
 | true=>match o.op with
  | .load t a=>match evA st.α a with
   | .ptr id off=>match σm[id]? with
    | some (.obj _ true _)=>ldP P st t (.ptr id off) fun a=>K a st
    | _=>False
   | _=>False
  | _=>False
 | false=>POp P tab own o st K
def isFn (o:Oper):Bool:=match o.op with
 | .call c=>match c.callee with
  | .value _=>true
  | _=>false
 | _=>false
def fnN:List Oper->Nat
 | []=>0
 | o::os=>match isFn o with
  | true=>0
  | false=>fnN os+1
def Zbme (C:List Tmp):List Oper->Nat
 | []=>0
 | o::os=>match Zbme C os with
  | 0=>match inC C o with
   | true=>1
   | false=>0
  | n+1=>n+2
def Zvp (C:List Tmp) (l:List Oper):Nat:=Nat.min (Zbme C l) (fnN l)
def PTs (all:Array Oper) (S:Oper->St->(AV->St->Prop)->Prop) (a:Nat) (post Y:List Nat) (K:St->Prop):List Nat->St->Prop
 | [],st=>POps all S (Zd all (a::post)) st K
 | h::t,st=>match memB h Y with
  | true=>POps all S (Zd all (a::h::(t++post))) st K∧POps all S (Zd all [h]) st fun st'=>PTs all S a post Y K t st'
  | false=>POps all S (Zd all [h]) st fun st'=>PTs all S a post Y K t st'
def PReg (P:Program) (tab:List (Nat×Ct)) (own:List Tmp) (nomark:List Tmp) (regs:List (Nat×List Nat×List Tmp)) (trees:List (Nat×Tree)) (id:Nat) (ops:Array Oper) (draw:Bool) (st:St) (K:St->Prop):Prop:=
 match draw with
 | false=>POps ops (POp P tab own) ops.toList st K
 | true=>match Zxu id trees with
  | some t=>(match Zbek id regs,t.pre0.all fun h=>!(memB h t.Y) with
   | [],true=>POps ops (POp P tab own) (Zd ops t.pre0) st fun st=>PTs ops (POp P tab own) t.a t.post t.Y (fun st=>POps ops (POp P tab own) (Zd ops t.zs) st K) t.pre1 st
   | c::C,true=>POps ops (POpK P (c::C)) (Zd ops t.pre0) ⟨st.α,Zq (pts st.α nomark) 0 st.σ⟩ fun st1=>
     PTs ops (POpR P tab own (c::C) (Zq (pts st.α nomark) 0 st.σ)) t.a t.post t.Y (fun st2=>POps ops (POp P tab own) (Zd ops t.zs) ⟨st2.α,unmark st.σ st2.σ⟩ K) t.pre1 st1
   | _,_=>False)
  | none=>match Zsb id regs with
  | none=>POps ops (POp P tab own) ops.toList st K
  | some (l,[])=>POps ops (POp P tab own) (Zd ops l) st K
  | some (l,c::C)=>match Nat.beq c Zbdi with
   | true=>False
   | false=>POps ops (POpK P (c::C)) ((Zd ops (l.take (Zdo ops l))).take (Zvp (c::C) (Zd ops (l.take (Zdo ops l))))) ⟨st.α,Zq (pts st.α nomark) 0 st.σ⟩ fun st1=>
    POps ops (POpR P tab own (c::C) (Zq (pts st.α nomark) 0 st.σ)) ((Zd ops (l.take (Zdo ops l))).drop (Zvp (c::C) (Zd ops (l.take (Zdo ops l))))) st1 fun st2=>POps ops (POp P tab own) (Zd ops (l.drop (Zdo ops l))) ⟨st2.α,unmark st.σ st2.σ⟩ K
theorem OpsL.append {all:Array Oper} {S:Oper->Env->Heap->(Value->Heap->Prop)->Prop} {K:Env->Heap->Prop}: ∀(l1 l2:List Oper) (ρ:Env) (H:Heap),OpsL all S l1 ρ H (fun ρ' H'=>OpsL all S l2 ρ' H' K)->OpsL all S (l1++l2) ρ H K
 | [],_,_,_,h=>h
 | o::l1,l2,ρ,H,h=>by
  simp only [List.cons_append,OpsL] at h ⊢;have e:(fun ρ' H'=>OpsL all S (l1++l2) ρ' H' K)=fun ρ' H'=>OpsL all S l1 ρ' H' fun ρ'' H''=>OpsL all S l2 ρ'' H'' K:=by
   funext ρ' H';have: ∀(l1:List Oper) (ρ:Env) (H:Heap),OpsL all S (l1++l2) ρ H K=OpsL all S l1 ρ H fun ρ' H'=>OpsL all S l2 ρ' H' K:=by
    intro l1;induction l1 with
    | nil=>intro ρ H;rfl
    | cons o l1 ih=>
     intro ρ H;simp only [List.cons_append,OpsL];congr 1;funext ρ' H';exact ih ρ' H'
   exact this l1 ρ' H'
  rw [e];exact h
theorem Zbmy {P:Program} {tab:List (Nat×Ct)} {own nomark:List Tmp} (ht:Zjq P tab) {E:En} {ops:Array Oper} {c:Tmp} {C:List Tmp} {st:St} {ρ:Env} {H:Heap} {g:Gh} (s:Sim E st ρ H g):
  (∀(i:Nat) (o:AObj),st.σ[i]? =some o->isRo o=true->(Zq (pts st.α nomark) 0 st.σ)[i]? =some o)∧(Zq (pts st.α nomark) 0 st.σ).length=st.σ.length∧Sim E ⟨st.α,Zq (pts st.α nomark) 0 st.σ⟩ ρ H g∧
  ∃bs:List Nat,(∀b∈bs,∃o,H b=some o)∧
   (∀(l:List Oper) (K1:St->Prop) (α:Nat->AV) (ρ:Env),Sim E ⟨α,Zq (pts st.α nomark) 0 st.σ⟩ ρ H g->POps ops (POpK P (c::C)) l ⟨α,Zq (pts st.α nomark) 0 st.σ⟩ K1->
     OpsL ops (Zcf P (c::C) bs H) l ρ H fun ρ' H'=>H'=H∧∃α',Sim E ⟨α',Zq (pts st.α nomark) 0 st.σ⟩ ρ' H g∧K1 ⟨α',Zq (pts st.α nomark) 0 st.σ⟩)∧
   (∀{o:Oper} {st2:St} {ρ2:Env} {H2:Heap} {g2:Gh} {K2:AV->St->Prop},Sim E st2 ρ2 H2 g2->Rel ⟨st.α,Zq (pts st.α nomark) 0 st.σ⟩ H g st2 H2 g2->POpR P tab own (c::C) (Zq (pts st.α nomark) 0 st.σ) o st2 K2->
     Zcf P (c::C) bs H o ρ2 H2 fun v H3=>∃a st3 g3,Sim E st3 ρ2 H3 g3∧Rel ⟨st.α,Zq (pts st.α nomark) 0 st.σ⟩ H g st3 H3 g3∧SimV g3 H3 st3.σ.length a v∧K2 a st3):=by
 have hmarkl:(Zq (pts st.α nomark) 0 st.σ).length=st.σ.length:=Zbdo _ _ _;have hmark: ∀(i:Nat) (o:AObj),st.σ[i]? =some o->isRo o=true->(Zq (pts st.α nomark) 0 st.σ)[i]? =some o:=by intro i o hi hr;rw [Zbdn,hi];simp only [Option.map_some];split;rfl;cases o<;>simp only [isRo] at hr<;>simp [Zbdp,hr]
 have sm:Sim E ⟨st.α,Zq (pts st.α nomark) 0 st.σ⟩ ρ H g:=s.like (Zbdo _ _ _) fun i o hi=>by
  rw [Zbdn] at hi;cases h1:st.σ[i]? with
  | none=>rw [h1] at hi;cases hi
  | some o1=>
   rw [h1] at hi;simp only [Option.map_some,Option.some.injEq] at hi;subst hi;refine ⟨o1,rfl,?_⟩;split;exact Zvw o1;exact ⟨(match o1 with | .obj _ _ _=>true | o=>Zri o),by cases o1<;>rfl⟩
 obtain ⟨n0,hn0⟩:=H.fin
 let good:Nat->Prop:=fun b=>H b≠none∧(g.Z b∨∃i T cs,(Zq (pts st.α nomark) 0 st.σ)[i]? =some (.obj T true cs)∧g.B i=b)
 have hdec: ∃bs:List Nat,∀b,b∈bs↔(b<n0∧good b):=by
  have: ∀n,∃bs:List Nat,∀b,b∈bs↔(b<n∧good b):=by
   intro n;induction n with
   | zero=>exact ⟨[],fun b=>by simp⟩
   | succ n ih=>
    obtain ⟨bs,hbs⟩:=ih;rcases Classical.em (good n) with hg | hg
    ·refine ⟨n::bs,fun b=>?_⟩;simp only [List.mem_cons,hbs];constructor
     ·rintro (rfl | ⟨h1,h2⟩);exact ⟨by omega,hg⟩
      exact ⟨by omega,h2⟩
     rintro ⟨h1,h2⟩;by_cases e:b=n;exact .inl e;exact .inr ⟨by omega,h2⟩
    ·refine ⟨bs,fun b=>?_⟩;rw [hbs];constructor;rintro ⟨h1,h2⟩;exact ⟨by omega,h2⟩
     ·rintro ⟨h1,h2⟩;have:b≠n:=fun e=>by subst e;exact hg h2
      exact ⟨by omega,h2⟩
  exact this n0
 obtain ⟨bs,hbs⟩:=hdec;have inbs: ∀b,good b->b∈bs:=fun b hb=>(hbs b).2 ⟨by
  rcases Nat.lt_or_ge b n0 with h | h;exact h
  ·exact absurd (hn0 b h) hb.1,hb⟩
 have hlive: ∀b∈bs,∃o,H b=some o:=fun b hb=>by
  have:=((hbs b).1 hb).2.1;cases hH:H b with
  | none=>exact absurd hH this
  | some o=>exact ⟨o,rfl⟩
 have kept: ∀{st' H' g'},Rel ⟨st.α,Zq (pts st.α nomark) 0 st.σ⟩ H g st' H' g'->Zdw bs H H':=fun {st' H' g'} r b hb=>by refine ⟨hlive b hb,?_⟩;obtain ⟨_,hb2⟩:=(hbs b).1 hb;rcases hb2.2 with hz | ⟨i,T,cs,hi,rfl⟩;exact (r.ext.z b hz).2;exact (r.ro i _ hi rfl).2 trivial
 have nK:=(Zeq P (c::C) bs H).toNice;have first: ∀(l:List Oper) (K1:St->Prop) (α:Nat->AV) (ρ:Env),Sim E ⟨α,Zq (pts st.α nomark) 0 st.σ⟩ ρ H g->POps ops (POpK P (c::C)) l ⟨α,Zq (pts st.α nomark) 0 st.σ⟩ K1->
   OpsL ops (Zcf P (c::C) bs H) l ρ H fun ρ' H'=>H'=H∧∃α',Sim E ⟨α',Zq (pts st.α nomark) 0 st.σ⟩ ρ' H g∧K1 ⟨α',Zq (pts st.α nomark) 0 st.σ⟩:=by
  intro l;induction l with
  | nil=>exact fun K1 α ρ s1 h1=>⟨rfl,α,s1,h1⟩
  | cons o os ih=>
   intro K1 α ρ s1 h1;have one: ∀{α:Nat->AV} {ρ:Env} {K2:AV->St->Prop},Sim E ⟨α,Zq (pts st.α nomark) 0 st.σ⟩ ρ H g->POpK P (c::C) o ⟨α,Zq (pts st.α nomark) 0 st.σ⟩ K2->Zcf P (c::C) bs H o ρ H fun v H'=>H'=H∧∃a,SimV g H (Zq (pts st.α nomark) 0 st.σ).length a v∧K2 a ⟨α,Zq (pts st.α nomark) 0 st.σ⟩:=by
    intro α ρ K2 s2 h2;unfold POpK at h2;unfold Zcf;split at h2
    ·rename_i hC;rw [hC];simp only;split at h2
     ·rename_i t a ho;have ha:=Zjv s2 a;simp only [ho];split at h2
      ·rename_i id off hev;split at h2
       case h_2=>exact h2.elim
       rename_i Tm csm hmk;rw [hev] at ha;have ha2:=ha;simp only [SimV] at ha;rw [ha.2];simp only;refine ⟨?_,?_⟩
       ·refine inbs _ ?_;have h3:=h2;unfold ldP at h3;simp only at h3;split at h3
        ·rename_i T r cs hio;obtain ⟨vs,hb,_⟩:=s2.obj id _ hio;have hr:r=true:=by rw [hmk] at hio;simp only [Option.some.injEq,AObj.obj.injEq] at hio;exact hio.2.1.symm
         subst hr;exact ⟨by rw [hb];simp,.inr ⟨id,T,cs,hio,rfl⟩⟩
        exact h3.elim
       refine Zrq s2 h2 (by rw [ha.2] at ha2;exact ha2) fun a v hv hk=>⟨by first | rfl | trivial,a,hv,hk⟩
      rename_i cs hev;rw [hev] at ha;have ha2:=ha;simp only [SimV] at ha;obtain ⟨b,oo,vs,hv,hz,_⟩:=ha;rw [hv];simp only;refine ⟨inbs _ ⟨s2.zlive b hz,.inl hz⟩,?_⟩;exact Zrq s2 h2 (by rw [hv] at ha2;exact ha2) fun a v hv hk=>⟨by first | rfl | trivial,a,hv,hk⟩
      exact h2.elim
     exact h2.elim
    ·rename_i hC;rw [hC];simp only;have:=Zbhq s2 h2 (K:=fun v H'=>H'=H∧∃a,SimV g H (Zq (pts st.α nomark) 0 st.σ).length a v∧K2 a ⟨α,Zq (pts st.α nomark) 0 st.σ⟩) fun a v hv hk=>⟨rfl,a,hv,hk⟩;split;exact OpW.mono (fun v H' hv=>⟨by rw [hv.1];exact fun b hb=>⟨hlive b hb,rfl⟩,hv⟩) this
     exact this
   have fin: ∀{ρ':Env} {α':Nat->AV},Sim E ⟨α',Zq (pts st.α nomark) 0 st.σ⟩ ρ' H g->POps ops (POpK P (c::C)) os ⟨α',Zq (pts st.α nomark) 0 st.σ⟩ K1->OpsL ops (Zcf P (c::C) bs H) os ρ' H fun ρ' H'=>H'=H∧∃α',Sim E ⟨α',Zq (pts st.α nomark) 0 st.σ⟩ ρ' H g∧K1 ⟨α',Zq (pts st.α nomark) 0 st.σ⟩:=
    fun {ρ' α'} s' h'=>ih K1 α' ρ' s' h'
   simp only [POps,OpsL] at h1 ⊢;unfold PG at h1;unfold OpG;have run: ∀{α:Nat->AV} {ρ:Env},Sim E ⟨α,Zq (pts st.α nomark) 0 st.σ⟩ ρ H g->POpK P (c::C) o ⟨α,Zq (pts st.α nomark) 0 st.σ⟩ (fun a st'=>POps ops (POpK P (c::C)) os (st'.put o.dst a) K1)->
     Zcf P (c::C) bs H o ρ H fun v H'=>OpsL ops (Zcf P (c::C) bs H) os (put ρ o.dst v) H' fun ρ' H'=>H'=H∧∃α',Sim E ⟨α',Zq (pts st.α nomark) 0 st.σ⟩ ρ' H g∧K1 ⟨α',Zq (pts st.α nomark) 0 st.σ⟩:=by
    intro α ρ s2 h2;refine nK.mono _ _ _ _ _ (fun v H' hv=>?_) (one s2 h2);obtain ⟨rfl,a,hva,hk⟩:=hv;exact fin (α':=putA α o.dst a) (s2.put o.dst hva) hk
   split at h1;rename_i hg;rw [hg];exact run s1 h1
   ·rename_i j want hg;rw [hg];simp only;split at h1
    ·rename_i d hd;rw [hd];simp only;split at h1
     ·rename_i b hb;have hρ:=s1.tmp d;have hρ2:SimV g H (Zq (pts st.α nomark) 0 st.σ).length (α d) (ρ d):=hρ;have hb2:α d= .bool b:=hb;rw [hb2] at hρ2;simp only [SimV] at hρ2;rw [hρ2];simp only;refine IfB.mono h1 (fun h2=>?_) (fun h2=>?_)
      ·have s3:=s1.put (some d) (a:= .bool true) (v:= .bool true) (by simp only [SimV])
       cases want with
       | true=>exact run s3 h2
       | false=>exact fin (s3.put o.dst (a:= .raw undef) (v:=undef) (by simp only [SimV])) h2
      ·have s3:=s1.put (some d) (a:= .bool false) (v:= .bool false) (by simp only [SimV])
       cases want with
       | false=>exact run s3 h2
       | true=>exact fin (s3.put o.dst (a:= .raw undef) (v:=undef) (by simp only [SimV])) h2
     ·rename_i u hu;have hρ:=s1.tmp d;have hρ2:SimV g H (Zq (pts st.α nomark) 0 st.σ).length (α d) (ρ d):=hρ;have hu2:α d= .raw u:=hu;rw [hu2] at hρ2;simp only [SimV] at hρ2;rw [hρ2];split at h1
      ·rename_i hun;have fin2:=fin (s1.put o.dst (a:= .raw undef) (v:=undef) (by simp only [SimV])) h1
       cases u<;>simp only [Zbdc] at hun<;>first | (cases hun;done) | exact fin2
      exact h1.elim
     exact h1.elim
    exact h1.elim
 refine ⟨hmark,hmarkl,sm,bs,hlive,first,?_⟩
 intro o st2 ρ2 H2 g2 K2 s2 r2 h2;unfold POpR at h2;unfold Zcf;split at h2
 ·rename_i hC;rw [hC];simp only;split at h2
  case h_2=>exact h2.elim
  rename_i t a ho;have ha:=Zjv s2 a;simp only [ho];split at h2
  case h_2=>exact h2.elim
  rename_i id off hev;split at h2
  case h_2=>exact h2.elim
  rename_i Tm csm hmk;rw [hev] at ha;have ha2:=ha;simp only [SimV] at ha;rw [ha.2];simp only;obtain ⟨h5,h6⟩:=r2.ro id _ hmk rfl;have hB:g2.B id=g.B id:=r2.ext.b id (Zbr hmk);have hsame:H2 (g.B id)=H (g.B id):=h6 trivial;refine ⟨?_,?_⟩;obtain ⟨vs,hb,_⟩:=sm.obj id _ hmk;rw [hB];exact inbs _ ⟨by rw [hb];simp,.inr ⟨id,Tm,csm,hmk,rfl⟩⟩
  ·have L:=Zrq (K:=fun v H'=>H'=H2∧∃a,SimV g2 H2 st2.σ.length a v∧K2 a st2) s2 h2 (by rw [ha.2] at ha2;exact ha2) fun a v hv hk=>⟨rfl,a,hv,hk⟩
   obtain ⟨v,⟨_,a',hv,hk⟩,hr⟩:=Zz.read L;refine hr H _ (fun q hq p hp v hv=>?_) ⟨a',st2,g2,s2,r2,hv,hk⟩;have hq2:p.block=g.B id:=by rw [hp];cases hq;exact hB
   unfold Heap.cell at hv ⊢;rw [hq2] at hv ⊢;rw [hsame] at hv;exact hv
 ·rename_i hC;rw [hC];simp only;have:=OpW.mono (K':=fun v H3=>∃a st3 g3,Sim E st3 ρ2 H3 g3∧Rel ⟨st.α,Zq (pts st.α nomark) 0 st.σ⟩ H g st3 H3 g3∧SimV g3 H3 st3.σ.length a v∧K2 a st3) (fun v H3 hv=>by
   obtain ⟨a,st3,g3,q1,q2,q3,_,q5⟩:=hv;exact ⟨a,st3,g3,q1,r2.trans q2,q3,q5⟩) (Zts ht s2 h2)
  split;refine OpW.mono (fun v H3 hv=>⟨?_,hv⟩) this;obtain ⟨a,st3,g3,q1,q2,_⟩:=hv;exact kept q2;exact this
theorem OpsT.append {all:Array Oper} {S:Oper->Env->Heap->(Value->Heap->Prop)->Prop} (N:Nice S) {a:Nat} {post Y:List Nat} {K:Env->Heap->Prop}: ∀(l1 l2:List Nat) (_: ∀h∈l1,memB h Y=false) (ρ:Env) (H:Heap),OpsL all S (Zd all l1) ρ H (fun ρ' H'=>OpsT all S a post Y K l2 ρ' H')->OpsT all S a post Y K (l1++l2) ρ H
 | [],_,_,_,_,h=>h
 | x::l1,l2,hy,ρ,H,h=>by
  simp only [List.cons_append];unfold OpsT;rw [hy x List.mem_cons_self];simp only;have e:Zd all (x::l1)=Zd all [x]++Zd all l1:=by rw [← Zrx];rfl
  rw [e] at h;have: ∀(la:List Oper) (ρ:Env) (H:Heap),OpsL all S (la++Zd all l1) ρ H (fun ρ' H'=>OpsT all S a post Y K l2 ρ' H')->OpsL all S la ρ H fun ρ' H'=>OpsT all S a post Y K (l1++l2) ρ' H':=by
   intro la;induction la with
   | nil=>exact fun ρ H h=>OpsT.append N l1 l2 (fun h hh=>hy h (List.mem_cons_of_mem _ hh)) ρ H h
   | cons o la ih=>exact fun ρ H h=>OpG.mono N (fun ρ' H' h=>ih ρ' H' h) h
  exact this _ ρ H h
theorem Zzt {E:En} {all:Array Oper} {S:Oper->St->(AV->St->Prop)->Prop} {S':Oper->Env->Heap->(Value->Heap->Prop)->Prop} (N:Nice S') {st0:St} {H0:Heap} {g0:Gh} {K:St->Prop} {a:Nat} {post Y:List Nat}
  (hS: ∀{o:Oper} {st:St} {ρ:Env} {H:Heap} {g:Gh} {K:AV->St->Prop},Sim E st ρ H g->Rel st0 H0 g0 st H g->S o st K->S' o ρ H fun v H'=>∃a st' g',Sim E st' ρ H' g'∧Rel st0 H0 g0 st' H' g'∧SimV g' H' st'.σ.length a v∧K a st'):
  ∀(pre:List Nat) {st:St} {ρ:Env} {H:Heap} {g:Gh},Sim E st ρ H g->Rel st0 H0 g0 st H g->PTs all S a post Y K pre st->OpsT all S' a post Y (fun ρ' H'=>∃st' g',Sim E st' ρ' H' g'∧Rel st0 H0 g0 st' H' g'∧K st') pre ρ H
 | [],st,ρ,H,g,s,r,h=>Ziy N hS _ st ρ H g s r h
 | x::t,st,ρ,H,g,s,r,h=>by
  unfold PTs at h;unfold OpsT;have go:POps all S (Zd all [x]) st (fun st'=>PTs all S a post Y K t st')->OpsL all S' (Zd all [x]) ρ H fun ρ' H'=>OpsT all S' a post Y (fun ρ' H'=>∃st' g',Sim E st' ρ' H' g'∧Rel st0 H0 g0 st' H' g'∧K st') t ρ' H':=fun h=>
   OpsL.mono N (fun ρ' H' hk=>by
    obtain ⟨st',g',s',r',hk⟩:=hk;exact Zzt N hS t s' r' hk) _ _ _ (Ziy N hS _ st ρ H g s r h)
  split at h;rename_i hm;(try rw [hm]);exact ⟨Ziy N hS _ st ρ H g s r h.1,go h.2⟩;rename_i hm;(try rw [hm]);exact go h
theorem Zbwq {P:Program} {tab:List (Nat×Ct)} {own nomark:List Tmp} (ht:Zjq P tab) {regs:List (Nat×List Nat×List Tmp)} {loops:List (Nat×List Tmp×List Kind×List Tmp)} {unr:List (Nat×Nat)} {trees:List (Nat×Tree)} {E:En} {id:Nat} {ops:Array Oper} {draw:Bool} {st:St} {ρ:Env} {H:Heap} {g:Gh} (s:Sim E st ρ H g) {K:St->Prop}
  (h:PReg P tab own nomark regs trees id ops draw st K):Zb P ⟨regs,loops,unr,trees⟩ (.region id ops draw) ρ H fun e ρ' H'=>e= .normal∧Lp E st H g K ρ' H':=by
 have main: ∀(l:List Oper) (K':Env->Heap->Prop),POps ops (POp P tab own) l st K->(∀ρ' H',Lp E st H g K ρ' H'->K' ρ' H')->OpsL ops (OpW P) l ρ H K':=by intro l K' h hk;refine OpsL.mono (Zbb P) hk _ _ _ ?_;refine Ziy (Zbb P) (fun {o st1 ρ1 H1 g1 K1} s1 r1 h1=>?_) l st ρ H g s (.refl _ _ _) h;refine OpW.mono (fun v H' hv=>?_) (Zts ht s1 h1);obtain ⟨a,st',g',q1,q2,q3,q4,q5⟩:=hv;exact ⟨a,st',g',q1,r1.trans q2,q3,q5⟩
 unfold PReg at h;simp only [Zb];split at h;exact main _ _ h fun _ _ h=>⟨trivial,h⟩
 ·unfold Zpv;simp only;split at h
  ·rename_i t htr;rw [htr];simp only;have stepP: ∀{o:Oper} {st1:St} {ρ1:Env} {H1:Heap} {g1:Gh} {K1:AV->St->Prop},Sim E st1 ρ1 H1 g1->Rel st H g st1 H1 g1->POp P tab own o st1 K1->OpW P o ρ1 H1 fun v H'=>∃a st' g',Sim E st' ρ1 H' g'∧Rel st H g st' H' g'∧SimV g' H' st'.σ.length a v∧K1 a st':=fun {o st1 ρ1 H1 g1 K1} s1 r1 h1=>by refine OpW.mono (fun v H' hv=>?_) (Zts ht s1 h1);obtain ⟨a,st',g',q1,q2,q3,q4,q5⟩:=hv;exact ⟨a,st',g',q1,r1.trans q2,q3,q5⟩
   have hY: ∀{b:Bool},(t.pre0.all fun h=>!(memB h t.Y))=b->b=true->∀h∈t.pre0,memB h t.Y=false:=fun e e2 h hh=>by rw [e2] at e;have:=List.all_eq_true.1 e h hh;simpa using this
   split at h;rename_i hC hY0;rw [hC];simp only;refine OpsT.mono (K:=fun ρ2 H2=>∃st2 g2,Sim E st2 ρ2 H2 g2∧Rel st H g st2 H2 g2∧POps ops (POp P tab own) (Zd ops t.zs) st2 K) (Zbb P) (fun ρ2 H2 hk=>?_) _ _ _ (OpsT.append (Zbb P) t.pre0 t.pre1 (hY hY0 rfl) ρ H (OpsL.mono (Zbb P) (fun ρ1 H1 hk=>?_) _ _ _ (Ziy (Zbb P) stepP _ st ρ H g s (.refl _ _ _) h)));obtain ⟨st2,g2,s2,r2,h2⟩:=hk;exact OpsL.mono (Zbb P) (fun ρ3 H3 hk=>⟨trivial,hk⟩) _ _ _ (Ziy (Zbb P) stepP _ st2 ρ2 H2 g2 s2 r2 h2);obtain ⟨st1,g1,s1,r1,h1⟩:=hk;exact Zzt (Zbb P) stepP _ s1 r1 h1
   ·rename_i c C hC hY0;rw [hC];simp only;obtain ⟨hmark,hmarkl,sm,bs,hlive,first,stepR⟩:=Zbmy (own:=own) (nomark:=nomark) (ops:=ops) (c:=c) (C:=C) ht s
    have nK:=(Zeq P (c::C) bs H).toNice;refine ⟨bs,hlive,?_⟩;refine OpsT.mono (K:=fun ρ2 H2=>∃st2 g2,Sim E st2 ρ2 H2 g2∧Rel ⟨st.α,Zq (pts st.α nomark) 0 st.σ⟩ H g st2 H2 g2∧POps ops (POp P tab own) (Zd ops t.zs) ⟨st2.α,unmark st.σ st2.σ⟩ K) nK (fun ρ2 H2 hk=>?_) _ _ _ (OpsT.append nK t.pre0 t.pre1 (hY hY0 rfl) ρ H (OpsL.mono nK (fun ρ1 H1 hk=>?_) _ _ _ (first _ _ _ _ sm h)))
    obtain ⟨st2,g2,s2,r2,h2⟩:=hk;exact OpsL.mono (Zbb P) (fun ρ3 H3 hk=>⟨trivial,hk⟩) _ _ _ (Ziy (Zbb P) stepP _ _ ρ2 H2 g2 (s2.unmark st.σ) (r2.unmark hmark hmarkl) h2);obtain ⟨rfl,α',s1,h1⟩:=hk;exact Zzt nK (fun {o st2 ρ2 H2 g2 K2} s2 r2 h2=>stepR s2 r2 h2) _ s1 ⟨Nat.le_refl _,.refl _ _ _,fun id o ho hr=>⟨ho,fun _=>rfl⟩⟩ h1
   exact h.elim
  rename_i htr;rw [htr];simp only;split at h;rename_i hp';rw [hp'];exact main _ _ h fun _ _ h=>⟨trivial,h⟩;rename_i l hp';rw [hp'];exact main _ _ h fun _ _ h=>⟨trivial,h⟩
  ·rename_i l c C hp';rw [hp'];split at h;exact h.elim;rename_i hmk2;simp only [hmk2];obtain ⟨hmark,hmarkl,sm,bs,hlive,first,stepR⟩:=Zbmy (own:=own) (nomark:=nomark) (ops:=ops) (c:=c) (C:=C) ht s
   have nK:=(Zeq P (c::C) bs H).toNice;refine ⟨bs,hlive,?_⟩;have split:Zd ops (l.take (Zdo ops l))=(Zd ops (l.take (Zdo ops l))).take (Zvp (c::C) (Zd ops (l.take (Zdo ops l))))++(Zd ops (l.take (Zdo ops l))).drop (Zvp (c::C) (Zd ops (l.take (Zdo ops l)))):=(List.take_append_drop _ _).symm;rw [split];refine OpsL.append _ _ _ _ ?_;refine OpsL.mono nK (fun ρ' H' hk=>?_) _ _ _ (first _ _ _ _ sm h)
   obtain ⟨rfl,α',s1,h1⟩:=hk;have rest:=Ziy (all:=ops) nK (st0:=⟨st.α,Zq (pts st.α nomark) 0 st.σ⟩) (H0:=H') (g0:=g) (S:=POpR P tab own (c::C) (Zq (pts st.α nomark) 0 st.σ)) (S':=Zcf P (c::C) bs H') (K:=fun st2=>POps ops (POp P tab own) (Zd ops (l.drop (Zdo ops l))) ⟨st2.α,unmark st.σ st2.σ⟩ K)
    (fun {o st2 ρ2 H2 g2 K2} s2 r2 h2=>stepR s2 r2 h2)
    _ ⟨α',Zq (pts st.α nomark) 0 st.σ⟩ ρ' H' g s1 ⟨Nat.le_refl _,.refl _ _ _,fun id o ho hr=>⟨ho,fun _=>rfl⟩⟩ h1
   refine OpsL.mono nK (fun ρ2 H2 hk=>?_) _ _ _ rest;obtain ⟨st2,g2,s2,r2,h2⟩:=hk;refine OpsL.mono (Zbb P) (fun ρ3 H3 hk=>⟨trivial,hk⟩) _ _ _ ?_;refine Ziy (Zbb P) (fun {o st1 ρ1 H1 g1 K1} s1 r1 h1=>?_) _ _ ρ2 H2 g2 (s2.unmark st.σ) (r2.unmark hmark hmarkl) h2;refine OpW.mono (fun v H' hv=>?_) (Zts ht s1 h1);obtain ⟨a,st',g',q1,q2,q3,q4,q5⟩:=hv;exact ⟨a,st',g',q1,r1.trans q2,q3,q5⟩
end Go.Sh
end
section
namespace Go.Sh
variable [Laid]
inductive PK where
 | int (k:IntKind) | bool | str | lst (ks:List Kd) | row (T:TypeId) (ks:List Kd) | arr (T:TypeId) (ks:List Kd)
def PKT:PK->Type
 | .int _=>Int
 | .bool=>Bool
 | .str=>List UInt8
 | .lst ks=>List (Tp ks)
 | .row _ ks=>List (Tp ks)
 | .arr _ ks=>List (Tp ks)
def PTup:List PK->Type
 | []=>Unit
 | k::ks=>PKT k×PTup ks
def WfK:(k:PK)->PKT k->Prop
 | .int k,n=>InR k n
 | .bool,_=>True
 | .str,s=>s.length <= Zo
 | .lst ks,xs=>WfE (.lst ks) xs
 | .row _ ks,xs=>WfE (.lst ks) xs
 | .arr _ ks,xs=>WfE (.lst ks) xs
def WfY:(ks:List PK)->PTup ks->Prop
 | [],_=>True
 | k::ks,y=>WfK k y.1∧WfY ks y.2
def frzY:List AObj->List PK->List AV->Option (List AObj)
 | σ,.lst _::ks,a::as=>match frzO σ a with
  | some σ'=>frzY σ' ks as
  | none=>none
 | σ,_::ks,_::as=>frzY σ ks as
 | σ,[],[]=>some σ
 | _,_,_=>none
def Zme (σ:List AObj):(k:PK)->AV->Option (PKT k×Option (Option Nat))
 | .int k,.int k' n=>match decide (k'=k) with
  | true=>some (n,none)
  | false=>none
 | .bool,.bool b=>some (b,none)
 | .str,.str s=>some (s,none)
 | .lst ks,a=>match rdL σ ks a with
  | some xs=>some (xs,none)
  | none=>none
 | .row _ _,.nils=>some ([],some none)
 | .row T ks,.row id=>match σ[id]? with
  | some (.row T' false ks' xs)=>match Nat.beq T' T,Kd.decs ks' ks with
   | true,isTrue h=>some (Zdl h xs,some (some id))
   | _,_=>none
  | _=>none
 | .arr T ks,.arr id=>match σ[id]? with
  | some (.row T' false ks' xs)=>match Nat.beq T' T,Kd.decs ks' ks with
   | true,isTrue h=>some (Zdl h xs,some (some id))
   | _,_=>none
  | _=>none
 | _,_=>none
def Zio (σ:List AObj):(ks:List PK)->List AV->Option (PTup ks×List (Option Nat))
 | [],[]=>some ((),[])
 | k::ks,a::as=>match Zme σ k a,Zio σ ks as with
  | some (x,s),some (y,r)=>some ((x,y),match s with | some i=>i::r | none=>r)
  | _,_=>none
 | _,_=>none
def avK (N:Nat):(k:PK)->PKT k->AV
 | .int k,n=> .int k n
 | .bool,b=> .bool b
 | .str,s=> .str s
 | .lst ks,xs=> .lst ks xs
 | .row _ _,_=> .row N
 | .arr _ _,_=> .arr N
def Zbdb:PK->Bool
 | .row _ _=>true
 | .arr _ _=>true
 | _=>false
def avsY (N:Nat):(ks:List PK)->PTup ks->List AV
 | [],_=>[]
 | k::ks,y=>avK N k y.1::avsY (match Zbdb k with | true=>N+1 | false=>N) ks y.2
def Zcj:(ks:List PK)->PTup ks->List AObj
 | [],_=>[]
 | .row T ks::ps,y=> .row T false ks y.1::Zcj ps y.2
 | .arr T ks::ps,y=> .row T false ks y.1::Zcj ps y.2
 | .int _::ps,y=>Zcj ps y.2
 | .bool::ps,y=>Zcj ps y.2
 | .str::ps,y=>Zcj ps y.2
 | .lst _::ps,y=>Zcj ps y.2
structure Srcs (g g'':Gh) (N:Nat) (src:List (Option Nat)):Prop where
 hit: ∀(j id:Nat),src[j]? =some (some id)->g''.V (N+j)=g.V id∧g''.B (N+j)=g.B id
 nil: ∀(j:Nat),src[j]? =some none->g''.V (N+j)= .slice none 0 0
theorem Srcs.tail {g g'':Gh} {N:Nat} {i:Option Nat} {src:List (Option Nat)} (h:Srcs g g'' N (i::src)):Srcs g g'' (N+1) src:=
 ⟨fun j id hj=>by have:=h.hit (j+1) id (by simpa using hj);rwa [Nat.add_assoc,Nat.add_comm 1 j],fun j hj=>by have:=h.nil (j+1) (by simpa using hj);rwa [Nat.add_assoc,Nat.add_comm 1 j]⟩
theorem Zbeu {E:En} {st:St} {ρ:Env} {H:Heap} {g:Gh} (s:Sim E st ρ H g): ∀{ks:List PK} {as:List AV} {vs:List Value} {y:PTup ks} {src:List (Option Nat)},Zio st.σ ks as=some (y,src)->SimL g H st.σ.length as vs->
  (∀(k:PK) (ks':List Kd) (i id:Nat),ks[i]? =some k->k= .lst ks'->as[i]? =some (.row id)->∃ks xs,st.σ[id]? =some (.frz ks xs))->
  WfY ks y∧(Zcj ks y).length=src.length∧(∀(j:Nat) (o:AObj) (i:Option Nat),(Zcj ks y)[j]? =some o->src[j]? =some i->(∃id,i=some id∧st.σ[id]? =some o∧isRo o=false∧(∃T ks xs,o= .row T false ks xs))∨(i=none∧∃T ks,o= .row T false ks []))∧
  ∀(g'':Gh) (N N'':Nat),Srcs g g'' N src->N+src.length <= N''->g''.Z=g.Z->SimL g'' H N'' (avsY N ks y) vs:=by
 intro ks;induction ks with
 | nil=>
  intro as vs y src h hs _;cases as with
  | cons=>simp only [Zio] at h;cases h
  | nil=>
   simp only [Zio,Option.some.injEq,Prod.mk.injEq] at h;obtain ⟨_,rfl⟩:=h;refine ⟨trivial,rfl,fun j o i hj=>by simp [Zcj] at hj,fun g'' N N'' _ _ _=>?_⟩
   cases vs with
   | nil=>simp only [avsY,SimL]
   | cons=>simp only [SimL] at hs
 | cons k ks ih=>
  intro as vs y src h hs hf;cases as with
  | nil=>simp only [Zio] at h;cases h
  | cons a as=>
   cases vs with
   | nil=>simp only [SimL] at hs
   | cons v vs=>
    simp only [SimL] at hs;simp only [Zio] at h;split at h
    ·rename_i x sx y' r hx hy;simp only [Option.some.injEq,Prod.mk.injEq] at h;obtain ⟨rfl,rfl⟩:=h;obtain ⟨w,hlen,hrow,hsim⟩:=ih hy hs.2 (fun k' ks' i id h1 h2 h3=>hf k' ks' (i+1) id (by simpa using h1) h2 (by simpa using h3))
     have scal:sx=none->Zbdb k=false->WfK k x->(∀(g'':Gh) (N N'':Nat),g''.Z=g.Z->SimV g'' H N'' (avK N k x) v)->Zcj (k::ks) (x,y')=Zcj ks y'->
       WfY (k::ks) (x,y')∧(Zcj (k::ks) (x,y')).length=(match sx with | some i=>i::r | none=>r).length∧(∀(j:Nat) (o:AObj) (i:Option Nat),(Zcj (k::ks) (x,y'))[j]? =some o->(match sx with | some i=>i::r | none=>r)[j]? =some i->(∃id,i=some id∧st.σ[id]? =some o∧isRo o=false∧(∃T ks xs,o= .row T false ks xs))∨(i=none∧∃T ks,o= .row T false ks []))∧
       ∀(g'':Gh) (N N'':Nat),Srcs g g'' N (match sx with | some i=>i::r | none=>r)->N+(match sx with | some i=>i::r | none=>r).length <= N''->g''.Z=g.Z->SimL g'' H N'' (avsY N (k::ks) (x,y')) (v::vs):=by
      rintro rfl hk hw hv hr;rw [hr];refine ⟨⟨hw,w⟩,hlen,hrow,fun g'' N N'' h1 h2 h3=>?_⟩;simp only [avsY,hk,SimL];exact ⟨hv g'' N N'' h3,hsim g'' N N'' h1 h2 h3⟩
     have rowC: ∀i o0,sx=some i->Zbdb k=true->Zcj (k::ks) (x,y')=o0::Zcj ks y'->WfK k x->(∀(g'':Gh) (N N'':Nat),Srcs g g'' N (i::r)->N+(i::r).length <= N''->g''.Z=g.Z->SimV g'' H N'' (avK N k x) v)->
       (∀o,(Zcj (k::ks) (x,y'))[0]? =some o->(∃id,i=some id∧st.σ[id]? =some o∧isRo o=false∧(∃T ks xs,o= .row T false ks xs))∨(i=none∧∃T ks,o= .row T false ks []))->
       WfY (k::ks) (x,y')∧(Zcj (k::ks) (x,y')).length=(match sx with | some i=>i::r | none=>r).length∧(∀(j:Nat) (o:AObj) (i:Option Nat),(Zcj (k::ks) (x,y'))[j]? =some o->(match sx with | some i=>i::r | none=>r)[j]? =some i->(∃id,i=some id∧st.σ[id]? =some o∧isRo o=false∧(∃T ks xs,o= .row T false ks xs))∨(i=none∧∃T ks,o= .row T false ks []))∧
       ∀(g'':Gh) (N N'':Nat),Srcs g g'' N (match sx with | some i=>i::r | none=>r)->N+(match sx with | some i=>i::r | none=>r).length <= N''->g''.Z=g.Z->SimL g'' H N'' (avsY N (k::ks) (x,y')) (v::vs):=by
      rintro i o0 rfl hik hrs hw hv h0;refine ⟨⟨hw,w⟩,by simp [hrs,hlen],fun j o i' hj hi'=>?_,fun g'' N N'' h1 h2 h3=>?_⟩
      ·cases j with
       | zero=>simp at hi';subst hi';exact h0 o hj
       | succ j=>exact hrow j o i' (by simpa [hrs] using hj) (by simpa using hi')
      simp only [avsY,hik,SimL];simp only [List.length_cons] at h2;exact ⟨hv g'' N N'' h1 (by simpa using h2) h3,hsim g'' (N+1) N'' h1.tail (by omega) h3⟩
     cases k with
     | int k0=>
      cases a<;>simp only [Zme] at hx<;>first | (cases hx;done) | skip
      split at hx;rename_i hk;have:=of_decide_eq_true hk;subst this;cases hx;simp only [SimV] at hs;exact scal rfl rfl hs.1.2 (fun g'' N N'' _=>by simp only [avK,SimV];exact hs.1) rfl
      ·cases hx
     | bool=>
      cases a<;>simp only [Zme] at hx<;>first | (cases hx;done) | skip
      cases hx;simp only [SimV] at hs;exact scal rfl rfl trivial (fun g'' N N'' _=>by simp only [avK,SimV];exact hs.1) rfl
     | str=>
      cases a<;>simp only [Zme] at hx<;>first | (cases hx;done) | skip
      cases hx;simp only [SimV] at hs;exact scal rfl rfl hs.1.2 (fun g'' N N'' _=>by simp only [avK,SimV];exact hs.1) rfl
     | lst ks'=>
      simp only [Zme] at hx;split at hx
      ·rename_i xs hrd;cases hx;have hc:Zh g.Z H (.lst ks') x v:=by
        unfold rdL at hrd;split at hrd;split at hrd;rename_i hk _;subst hk;cases hrd;simpa only [SimV,Zdl] using hs.1;cases hrd;cases hrd;simp only [SimV] at hs;simp only [Zh];exact ⟨none,0,0,hs.1,rfl,Nat.le_refl _,Nat.zero_le _,fun h=>absurd h (by omega)⟩
        rename_i id;obtain ⟨ks2,xs2,ho⟩:=hf _ ks' 0 id rfl rfl rfl;rw [ho] at hrd;simp only at hrd;split at hrd;rename_i hk _;subst hk;cases hrd;simp only [SimV] at hs;rw [hs.1.2.1];exact s.obj id _ ho;cases hrd;cases hrd
       exact scal rfl rfl (Zh.wf (.lst ks') x v hc) (fun g'' N N'' hz=>by simp only [avK,SimV];rw [hz];exact hc) rfl
      ·cases hx
     | row T ks'=>
      cases a<;>simp only [Zme] at hx<;>first | (cases hx;done) | skip
      ·cases hx;simp only [SimV] at hs;refine rowC none (.row T false ks' []) rfl rfl rfl (by simp only [WfK,WfE];exact ⟨Nat.zero_le _,fun x hx=>by simp [asL] at hx⟩) (fun g'' N N'' h1 h2 _=>?_) (fun o ho=>?_)
       simp only [avK,SimV];simp only [List.length_cons] at h2;have hn:=h1.nil 0 rfl;simp only [Nat.add_zero] at hn;exact ⟨by omega,by rw [hn];exact hs.1,none,0,0,hs.1⟩
       simp [Zcj] at ho;exact .inr ⟨rfl,T,ks',ho.symm⟩
      ·rename_i id;split at hx
       ·rename_i T' ks2 xs ho;split at hx
        ·rename_i _ _ hke hT _;have hT:=Nat.eq_of_beq_eq_true hT;subst hT hke;cases hx;simp only [SimV] at hs;have hrow0:=s.obj id _ ho;refine rowC (some id) _ rfl rfl rfl ?_ (fun g'' N N'' h1 h2 _=>?_) (fun o ho'=>?_)
         ·simp only [WfK,WfE,Zdl];obtain ⟨a',n',c',h1,h2,h3,h4,hat⟩:=Zbc (T:=0) (N:=st.σ.length) hrow0;refine ⟨by simp only [asL];omega,fun x hx=>?_⟩
          obtain ⟨i,hi⟩:=List.getElem?_of_mem hx;obtain ⟨_,_,hw3,_⟩:=hat i x hi;exact hw3
         simp only [avK,SimV];simp only [List.length_cons] at h2;have hn:=(h1.hit 0 id rfl).1;simp only [Nat.add_zero] at hn;exact ⟨by omega,by rw [hn];exact hs.1.2.1,hs.1.2.2⟩
         simp [Zcj,Zdl] at ho';subst ho';exact .inl ⟨id,rfl,ho,rfl,_,_,_,rfl⟩
        cases hx
       ·cases hx
     | arr T ks'=>
      cases a<;>simp only [Zme] at hx<;>first | (cases hx;done) | skip
      rename_i id;split at hx
      ·rename_i T' ks2 xs ho;split at hx
       ·rename_i _ _ hke hT _;have hT:=Nat.eq_of_beq_eq_true hT;subst hT hke;cases hx;simp only [SimV] at hs;have hrow0:=s.obj id _ ho;refine rowC (some id) _ rfl rfl rfl ?_ (fun g'' N N'' h1 h2 _=>?_) (fun o ho'=>?_)
        ·simp only [WfK,WfE,Zdl];obtain ⟨a',n',c',h1,h2,h3,h4,hat⟩:=Zbc (T:=0) (N:=st.σ.length) hrow0;refine ⟨by simp only [asL];omega,fun x hx=>?_⟩
         obtain ⟨i,hi⟩:=List.getElem?_of_mem hx;obtain ⟨_,_,hw3,_⟩:=hat i x hi;exact hw3
        simp only [avK,SimV];simp only [List.length_cons] at h2;have hn:=(h1.hit 0 id rfl).1;simp only [Nat.add_zero] at hn;obtain ⟨_,b,n,c,h3,h4⟩:=hs.1;exact ⟨by omega,b,n,c,by rw [hn];exact h3,h4⟩
        simp [Zcj,Zdl] at ho';subst ho';exact .inl ⟨id,rfl,ho,rfl,_,_,_,rfl⟩
       cases hx
      cases hx
    cases h
theorem Zbcs {E:En} {ρ:Env} {H:Heap} {α:Nat->AV}: ∀(ks:List PK) (as:List AV) (σ σ':List AObj) (g:Gh),Sim E ⟨α,σ⟩ ρ H g->frzY σ ks as=some σ'->
  ∃g',Sim E ⟨α,σ'⟩ ρ H g'∧Rel ⟨α,σ⟩ H g ⟨α,σ'⟩ H g'∧σ'.length=σ.length∧(∀(k:PK) (ks':List Kd) (i id:Nat),ks[i]? =some k->k= .lst ks'->as[i]? =some (.row id)->∃ks xs,σ'[id]? =some (.frz ks xs))∧
   ∀(id:Nat) (ks:List Kd) (xs:List (Tp ks)),σ[id]? =some (.frz ks xs)->σ'[id]? =some (.frz ks xs):=by
 intro ks;induction ks with
 | nil=>
  intro as σ σ' g s h;cases as with
  | nil=>simp only [frzY,Option.some.injEq] at h;subst h;exact ⟨g,s,.refl _ _ _,rfl,fun k ks' i id h=>by simp at h,fun _ _ _ h=>h⟩
  | cons=>simp only [frzY] at h;cases h
 | cons k ks ih=>
  intro as σ σ' g s h;cases as with
  | nil=>cases k<;>simp only [frzY] at h<;>cases h
  | cons a as=>
   have plain:frzY σ (k::ks) (a::as)=frzY σ ks as->(∀ks',k≠ .lst ks')->∃g',Sim E ⟨α,σ'⟩ ρ H g'∧Rel ⟨α,σ⟩ H g ⟨α,σ'⟩ H g'∧σ'.length=σ.length∧(∀(k':PK) (ks':List Kd) (i id:Nat),(k::ks)[i]? =some k'->k'= .lst ks'->(a::as)[i]? =some (.row id)->∃ks xs,σ'[id]? =some (.frz ks xs))∧
     ∀(id:Nat) (ks:List Kd) (xs:List (Tp ks)),σ[id]? =some (.frz ks xs)->σ'[id]? =some (.frz ks xs):=by
    intro he hk;rw [he] at h;obtain ⟨g',h1,h2,h3,h4,h5⟩:=ih as σ σ' g s h;refine ⟨g',h1,h2,h3,fun k' ks' i id hi e ha=>?_,h5⟩;cases i with
    | zero=>simp at hi;subst hi;exact absurd e (hk ks')
    | succ i=>exact h4 k' ks' i id (by simpa using hi) e (by simpa using ha)
   cases k with
   | lst ks'=>
    simp only [frzY] at h;split at h
    ·rename_i σ1 hf;obtain ⟨g1,s1,r1,l1,f1,k1⟩:=Zbcr s hf;obtain ⟨g2,s2,r2,l2,f2,k2⟩:=ih as σ1 σ' g1 s1 h;refine ⟨g2,s2,r1.trans r2,l2.trans l1,fun k' ks' i id hi e ha=>?_,fun _ _ _ h=>k2 _ _ _ (k1 _ _ _ h)⟩;cases i with
     | zero=>
      simp at ha;obtain ⟨ks3,xs3,h3⟩:=f1 id ha;exact ⟨ks3,xs3,k2 _ _ _ h3⟩
     | succ i=>exact f2 k' ks' i id (by simpa using hi) e (by simpa using ha)
    ·cases h
   | int=>exact plain rfl (by intro _ h;cases h)
   | bool=>exact plain rfl (by intro _ h;cases h)
   | str=>exact plain rfl (by intro _ h;cases h)
   | row=>exact plain rfl (by intro _ h;cases h)
   | arr=>exact plain rfl (by intro _ h;cases h)
theorem Sim.rehead {E:En} {st:St} {ρ:Env} {H:Heap} {g:Gh} (s:Sim E st ρ H g) {base rows:List AObj} {src:List (Option Nat)} (hle:base.length <= st.σ.length) (hlen:rows.length=src.length)
  (hb: ∀(id:Nat) (o:AObj),base[id]? =some o->o= .gone∨(isRo o=true∧st.σ[id]? =some o∧SimO g H base.length id o)∨(∃T cs cs1,o= .obj T false cs∧st.σ[id]? =some (.obj T false cs1)))
  (hr: ∀(j:Nat) (o:AObj) (i:Option Nat),rows[j]? =some o->src[j]? =some i->(∃id,i=some id∧st.σ[id]? =some o∧isRo o=false∧(∃T ks xs,o= .row T false ks xs))∨(i=none∧∃T ks,o= .row T false ks []))
  (hd: ∀(j j' id:Nat),src[j]? =some (some id)->src[j']? =some (some id)->j=j'):
  ∃g'',g''.Z=g.Z∧(∀i,i<base.length->g''.B i=g.B i∧g''.V i=g.V i)∧Srcs g g'' base.length src∧
   ∀(base':List AObj) (α'':Nat->AV) (ρ'':Env),base'.length=base.length->(∀(id:Nat) (o:AObj),base'[id]? =some o->(isRo o=true∧base[id]? =some o)∨o= .gone∨(∃T cs cs0,o= .obj T false cs∧base[id]? =some (.obj T false cs0)∧∃vs,H (g.B id)=some (.cells ⟨vs⟩ T (0,0))∧SimL g'' H (base.length+rows.length) cs vs))->
    (∀t,SimV g'' H (base.length+rows.length) (α'' t) (ρ'' t))->Sim E ⟨α'',base'++rows⟩ ρ'' H g'':=by
 let g'':Gh:=⟨g.Z,fun i=>if i<base.length then g.B i else match src[i - base.length]? with | some (some id)=>g.B id | _=>0,fun i=>if i<base.length then g.V i else match src[i - base.length]? with | some (some id)=>g.V id | _=> .slice none 0 0⟩
 have hB: ∀i,i<base.length->g''.B i=g.B i:=fun i hi=>if_pos hi;have hV: ∀i,i<base.length->g''.V i=g.V i:=fun i hi=>if_pos hi;have hS:Srcs g g'' base.length src:=by
  refine ⟨fun j id hj=>⟨?_,?_⟩,fun j hj=>?_⟩
  ·show (if base.length+j<base.length then _ else _)=_
   rw [if_neg (by omega),Nat.add_sub_cancel_left,hj]
  ·show (if base.length+j<base.length then _ else _)=_
   rw [if_neg (by omega),Nat.add_sub_cancel_left,hj]
  ·show (if base.length+j<base.length then _ else _)=_
   rw [if_neg (by omega),Nat.add_sub_cancel_left,hj]
 refine ⟨g'',rfl,fun i hi=>⟨hB i hi,hV i hi⟩,hS,fun base' α'' ρ'' hbl hb' hα=>?_⟩;have hext:Ext base.length g H g'' H:=⟨fun b hz=>⟨hz,rfl⟩,hB,hV⟩;have hN:(base'++rows).length=base.length+rows.length:=by simp [hbl]
 have parts: ∀(i:Nat) (o:AObj),(base'++rows)[i]? =some o->(i<base.length∧base'[i]? =some o)∨(∃j,i=base.length+j∧rows[j]? =some o∧∃k,src[j]? =some k):=by
  intro i o hi;rcases Nat.lt_or_ge i base.length with h | h
  ·rw [List.getElem?_append_left (by omega)] at hi
   exact .inl ⟨h,hi⟩
  ·rw [List.getElem?_append_right (by omega)] at hi
   refine .inr ⟨i - base.length,by omega,by rw [← hbl];exact hi,?_⟩
   have:i - base'.length<rows.length:=Zbr hi;exact ⟨src[i - base.length]'(by omega),by simp⟩
 have old: ∀(i:Nat) (o:AObj),(base'++rows)[i]? =some o->Has g'' i o->∃id o1,st.σ[id]? =some o1∧Has g id o1∧g''.B i=g.B id∧((i<base.length∧id=i∧(isRo o1=true∨∃T cs,o1= .obj T false cs))∨(∃j,i=base.length+j∧src[j]? =some (some id)∧isRo o1=false∧∃T ks xs,o1= .row T false ks xs)):=by
  intro i o hi hh;rcases parts i o hi with ⟨h1,h2⟩ | ⟨j,rfl,h2,k,hk⟩
  ·rcases hb' i o h2 with ⟨h3,h4⟩ | rfl | ⟨T,cs,cs0,rfl,h4,_⟩;rcases hb i o h4 with rfl | ⟨_,h5,_⟩ | ⟨T,cs,cs1,rfl,h5⟩;exact hh.elim;exact ⟨i,o,h5,(Has.ext hext h1).1 hh,hB i h1,.inl ⟨h1,rfl,.inl h3⟩⟩;exact absurd h3 (by simp [isRo])
   exact hh.elim;rcases hb i _ h4 with e | ⟨h5,_,_⟩ | ⟨T',cs',cs1,e,h5⟩;cases e;simp [isRo] at h5;exact ⟨i,_,h5,trivial,hB i h1,.inl ⟨h1,rfl,.inr ⟨_,_,rfl⟩⟩⟩
  ·rcases hr j o k h2 hk with ⟨id,rfl,h3,h4,T,ks,xs,rfl⟩ | ⟨rfl,T,ks,rfl⟩;obtain ⟨hv,hb2⟩:=hS.hit j id hk;obtain ⟨a,n,c,h5⟩:=hh;exact ⟨id,_,h3,⟨a,n,c,by rw [← hv];exact h5⟩,hb2,.inr ⟨j,rfl,hk,rfl,_,_,_,rfl⟩⟩
   obtain ⟨a,n,c,h5⟩:=hh;rw [hS.nil j hk] at h5;cases h5
 refine ⟨fun t=>by simp only [hN];exact hα t,fun i o hi=>?_,fun i o hi hh=>?_,fun i j oi oj hij hi hj hhi hhj=>?_,fun i o hi hh=>?_,s.keep,s.zsub,s.znew,s.zlive,s.lay,s.zc⟩
 ·simp only [hN];rcases parts i o hi with ⟨h1,h2⟩ | ⟨j,rfl,h2,k,hk⟩;rcases hb' i o h2 with ⟨h3,h4⟩ | rfl | ⟨T,cs,cs0,rfl,_,vs,h5,h6⟩;rcases hb i o h4 with rfl | ⟨_,h5,h6⟩ | ⟨T,cs,cs1,rfl,h5⟩;trivial;exact SimO.ext (Nat.le_add_right _ _) hext h1 (fun _=>rfl) h6;simp [isRo] at h3;trivial;exact ⟨vs,by rw [hB i h1];exact h5,h6⟩
  rcases hr j o k h2 hk with ⟨id,rfl,h3,h4,T,ks,xs,rfl⟩ | ⟨rfl,T,ks,rfl⟩;obtain ⟨hv,hb2⟩:=hS.hit j id hk;have:=s.obj id _ h3;simp only [SimO] at this ⊢;rw [hv,hb2];exact this;simp only [SimO];exact ⟨none,0,0,hS.nil j hk,rfl,Nat.le_refl _,Nat.zero_le _,.inl ⟨rfl,rfl⟩⟩
 obtain ⟨id,o1,h1,h2,h3,_⟩:=old i o hi hh;rw [h3];exact s.nz id o1 h1 h2;obtain ⟨id,o1,h1,h2,h3,h4⟩:=old i oi hi hhi;obtain ⟨id',o2,h5,h6,h7,h8⟩:=old j oj hj hhj;rw [h3,h7];refine s.dis id id' o1 o2 (fun e=>?_) h1 h5 h2 h6;subst e;rw [h1] at h5;cases h5;rcases h4 with ⟨_,rfl,h9⟩ | ⟨k,rfl,h9,h10,T,ks,xs,rfl⟩;rcases h8 with ⟨_,rfl,_⟩ | ⟨k',rfl,h11,h12,T,ks,xs,rfl⟩;exact hij rfl;rcases h9 with h9 | ⟨T',cs',h9⟩;simp [isRo] at h9;cases h9;rcases h8 with ⟨_,rfl,h11⟩ | ⟨k',rfl,h11,_⟩;rcases h11 with h11 | ⟨T',cs',h11⟩;simp [isRo] at h11;cases h11;exact hij (by rw [hd k k' _ h9 h11])
 obtain ⟨id,o1,h1,h2,h3,_⟩:=old i o hi hh;rw [h3];exact s.own id o1 h1 h2
end Go.Sh
end
