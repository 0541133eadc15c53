/-
  SOME FUNCTIONS IN PLAIN LOGIC:printed by a program of ours over this translation.
-/
import Derived.Test.YtlkdgfolbllngaaGreatDoorBA
import Derived.Test.YtlkdgfolbllngaaGreatDoorRows
set_option linter.all false
section
set_option maxRecDepth 100000
namespace Go.Proofs.YtlkdgfolbllngaaGreatDoor
open Go.Sh
open Value renaming int -> vI, slice -> vS, pointer -> vP, bool -> vB, tuple -> vT, agg -> vA, func -> vF
open IntKind renaming wrap -> vW, i64 -> wI, u32 -> vU
open Go.Proofs.Tryz renaming prog -> wP
def Zsq (a:Nat) (a9:Option Addr) (b1 b0:Nat) (a5:Int) (f e:Nat) (a4:(Unit)->Heap->Prop) (a6:Bool) (b:Heap) (g:Value->Heap->Prop):Prop:=
 IfB a6
 (FnW wP Zbbh ⟨[(vP (some ⟨f,0,none⟩)),(vP (some ⟨e,0,none⟩))]⟩ b fun a7 Q=>
 a7=vT ⟨[]⟩∧
 a4 () Q)
 (∃D,b.cell ⟨f,3,none⟩=some (vB D)∧
 IfB D
 (FnW wP Zbbq ⟨[(vP (some ⟨f,0,none⟩))]⟩ b fun a8 R=>
 ∃E,a8=vI wI E∧
 Za R ⟨a,0,none⟩ (vI vU 0) fun S=>
 Za S ⟨a,1,none⟩ (vI vU 0) fun T=>
 Za T ⟨a,2,none⟩ (vI wI 0) fun U=>
 Za U ⟨a,3,none⟩ (vI wI 0) fun V=>
 Za V ⟨a,4,none⟩ (vI wI 0) fun W=>
 Za W ⟨a,5,none⟩ (vS none 0 0) fun X=>
 Za X ⟨a,6,none⟩ (vS none 0 0) fun c=>
 ∃h,c.cell ⟨a,0,none⟩=some (vI vU h)∧∃j,c.cell ⟨a,1,none⟩=some (vI vU j)∧∃l,c.cell ⟨a,2,none⟩=some (vI wI l)∧∃n,c.cell ⟨a,3,none⟩=some (vI wI n)∧∃p,c.cell ⟨a,4,none⟩=some (vI wI p)∧∃r v t,c.cell ⟨a,5,none⟩=some (vS r v t)∧∃x B z,c.cell ⟨a,6,none⟩=some (vS x B z)∧g (vT ⟨[(vA ⟨[(vI vU h),(vI vU j),(vI wI l),(vI wI n),(vI wI p),(vS r v t),(vS x B z)]⟩),(vI wI E),(vI wI 250)]⟩) c)
 (∃F,b.cell ⟨e,0,none⟩=some (vI vU F)∧∃G,b.cell ⟨e,1,none⟩=some (vI vU G)∧∃H,b.cell ⟨e,2,none⟩=some (vI wI H)∧∃I,b.cell ⟨e,3,none⟩=some (vI wI I)∧∃J,b.cell ⟨e,4,none⟩=some (vI wI J)∧∃K M L,b.cell ⟨e,5,none⟩=some (vS K M L)∧∃N P O,b.cell ⟨e,6,none⟩=some (vS N P O)∧Za b ⟨a,0,none⟩ (vI vU F) fun Y=>
 Za Y ⟨a,1,none⟩ (vI vU G) fun Z=>
 Za Z ⟨a,2,none⟩ (vI wI H) fun a0=>
 Za a0 ⟨a,3,none⟩ (vI wI I) fun a1=>
 Za a1 ⟨a,4,none⟩ (vI wI J) fun a2=>
 Za a2 ⟨a,5,none⟩ (vS K M L) fun a3=>
 Za a3 ⟨a,6,none⟩ (vS N P O) fun d=>
 ∃i,d.cell ⟨a,0,none⟩=some (vI vU i)∧∃k,d.cell ⟨a,1,none⟩=some (vI vU k)∧∃m,d.cell ⟨a,2,none⟩=some (vI wI m)∧∃o,d.cell ⟨a,3,none⟩=some (vI wI o)∧∃q,d.cell ⟨a,4,none⟩=some (vI wI q)∧∃s w u,d.cell ⟨a,5,none⟩=some (vS s w u)∧∃y C A,d.cell ⟨a,6,none⟩=some (vS y C A)∧g (vT ⟨[(vA ⟨[(vI vU i),(vI vU k),(vI wI m),(vI wI o),(vI wI q),(vS s w u),(vS y C A)]⟩),(vI wI 0),(vI wI a5)]⟩) d))
def Zbrq (k:Nat) (g:Option Addr) (c h:Nat) (i:Int) (b f:Nat) (a:Heap) (e:(Unit)->Heap->Prop) (d:Value->Heap->Prop):Prop:=
 ∃j,a.cell ⟨b,3,none⟩=some (vB j)∧
 IfB (!j)
 (∃l,a.cell ⟨b,1,none⟩=some (vI wI l)∧
 Zsq k g c h i b f e (decide (l<(c:Int))) a d)
 (Zsq k g c h i b f e false a d)
def Zbrr (N:ByteArray) (e:Heap) (j:Value->Heap->Prop):Prop:=
 NewW e (Obj.cells ⟨[(vI vU 0),(vI vU 0),(vI wI 0),(vI wI 0),(vI wI 0),(vS none 0 0),(vS none 0 0)]⟩ Zcj) fun a w=>
 FnW wP Zty ⟨[(Value.string N)]⟩ w fun O i=>
 ∃f h g,∃v:Int,∃d:Int,O=(vT ⟨[(vS f h g),(vI wI v),(vI wI d)]⟩)∧
 IfB (d !=0)
 (Za i ⟨a,0,none⟩ (vI vU 0) fun G=>
 Za G ⟨a,1,none⟩ (vI vU 0) fun H=>
 Za H ⟨a,2,none⟩ (vI wI 0) fun I=>
 Za I ⟨a,3,none⟩ (vI wI 0) fun J=>
 Za J ⟨a,4,none⟩ (vI wI 0) fun K=>
 Za K ⟨a,5,none⟩ (vS none 0 0) fun L=>
 Za L ⟨a,6,none⟩ (vS none 0 0) fun b=>
 ∃k,b.cell ⟨a,0,none⟩=some (vI vU k)∧∃l,b.cell ⟨a,1,none⟩=some (vI vU l)∧∃m,b.cell ⟨a,2,none⟩=some (vI wI m)∧∃n,b.cell ⟨a,3,none⟩=some (vI wI n)∧∃o,b.cell ⟨a,4,none⟩=some (vI wI o)∧∃p r q,b.cell ⟨a,5,none⟩=some (vS p r q)∧∃s u t,b.cell ⟨a,6,none⟩=some (vS s u t)∧j (vT ⟨[(vA ⟨[(vI vU k),(vI vU l),(vI wI m),(vI wI n),(vI wI o),(vS p r q),(vS s u t)]⟩),(vI wI v),(vI wI d)]⟩) b)
 (NewW i (Obj.cells ⟨[(vS f h g),(vI wI 0),(vI wI 0),(vB false)]⟩ Zh) fun P x=>
 NewW x (Obj.cells ⟨[(vI vU 0),(vI vU 0),(vI wI 0),(vI wI 0),(vI wI 0),(vS none 0 0),(vS none 0 0)]⟩ Zcj) fun c y=>
 Za y ⟨c,0,none⟩ (vI vU 0) fun z=>
 Za z ⟨c,1,none⟩ (vI vU 0) fun A=>
 Za A ⟨c,2,none⟩ (vI wI 90) fun B=>
 Za B ⟨c,3,none⟩ (vI wI 30) fun C=>
 Za C ⟨c,4,none⟩ (vI wI 0) fun D=>
 Za D ⟨c,5,none⟩ (vS none 0 0) fun E=>
 Za E ⟨c,6,none⟩ (vS none 0 0) fun F=>
 Zct (Unit) () F fun R e M=>∀Q:Env,Zbrq a f h g d P c e M j)
theorem Zcim (d:ByteArray) {a:Heap} {c:Value->Heap->Prop} (f:Zbrr d a fun g e=>∀b,Shut a e b->c g b):FnW wP Zuq ⟨[(Value.string d)]⟩ a c:=Zo Tryz.func7 ⟨[],[(6,[],[],[2,5,7,8,9])],[],[]⟩ (by kernel_rfl) (by kernel_rfl) f
def Zkd (d:Nat) (a:Heap) (c:Value->Heap->Prop):Prop:=
 FnW wP Zgv ⟨[(vP (some ⟨d,0,none⟩)),(Value.string (ByteArray.mk #[59]))]⟩ a fun e b=>
 e=vT ⟨[]⟩∧
 c (vT ⟨[]⟩) b
def Zbru (a d:Nat) (R:Heap) (e:Value->Heap->Prop):Prop:=
 NewW R (Obj.cells ⟨[(Value.string (ByteArray.mk #[112,111,108,105,99,121])),(Value.string (ByteArray.mk #[112,101,101,114])),(Value.string (ByteArray.mk #[115,121,115,116,101,109])),(Value.string (ByteArray.mk #[114,111,117,116,101,114])),(Value.string (ByteArray.mk #[104,111,108,100])),(Value.string (ByteArray.mk #[114,101,116,114,121])),(Value.string (ByteArray.mk #[103,114,97,99,101,102,117,108]))]⟩ Zcv) fun d2 S=>
 FnW wP Zkr ⟨[(vP (some ⟨a,0,none⟩)),(vS (some ⟨d2,0,none⟩) 7 7)]⟩ S fun d5 c=>
 ∃f,d5=vI wI f∧
 IfB (f==0)
 (FnW wP Zil ⟨[(vP (some ⟨a,0,none⟩)),(vI wI 1)]⟩ c fun c1 a9=>
 ∃b6,∃l:ByteArray,∃b7:Int,∃b8:Int,∃b9:Int,∃c0:Int,c1=(vA ⟨[(vI wI b6),(Value.string l),(vI wI b7),(vI vU b8),(vI wI b9),(vI wI c0)]⟩)∧
 NewW a9 (Obj.cells ⟨[(Value.string (ByteArray.mk #[])),(vS none 0 0)]⟩ Zek) fun g b0=>
 Za b0 ⟨g,0,none⟩ (Value.string l) fun b1=>
 Za b1 ⟨g,1,none⟩ (vS none 0 0) fun b2=>
 FnW wP Zgv ⟨[(vP (some ⟨a,0,none⟩)),(Value.string (ByteArray.mk #[123]))]⟩ b2 fun c2 b3=>
 c2=vT ⟨[]⟩∧
 FnW wP Zpx ⟨[(vP (some ⟨a,0,none⟩))]⟩ b3 fun c3 b4=>
 ∃m o n,c3=vS m o n∧
 Za b4 ⟨g,1,none⟩ (vS m o n) fun h=>
 ∃p r q,h.cell ⟨d,5,none⟩=some (vS p r q)∧
 ∃s,h.cell ⟨g,0,none⟩=some (Value.string s)∧∃t v u,h.cell ⟨g,1,none⟩=some (vS t v u)∧NewW h (Obj.cells ⟨[(Value.string s),(vS t v u)]⟩ Zek) fun c4 T=>
 AppW wP #[Zlu,Zlu] Zlu [(vS p r q),(vS (some ⟨c4,0,none⟩) 1 1)] T fun c5 U=>
 ∃w y x,c5=vS w y x∧
 Za U ⟨d,5,none⟩ (vS w y x) fun V=>
 e (vT ⟨[]⟩) V)
 (IfB (f==1)
 (∃i:List Nat,(∀b∈i,∃b5,c b=some b5)∧
 d∈i∧∃z B A,c.cell ⟨d,6,none⟩=some (vS z B A)∧
 FnW wP Zbbf ⟨[(vP (some ⟨a,0,none⟩))]⟩ c fun c6 j=>
 ∃C,∃D:Int,∃E:Int,∃F:Bool,∃G:Int,∃H:ByteArray,∃I:ByteArray,c6=(vA ⟨[(Value.string C),(vI vU D),(vI vU E),(vB F),(vI wI G),(Value.string H),(Value.string I)]⟩)∧
 Zea i c j∧NewW j (Obj.cells ⟨[(Value.string C),(vI vU D),(vI vU E),(vB F),(vI wI G),(Value.string H),(Value.string I)]⟩ Zv) fun c7 W=>
 AppW wP #[Zlt,Zlt] Zlt [(vS z B A),(vS (some ⟨c7,0,none⟩) 1 1)] W fun c8 k=>
 ∃J L K,c8=vS J L K∧
 Zea i c k∧Za k ⟨d,6,none⟩ (vS J L K) fun X=>
 e (vT ⟨[]⟩) X)
 (IfB (f==2)
 (FnW wP Zdl ⟨[(vP (some ⟨a,0,none⟩)),(vI wI 2)]⟩ c fun c9 Y=>
 ∃M,c9=vI wI M∧
 Za Y ⟨d,0,none⟩ (vI vU (vW vU M)) fun Z=>
 Zkd a Z e)
 (IfB (f==3)
 (FnW wP Zdl ⟨[(vP (some ⟨a,0,none⟩)),(vI wI 3)]⟩ c fun d0 a0=>
 ∃N,d0=vI wI N∧
 Za a0 ⟨d,1,none⟩ (vI vU (vW vU N)) fun a1=>
 Zkd a a1 e)
 (IfB (f==4)
 (FnW wP Zdl ⟨[(vP (some ⟨a,0,none⟩)),(vI wI 2)]⟩ c fun d1 a2=>
 ∃O,d1=vI wI O∧
 Za a2 ⟨d,2,none⟩ (vI wI O) fun a3=>
 Zkd a a3 e)
 (IfB (f==5)
 (FnW wP Zdl ⟨[(vP (some ⟨a,0,none⟩)),(vI wI 2)]⟩ c fun d3 a4=>
 ∃P,d3=vI wI P∧
 Za a4 ⟨d,3,none⟩ (vI wI P) fun a5=>
 Zkd a a5 e)
 (IfB (f==6)
 (FnW wP Zdl ⟨[(vP (some ⟨a,0,none⟩)),(vI wI 2)]⟩ c fun d4 a6=>
 ∃Q,d4=vI wI Q∧
 Za a6 ⟨d,4,none⟩ (vI wI Q) fun a7=>
 Zkd a a7 e)
 (Za c ⟨a,3,none⟩ (vB true) fun a8=>
 Zkd a a8 e)))))))
theorem Zciq (d e:Nat) {a:Heap} {c:Value->Heap->Prop} (g:Zbru d e a fun h f=>∀b,Shut a f b->c h b):FnW wP Zbbh ⟨[(vP (some ⟨d,0,none⟩)),(vP (some ⟨e,0,none⟩))]⟩ a c:=Zo Tryz.func15 ⟨[(8,[0,1,2,3,4,5,6,7,8,9,10,11],[38])],[],[],[]⟩ (by kernel_rfl) (by kernel_rfl) g
def Zbtd (b:Nat) (a:Heap) (c:Value->Heap->Prop):Prop:=
 ∃p j q,a.cell ⟨b,0,none⟩=some (vS p j q)∧
 IfB (((j:Int):Int)==0)
 (c (vI wI 1) a)
 (∃d e k,a.cell ⟨b,0,none⟩=some (vS d e k)∧
 ∃f,a.cell ⟨b,1,none⟩=some (vI wI f)∧
 ∃l g m,a.cell ⟨b,0,none⟩=some (vS l g m)∧
 NilP d fun o=>
 InB (min f (vW wI ((g:Int) - 1))) e fun n=>
 elemAt o n 6 fun h=>
 ∃i,a.cell ⟨h.block,h.off+5,none⟩=some (vI wI i)∧
 c (vI wI i) a)
theorem Zcjz (d:Nat) {a:Heap} {c:Value->Heap->Prop} (f:Zbtd d a fun g e=>∀b,Shut a e b->c g b):FnW wP Zbbq ⟨[(vP (some ⟨d,0,none⟩))]⟩ a c:=Zo Tryz.func16 ⟨[],[],[],[]⟩ (by kernel_rfl) (by kernel_rfl) f
def Zbsc (h:Nat) (e:Option Addr) (g f:Nat) (b:Heap) (d:Value->Heap->Prop):Prop:=
 FnW wP Zbjc ⟨[(vS e g f),(vF (.func Zfb) #[(vP (some ⟨h,0,none⟩))] #[])]⟩ b fun i c=>
 ∃a,i=vI wI a∧
 d (vI wI a) c
theorem Zcix (g:Nat) (d:Option Addr) (f e:Nat) {a:Heap} {c:Value->Heap->Prop} (i:Zbsc g d f e a fun j h=>∀b,Shut a h b->c j b):FnW wP Zkr ⟨[(vP (some ⟨g,0,none⟩)),(vS d f e)]⟩ a c:=Zo Tryz.func44 ⟨[],[],[],[]⟩ (by kernel_rfl) (by kernel_rfl) i
def Zos (f a:Nat) (P:Bool) (g:Heap) (h:Value->Heap->Prop):Prop:=
 IfB P
 (Za g ⟨f,3,none⟩ (vB true) fun J=>
 Za J ⟨a,0,none⟩ (vI wI 0) fun K=>
 Za K ⟨a,1,none⟩ (Value.string (ByteArray.mk #[])) fun L=>
 Za L ⟨a,2,none⟩ (vI wI 0) fun M=>
 Za M ⟨a,3,none⟩ (vI vU 0) fun N=>
 Za N ⟨a,4,none⟩ (vI wI 0) fun O=>
 Za O ⟨a,5,none⟩ (vI wI 0) fun e=>
 ∃i,e.cell ⟨a,0,none⟩=some (vI wI i)∧∃k,e.cell ⟨a,1,none⟩=some (Value.string k)∧∃m,e.cell ⟨a,2,none⟩=some (vI wI m)∧∃o,e.cell ⟨a,3,none⟩=some (vI vU o)∧∃q,e.cell ⟨a,4,none⟩=some (vI wI q)∧∃s,e.cell ⟨a,5,none⟩=some (vI wI s)∧h (vA ⟨[(vI wI i),(Value.string k),(vI wI m),(vI vU o),(vI wI q),(vI wI s)]⟩) e)
 (∃u,g.cell ⟨f,1,none⟩=some (vI wI u)∧
 Za g ⟨f,1,none⟩ (vI wI (vW wI (u+1))) fun c=>
 ∃v w Q,c.cell ⟨f,0,none⟩=some (vS v w Q)∧
 ∃x,c.cell ⟨f,1,none⟩=some (vI wI x)∧
 NilP v fun S=>
 InB (vW wI (x - 1)) w fun R=>
 elemAt S R 6 fun b=>
 ∃y,c.cell b=some (vI wI y)∧∃z,c.cell ⟨b.block,b.off+1,none⟩=some (Value.string z)∧∃A,c.cell ⟨b.block,b.off+2,none⟩=some (vI wI A)∧∃B,c.cell ⟨b.block,b.off+3,none⟩=some (vI vU B)∧∃C,c.cell ⟨b.block,b.off+4,none⟩=some (vI wI C)∧∃D,c.cell ⟨b.block,b.off+5,none⟩=some (vI wI D)∧Za c ⟨a,0,none⟩ (vI wI y) fun E=>
 Za E ⟨a,1,none⟩ (Value.string z) fun F=>
 Za F ⟨a,2,none⟩ (vI wI A) fun G=>
 Za G ⟨a,3,none⟩ (vI vU B) fun H=>
 Za H ⟨a,4,none⟩ (vI wI C) fun I=>
 Za I ⟨a,5,none⟩ (vI wI D) fun d=>
 ∃j,d.cell ⟨a,0,none⟩=some (vI wI j)∧∃l,d.cell ⟨a,1,none⟩=some (Value.string l)∧∃n,d.cell ⟨a,2,none⟩=some (vI wI n)∧∃p,d.cell ⟨a,3,none⟩=some (vI vU p)∧∃r,d.cell ⟨a,4,none⟩=some (vI wI r)∧∃t,d.cell ⟨a,5,none⟩=some (vI wI t)∧h (vA ⟨[(vI wI j),(Value.string l),(vI wI n),(vI vU p),(vI wI r),(vI wI t)]⟩) d)
def Zbqv (b:Nat) (m:Int) (l:Heap) (c:Value->Heap->Prop):Prop:=
 NewW l (Obj.cells ⟨[(vI wI 0),(Value.string (ByteArray.mk #[])),(vI wI 0),(vI vU 0),(vI wI 0),(vI wI 0)]⟩ Zth) fun d a=>
 ∃k,a.cell ⟨b,3,none⟩=some (vB k)∧
 IfB k
 (Zos b d true a c)
 (∃e,a.cell ⟨b,1,none⟩=some (vI wI e)∧
 ∃n f o,a.cell ⟨b,0,none⟩=some (vS n f o)∧
 IfB (e==(f:Int))
 (Zos b d true a c)
 (∃g h p,a.cell ⟨b,0,none⟩=some (vS g h p)∧
 ∃i,a.cell ⟨b,1,none⟩=some (vI wI i)∧
 NilP g fun s=>
 InB i h fun q=>
 elemAt s q 6 fun r=>
 ∃j,a.cell r=some (vI wI j)∧
 Zos b d (j !=m) a c))
theorem Zchx (e:Nat) (d:Int) {a:Heap} {c:Value->Heap->Prop} (g:Zbqv e d a fun h f=>∀b,Shut a f b->c h b):FnW wP Zil ⟨[(vP (some ⟨e,0,none⟩)),(vI wI d)]⟩ a c:=Zo Tryz.func45 ⟨[],[],[],[]⟩ (by kernel_rfl) (by kernel_rfl) g
def Zbra (a:Nat) (i:ByteArray) (f:Heap) (c:Value->Heap->Prop):Prop:=
 FnW wP Zfb ⟨[(vP (some ⟨a,0,none⟩)),(Value.string i)]⟩ f fun j b=>
 ∃e,j=vB e∧
 IfB (!e)
 (Za b ⟨a,3,none⟩ (vB true) fun g=>
 c (vT ⟨[]⟩) g)
 (∃d,b.cell ⟨a,3,none⟩=some (vB d)∧
 Za b ⟨a,3,none⟩ (vB d) fun h=>
 c (vT ⟨[]⟩) h)
theorem Zcia (d:Nat) (e:ByteArray) {a:Heap} {c:Value->Heap->Prop} (g:Zbra d e a fun h f=>∀b,Shut a f b->c h b):FnW wP Zgv ⟨[(vP (some ⟨d,0,none⟩)),(Value.string e)]⟩ a c:=Zo Tryz.func46 ⟨[],[],[],[]⟩ (by kernel_rfl) (by kernel_rfl) g
def Zsp (e:Nat) (b:Option Addr) (d c:Nat) (D:((Option Addr×Nat×Nat)×Unit)->Heap->Prop) (E:Bool) (a:Heap) (C:Value->Heap->Prop):Prop:=
 IfB E
 (FnW wP Zmn ⟨[(vP (some ⟨e,0,none⟩))]⟩ a fun F y=>
 ∃f,∃g:Int,∃(h:Option Addr) (j i:Nat),∃k:Int,∃l:Int,∃m:Int,∃(n:Option Addr) (p o:Nat),∃(q:Option Addr) (s r:Nat),∃t:Int,∃u:Int,F=(vA ⟨[(vI wI f),(vI wI g),(vS h j i),(vI vU k),(vI wI l),(vI wI m),(vS n p o),(vS q s r),(vI wI t),(vI wI u)]⟩)∧
 NewW y (Obj.cells ⟨[(vI wI f),(vI wI g),(vS h j i),(vI vU k),(vI wI l),(vI wI m),(vS n p o),(vS q s r),(vI wI t),(vI wI u)]⟩ Zz) fun G z=>
 AppW wP #[Ziz,Ziz] Ziz [(vS b d c),(vS (some ⟨G,0,none⟩) 1 1)] z fun H A=>
 ∃v x w,H=vS v x w∧
 D ((v,x,w),()) A)
 (FnW wP Zgv ⟨[(vP (some ⟨e,0,none⟩)),(Value.string (ByteArray.mk #[125]))]⟩ a fun I B=>
 I=vT ⟨[]⟩∧
 C (vS b d c) B)
def Zbrn (a:Nat) (d:Option Addr) (f e:Nat) (b:Heap) (g:((Option Addr×Nat×Nat)×Unit)->Heap->Prop) (c:Value->Heap->Prop):Prop:=
 ∃i,b.cell ⟨a,3,none⟩=some (vB i)∧
 IfB (!i)
 (FnW wP Zqa ⟨[(vP (some ⟨a,0,none⟩)),(Value.string (ByteArray.mk #[125]))]⟩ b fun k j=>
 ∃h,k=vB h∧
 Zsp a d f e g (!h) j c)
 (Zsp a d f e g false b c)
def Zbro (e:Nat) (a:Heap) (c:Value->Heap->Prop):Prop:=
 Zct ((Option Addr×Nat×Nat)×Unit) ((none,0,0),()) a fun b a d=>∀f:Env,Zbrn e b.1.1 b.1.2.1 b.1.2.2 a d c
theorem Zcil (d:Nat) {a:Heap} {c:Value->Heap->Prop} (f:Zbro d a fun g e=>∀b,Shut a e b->c g b):FnW wP Zpx ⟨[(vP (some ⟨d,0,none⟩))]⟩ a c:=Zo Tryz.func47 ⟨[],[(2,[3],[.slice],[0])],[],[]⟩ (by kernel_rfl) (by kernel_rfl) f
def Zzb (e f h g:Nat) (c:Int) (b:(Int×Unit)->Heap->Prop) (a:Heap) (d:Value->Heap->Prop):Prop:=
 b ((vW wI (c+1)),()) a
def Zbri (g a c j:Nat) (k:Int) (i:Heap) (p:(Int×Unit)->Heap->Prop) (l:Value->Heap->Prop):Prop:=
 IfB (decide (k<(2:Int)))
 (InB k 2 fun x=>
 ∃y,i.cell ⟨j,0+x*2,none⟩=some (Value.string y)∧∃z,i.cell ⟨j,0+x*2+1,none⟩=some (vP z)∧NewW i (Obj.cells ⟨[(Value.string (ByteArray.mk #[])),(vP none)]⟩ Zlv) fun h L=>
 Za L ⟨h,0,none⟩ (Value.string y) fun M=>
 Za M ⟨h,1,none⟩ (vP z) fun n=>
 ∃A,n.cell ⟨h,0,none⟩=some (Value.string A)∧
 FnW wP Zfb ⟨[(vP (some ⟨g,0,none⟩)),(Value.string A)]⟩ n fun V f=>
 ∃B,V=vB B∧
 IfB B
 (∃m:List Nat,(∀b∈m,∃U,f b=some U)∧
 h∈m∧∃C,f.cell ⟨h,1,none⟩=some (vP C)∧
 FnW wP Zil ⟨[(vP (some ⟨g,0,none⟩)),(vI wI 1)]⟩ f fun a1 o=>
 ∃W,∃D:ByteArray,∃X:Int,∃Y:Int,∃Z:Int,∃a0:Int,a1=(vA ⟨[(vI wI W),(Value.string D),(vI wI X),(vI vU Y),(vI wI Z),(vI wI a0)]⟩)∧
 Zea m f o∧NilP C fun a2=>
 Za o a2 (Value.string D) fun N=>
 Zzb g a c j k p N l)
 (Zzb g a c j k p f l))
 (FnW wP Zgv ⟨[(vP (some ⟨g,0,none⟩)),(Value.string (ByteArray.mk #[59]))]⟩ i fun a3 d=>
 a3=vT ⟨[]⟩∧
 ∃E,d.cell ⟨c,0,none⟩=some (Value.string E)∧∃F,d.cell ⟨c,1,none⟩=some (vI vU F)∧∃G,d.cell ⟨c,2,none⟩=some (vI vU G)∧∃H,d.cell ⟨c,3,none⟩=some (vB H)∧∃I,d.cell ⟨c,4,none⟩=some (vI wI I)∧∃J,d.cell ⟨c,5,none⟩=some (Value.string J)∧∃K,d.cell ⟨c,6,none⟩=some (Value.string K)∧Za d ⟨a,0,none⟩ (Value.string E) fun O=>
 Za O ⟨a,1,none⟩ (vI vU F) fun P=>
 Za P ⟨a,2,none⟩ (vI vU G) fun Q=>
 Za Q ⟨a,3,none⟩ (vB H) fun R=>
 Za R ⟨a,4,none⟩ (vI wI I) fun S=>
 Za S ⟨a,5,none⟩ (Value.string J) fun T=>
 Za T ⟨a,6,none⟩ (Value.string K) fun e=>
 ∃q,e.cell ⟨a,0,none⟩=some (Value.string q)∧∃r,e.cell ⟨a,1,none⟩=some (vI vU r)∧∃s,e.cell ⟨a,2,none⟩=some (vI vU s)∧∃t,e.cell ⟨a,3,none⟩=some (vB t)∧∃u,e.cell ⟨a,4,none⟩=some (vI wI u)∧∃v,e.cell ⟨a,5,none⟩=some (Value.string v)∧∃w,e.cell ⟨a,6,none⟩=some (Value.string w)∧l (vA ⟨[(Value.string q),(vI vU r),(vI vU s),(vB t),(vI wI u),(Value.string v),(Value.string w)]⟩) e)
def Zza (g i a:Nat) (c:Heap) (e:Value->Heap->Prop):Prop:=
 NewW c (Obj.cells ⟨[(Value.string (ByteArray.mk #[105,110])),(vP (some ⟨a,5,none⟩)),(Value.string (ByteArray.mk #[111,117,116])),(vP (some ⟨a,6,none⟩))]⟩ Zlv) fun j d=>
 Zct (Int×Unit) (0,()) d fun h b f=>∀k:Env,Zbri g i a j h.1 b f e
def Zbrj (b:Nat) (l:Heap) (d:Value->Heap->Prop):Prop:=
 NewW l (Obj.cells ⟨[(Value.string (ByteArray.mk #[])),(vI vU 0),(vI vU 0),(vB false),(vI wI 0),(Value.string (ByteArray.mk #[])),(Value.string (ByteArray.mk #[]))]⟩ Zv) fun j m=>
 FnW wP Zil ⟨[(vP (some ⟨b,0,none⟩)),(vI wI 1)]⟩ m fun Q w=>
 ∃L,∃k:ByteArray,∃M:Int,∃N:Int,∃O:Int,∃P:Int,Q=(vA ⟨[(vI wI L),(Value.string k),(vI wI M),(vI vU N),(vI wI O),(vI wI P)]⟩)∧
 NewW w (Obj.cells ⟨[(Value.string (ByteArray.mk #[])),(vI vU 0),(vI vU 0),(vB false),(vI wI 0),(Value.string (ByteArray.mk #[])),(Value.string (ByteArray.mk #[]))]⟩ Zv) fun a y=>
 Za y ⟨a,0,none⟩ (Value.string k) fun z=>
 Za z ⟨a,1,none⟩ (vI vU 0) fun A=>
 Za A ⟨a,2,none⟩ (vI vU 0) fun B=>
 Za B ⟨a,3,none⟩ (vB false) fun C=>
 Za C ⟨a,4,none⟩ (vI wI 0) fun D=>
 Za D ⟨a,5,none⟩ (Value.string (ByteArray.mk #[])) fun E=>
 Za E ⟨a,6,none⟩ (Value.string (ByteArray.mk #[])) fun n=>
 FnW wP Zdl ⟨[(vP (some ⟨b,0,none⟩)),(vI wI 3)]⟩ n fun F o=>
 ∃e,F=vI wI e∧
 Za o ⟨a,1,none⟩ (vI vU (vW vU e)) fun p=>
 FnW wP Zgv ⟨[(vP (some ⟨b,0,none⟩)),(Value.string (ByteArray.mk #[97,115]))]⟩ p fun G q=>
 G=vT ⟨[]⟩∧
 FnW wP Zdl ⟨[(vP (some ⟨b,0,none⟩)),(vI wI 2)]⟩ q fun H r=>
 ∃f,H=vI wI f∧
 Za r ⟨a,2,none⟩ (vI vU (vW vU f)) fun s=>
 FnW wP Zfb ⟨[(vP (some ⟨b,0,none⟩)),(Value.string (ByteArray.mk #[119,97,105,116,115]))]⟩ s fun I t=>
 ∃g,I=vB g∧
 Za t ⟨a,3,none⟩ (vB g) fun u=>
 FnW wP Zfb ⟨[(vP (some ⟨b,0,none⟩)),(Value.string (ByteArray.mk #[109,97,120]))]⟩ u fun J c=>
 ∃h,J=vB h∧
 IfB h
 (FnW wP Zdl ⟨[(vP (some ⟨b,0,none⟩)),(vI wI 2)]⟩ c fun K v=>
 ∃i,K=vI wI i∧
 Za v ⟨a,4,none⟩ (vI wI i) fun x=>
 Zza b j a x d)
 (Zza b j a c d)
theorem Zcij (d:Nat) {a:Heap} {c:Value->Heap->Prop} (f:Zbrj d a fun g e=>∀b,Shut a e b->c g b):FnW wP Zbbf ⟨[(vP (some ⟨d,0,none⟩))]⟩ a c:=Zo Tryz.func48 ⟨[(12,[0,1,2,3,4,5,6],[43])],[(9,[34],[.int wI],[0,2,3,32,33])],[],[]⟩ (by kernel_rfl) (by kernel_rfl) f
def Zbqc (f:Nat) (e:Int) (b:Heap) (d:Value->Heap->Prop):Prop:=
 FnW wP Zil ⟨[(vP (some ⟨f,0,none⟩)),(vI wI e)]⟩ b fun l c=>
 ∃g,∃h:ByteArray,∃a:Int,∃i:Int,∃j:Int,∃k:Int,l=(vA ⟨[(vI wI g),(Value.string h),(vI wI a),(vI vU i),(vI wI j),(vI wI k)]⟩)∧
 d (vI wI a) c
theorem Zchg (e:Nat) (d:Int) {a:Heap} {c:Value->Heap->Prop} (g:Zbqc e d a fun h f=>∀b,Shut a f b->c h b):FnW wP Zdl ⟨[(vP (some ⟨e,0,none⟩)),(vI wI d)]⟩ a c:=Zo Tryz.func49 ⟨[],[],[],[]⟩ (by kernel_rfl) (by kernel_rfl) g
def Zbqt (c:Nat) (h:ByteArray) (f:Heap) (d:Value->Heap->Prop):Prop:=
 FnW wP Zqa ⟨[(vP (some ⟨c,0,none⟩)),(Value.string h)]⟩ f fun i b=>
 ∃a,i=vB a∧
 IfB a
 (∃e,b.cell ⟨c,1,none⟩=some (vI wI e)∧
 Za b ⟨c,1,none⟩ (vI wI (vW wI (e+1))) fun g=>
 d (vB a) g)
 (d (vB a) b)
theorem Zchu (d:Nat) (e:ByteArray) {a:Heap} {c:Value->Heap->Prop} (g:Zbqt d e a fun h f=>∀b,Shut a f b->c h b):FnW wP Zfb ⟨[(vP (some ⟨d,0,none⟩)),(Value.string e)]⟩ a c:=Zo Tryz.func85 ⟨[],[],[],[]⟩ (by kernel_rfl) (by kernel_rfl) g
def Zbss (b:Nat) (l:ByteArray) (a:Heap) (c:Value->Heap->Prop):Prop:=
 ∃k,a.cell ⟨b,3,none⟩=some (vB k)∧
 IfB (!k)
 (∃d,a.cell ⟨b,1,none⟩=some (vI wI d)∧
 ∃m e n,a.cell ⟨b,0,none⟩=some (vS m e n)∧
 IfB (decide (d<(e:Int)))
 (∃f g o,a.cell ⟨b,0,none⟩=some (vS f g o)∧
 ∃h,a.cell ⟨b,1,none⟩=some (vI wI h)∧
 NilP f fun q=>
 InB h g fun p=>
 elemAt q p 6 fun i=>
 ∃j,a.cell ⟨i.block,i.off+1,none⟩=some (Value.string j)∧
 c (vB (j.toList==l.toList)) a)
 (c (vB false) a))
 (c (vB false) a)
theorem Zcjm (d:Nat) (e:ByteArray) {a:Heap} {c:Value->Heap->Prop} (g:Zbss d e a fun h f=>∀b,Shut a f b->c h b):FnW wP Zqa ⟨[(vP (some ⟨d,0,none⟩)),(Value.string e)]⟩ a c:=Zo Tryz.func86 ⟨[],[],[],[]⟩ (by kernel_rfl) (by kernel_rfl) g
def Zzh (a d:Nat) (b:Heap) (T:Value->Heap->Prop):Prop:=
 ∃u,b.cell ⟨d,0,none⟩=some (vI wI u)∧∃v,b.cell ⟨d,1,none⟩=some (vI wI v)∧∃w y x,b.cell ⟨d,2,none⟩=some (vS w y x)∧∃z,b.cell ⟨d,3,none⟩=some (vI vU z)∧∃A,b.cell ⟨d,4,none⟩=some (vI wI A)∧∃B,b.cell ⟨d,5,none⟩=some (vI wI B)∧∃C E D,b.cell ⟨d,6,none⟩=some (vS C E D)∧∃F H G,b.cell ⟨d,7,none⟩=some (vS F H G)∧∃I,b.cell ⟨d,8,none⟩=some (vI wI I)∧∃J,b.cell ⟨d,9,none⟩=some (vI wI J)∧Za b ⟨a,0,none⟩ (vI wI u) fun K=>
 Za K ⟨a,1,none⟩ (vI wI v) fun L=>
 Za L ⟨a,2,none⟩ (vS w y x) fun M=>
 Za M ⟨a,3,none⟩ (vI vU z) fun N=>
 Za N ⟨a,4,none⟩ (vI wI A) fun O=>
 Za O ⟨a,5,none⟩ (vI wI B) fun P=>
 Za P ⟨a,6,none⟩ (vS C E D) fun Q=>
 Za Q ⟨a,7,none⟩ (vS F H G) fun R=>
 Za R ⟨a,8,none⟩ (vI wI I) fun S=>
 Za S ⟨a,9,none⟩ (vI wI J) fun c=>
 ∃e,c.cell ⟨a,0,none⟩=some (vI wI e)∧∃f,c.cell ⟨a,1,none⟩=some (vI wI f)∧∃g i h,c.cell ⟨a,2,none⟩=some (vS g i h)∧∃j,c.cell ⟨a,3,none⟩=some (vI vU j)∧∃k,c.cell ⟨a,4,none⟩=some (vI wI k)∧∃l,c.cell ⟨a,5,none⟩=some (vI wI l)∧∃m o n,c.cell ⟨a,6,none⟩=some (vS m o n)∧∃p r q,c.cell ⟨a,7,none⟩=some (vS p r q)∧∃s,c.cell ⟨a,8,none⟩=some (vI wI s)∧∃t,c.cell ⟨a,9,none⟩=some (vI wI t)∧T (vA ⟨[(vI wI e),(vI wI f),(vS g i h),(vI vU j),(vI wI k),(vI wI l),(vS m o n),(vS p r q),(vI wI s),(vI wI t)]⟩) c
def Zbts (a d:Nat) (b:Heap) (T:Value->Heap->Prop):Prop:=
 ∃u,b.cell ⟨d,0,none⟩=some (vI wI u)∧∃v,b.cell ⟨d,1,none⟩=some (vI wI v)∧∃w y x,b.cell ⟨d,2,none⟩=some (vS w y x)∧∃z,b.cell ⟨d,3,none⟩=some (vI vU z)∧∃A,b.cell ⟨d,4,none⟩=some (vI wI A)∧∃B,b.cell ⟨d,5,none⟩=some (vI wI B)∧∃C E D,b.cell ⟨d,6,none⟩=some (vS C E D)∧∃F H G,b.cell ⟨d,7,none⟩=some (vS F H G)∧∃I,b.cell ⟨d,8,none⟩=some (vI wI I)∧∃J,b.cell ⟨d,9,none⟩=some (vI wI J)∧Za b ⟨a,0,none⟩ (vI wI u) fun K=>
 Za K ⟨a,1,none⟩ (vI wI v) fun L=>
 Za L ⟨a,2,none⟩ (vS w y x) fun M=>
 Za M ⟨a,3,none⟩ (vI vU z) fun N=>
 Za N ⟨a,4,none⟩ (vI wI A) fun O=>
 Za O ⟨a,5,none⟩ (vI wI B) fun P=>
 Za P ⟨a,6,none⟩ (vS C E D) fun Q=>
 Za Q ⟨a,7,none⟩ (vS F H G) fun R=>
 Za R ⟨a,8,none⟩ (vI wI I) fun S=>
 Za S ⟨a,9,none⟩ (vI wI J) fun c=>
 ∃e,c.cell ⟨a,0,none⟩=some (vI wI e)∧∃f,c.cell ⟨a,1,none⟩=some (vI wI f)∧∃g i h,c.cell ⟨a,2,none⟩=some (vS g i h)∧∃j,c.cell ⟨a,3,none⟩=some (vI vU j)∧∃k,c.cell ⟨a,4,none⟩=some (vI wI k)∧∃l,c.cell ⟨a,5,none⟩=some (vI wI l)∧∃m o n,c.cell ⟨a,6,none⟩=some (vS m o n)∧∃p r q,c.cell ⟨a,7,none⟩=some (vS p r q)∧∃s,c.cell ⟨a,8,none⟩=some (vI wI s)∧∃t,c.cell ⟨a,9,none⟩=some (vI wI t)∧T (vA ⟨[(vI wI e),(vI wI f),(vS g i h),(vI vU j),(vI wI k),(vI wI l),(vS m o n),(vS p r q),(vI wI s),(vI wI t)]⟩) c
def Zkf (d f e:Nat) (a:Heap) (c:Value->Heap->Prop):Prop:=
 FnW wP Zgv ⟨[(vP (some ⟨d,0,none⟩)),(Value.string (ByteArray.mk #[59]))]⟩ a fun g b=>
 g=vT ⟨[]⟩∧
 Zbts f e b c
def Zkg (a e b:Nat) (j:Int) (k:Bool) (c:Heap) (d:Value->Heap->Prop):Prop:=
 IfB k
 (FnW wP Zdl ⟨[(vP (some ⟨a,0,none⟩)),(vI wI 5)]⟩ c fun l g=>
 ∃f,l=vI wI f∧
 Za g ⟨b,8,none⟩ (vI wI f) fun h=>
 Zkf a e b h d)
 (IfB (j==1)
 (Za c ⟨a,3,none⟩ (vB true) fun i=>
 Zkf a e b i d)
 (Zkf a e b c d))
def Zie (b f c:Nat) (a:Int) (j:Bool) (d:Heap) (e:Value->Heap->Prop):Prop:=
 IfB j
 (FnW wP Zdl ⟨[(vP (some ⟨b,0,none⟩)),(vI wI 2)]⟩ d fun k h=>
 ∃g,k=vI wI g∧
 Za h ⟨c,8,none⟩ (vI wI g) fun i=>
 Zkf b f c i e)
 (IfB (a==7)
 (Zkg b f c a (a==7) d e)
 (Zkg b f c a (a==8) d e))
def Zbtt (c:Nat) (B:Heap) (e:Value->Heap->Prop):Prop:=
 NewW B (Obj.cells ⟨[(vI wI 0),(vI wI 0),(vS none 0 0),(vI vU 0),(vI wI 0),(vI wI 0),(vS none 0 0),(vS none 0 0),(vI wI 0),(vI wI 0)]⟩ Zz) fun f C=>
 FnW wP Zfb ⟨[(vP (some ⟨c,0,none⟩)),(Value.string (ByteArray.mk #[105,102]))]⟩ C fun b6 i=>
 ∃t,b6=vB t∧
 IfB t
 (FnW wP Zmm ⟨[(vP (some ⟨c,0,none⟩))]⟩ i fun b7 M=>
 ∃u,∃(v:Option Addr) (x w:Nat),∃y:Int,∃z:Int,∃A:Int,b7=(vA ⟨[(vI wI u),(vS v x w),(vI vU y),(vI wI z),(vI wI A)]⟩)∧
 NewW M (Obj.cells ⟨[(vI wI 0),(vI wI 0),(vS none 0 0),(vI vU 0),(vI wI 0),(vI wI 0),(vS none 0 0),(vS none 0 0),(vI wI 0),(vI wI 0)]⟩ Zz) fun b W=>
 Za W ⟨b,0,none⟩ (vI wI 1) fun a4=>
 Za a4 ⟨b,1,none⟩ (vI wI u) fun a5=>
 Za a5 ⟨b,2,none⟩ (vS v x w) fun a6=>
 Za a6 ⟨b,3,none⟩ (vI vU y) fun a7=>
 Za a7 ⟨b,4,none⟩ (vI wI z) fun a8=>
 Za a8 ⟨b,5,none⟩ (vI wI A) fun D=>
 Za D ⟨b,6,none⟩ (vS none 0 0) fun E=>
 Za E ⟨b,7,none⟩ (vS none 0 0) fun F=>
 Za F ⟨b,8,none⟩ (vI wI 0) fun G=>
 Za G ⟨b,9,none⟩ (vI wI 0) fun H=>
 FnW wP Zqd ⟨[(vP (some ⟨c,0,none⟩))]⟩ H fun a9 I=>
 ∃j l k,a9=vS j l k∧
 Za I ⟨b,6,none⟩ (vS j l k) fun J=>
 FnW wP Zfb ⟨[(vP (some ⟨c,0,none⟩)),(Value.string (ByteArray.mk #[101,108,115,101]))]⟩ J fun b0 h=>
 ∃m,b0=vB m∧
 IfB m
 (FnW wP Zqd ⟨[(vP (some ⟨c,0,none⟩))]⟩ h fun b1 K=>
 ∃n p o,b1=vS n p o∧
 Za K ⟨b,7,none⟩ (vS n p o) fun L=>
 Zzh f b L e)
 (Zzh f b h e))
 (NewW i (Obj.cells ⟨[(Value.string (ByteArray.mk #[97,99,99,101,112,116])),(Value.string (ByteArray.mk #[114,101,106,101,99,116])),(Value.string (ByteArray.mk #[112,114,101,112,101,110,100])),(Value.string (ByteArray.mk #[108,111,99,97,108])),(Value.string (ByteArray.mk #[109,101,100])),(Value.string (ByteArray.mk #[97,100,100])),(Value.string (ByteArray.mk #[100,114,111,112])),(Value.string (ByteArray.mk #[99,108,101,97,114]))]⟩ Zcv) fun b2 N=>
 FnW wP Zkr ⟨[(vP (some ⟨c,0,none⟩)),(vS (some ⟨b2,0,none⟩) 8 8)]⟩ N fun b3 O=>
 ∃q,b3=vI wI q∧
 NewW O (Obj.cells ⟨[(vI wI 0),(vI wI 0),(vS none 0 0),(vI vU 0),(vI wI 0),(vI wI 0),(vS none 0 0),(vS none 0 0),(vI wI 0),(vI wI 0)]⟩ Zz) fun a P=>
 Za P ⟨a,0,none⟩ (vI wI (vW wI (2+q))) fun Q=>
 Za Q ⟨a,1,none⟩ (vI wI 0) fun R=>
 Za R ⟨a,2,none⟩ (vS none 0 0) fun S=>
 Za S ⟨a,3,none⟩ (vI vU 0) fun T=>
 Za T ⟨a,4,none⟩ (vI wI 0) fun U=>
 Za U ⟨a,5,none⟩ (vI wI 0) fun V=>
 Za V ⟨a,6,none⟩ (vS none 0 0) fun X=>
 Za X ⟨a,7,none⟩ (vS none 0 0) fun Y=>
 Za Y ⟨a,8,none⟩ (vI wI 0) fun Z=>
 Za Z ⟨a,9,none⟩ (vI wI 0) fun g=>
 ∃d,g.cell ⟨a,0,none⟩=some (vI wI d)∧
 IfB (d==4)
 (FnW wP Zdl ⟨[(vP (some ⟨c,0,none⟩)),(vI wI 2)]⟩ g fun b4 a0=>
 ∃r,b4=vI wI r∧
 Za a0 ⟨a,8,none⟩ (vI wI r) fun a1=>
 FnW wP Zdl ⟨[(vP (some ⟨c,0,none⟩)),(vI wI 2)]⟩ a1 fun b5 a2=>
 ∃s,b5=vI wI s∧
 Za a2 ⟨a,9,none⟩ (vI wI s) fun a3=>
 Zkf c f a a3 e)
 (IfB (d==5)
 (Zie c f a d (d==5) g e)
 (Zie c f a d (d==6) g e)))
theorem Zcko (d:Nat) {a:Heap} {c:Value->Heap->Prop} (f:Zbtt d a fun g e=>∀b,Shut a e b->c g b):FnW wP Zmn ⟨[(vP (some ⟨d,0,none⟩))]⟩ a c:=Zo Tryz.func87 ⟨[],[],[],[]⟩ (by kernel_rfl) (by kernel_rfl) f
def Zbsi (c:Nat) (r:Heap) (y:Value->Heap->Prop):Prop:=
 NewW r (Obj.cells ⟨[(vI wI 0),(vS none 0 0),(vI vU 0),(vI wI 0),(vI wI 0)]⟩ Zj) fun a s=>
 FnW wP Zur ⟨[(vP (some ⟨c,0,none⟩)),(vI wI 2),(Value.string (ByteArray.mk #[111,114])),(vF (.func Zbbr) #[(vP (some ⟨c,0,none⟩))] #[])]⟩ s fun z t=>
 ∃k,∃(l:Option Addr) (n m:Nat),∃o:Int,∃p:Int,∃q:Int,z=(vA ⟨[(vI wI k),(vS l n m),(vI vU o),(vI wI p),(vI wI q)]⟩)∧
 Za t ⟨a,0,none⟩ (vI wI k) fun u=>
 Za u ⟨a,1,none⟩ (vS l n m) fun v=>
 Za v ⟨a,2,none⟩ (vI vU o) fun w=>
 Za w ⟨a,3,none⟩ (vI wI p) fun x=>
 Za x ⟨a,4,none⟩ (vI wI q) fun b=>
 ∃d,b.cell ⟨a,0,none⟩=some (vI wI d)∧∃e g f,b.cell ⟨a,1,none⟩=some (vS e g f)∧∃h,b.cell ⟨a,2,none⟩=some (vI vU h)∧∃i,b.cell ⟨a,3,none⟩=some (vI wI i)∧∃j,b.cell ⟨a,4,none⟩=some (vI wI j)∧y (vA ⟨[(vI wI d),(vS e g f),(vI vU h),(vI wI i),(vI wI j)]⟩) b
theorem Zcjc (d:Nat) {a:Heap} {c:Value->Heap->Prop} (f:Zbsi d a fun g e=>∀b,Shut a e b->c g b):FnW wP Zmm ⟨[(vP (some ⟨d,0,none⟩))]⟩ a c:=Zo Tryz.func123 ⟨[],[],[],[]⟩ (by kernel_rfl) (by kernel_rfl) f
def Zbsx (a:Nat) (j:Heap) (d:Value->Heap->Prop):Prop:=
 FnW wP Zpz ⟨[(vP (some ⟨a,0,none⟩)),(Value.string (ByteArray.mk #[123]))]⟩ j fun n b=>
 ∃i,n=vB i∧
 IfB (!i)
 (Za b ⟨a,3,none⟩ (vB true) fun k=>
 d (vS none 0 0) k)
 (FnW wP Zpx ⟨[(vP (some ⟨a,0,none⟩))]⟩ b fun m c=>
 ∃e g f,m=vS e g f∧
 ∃h,c.cell ⟨a,2,none⟩=some (vI wI h)∧
 Za c ⟨a,2,none⟩ (vI wI (vW wI (h - 1))) fun l=>
 d (vS e g f) l)
theorem Zcjs (d:Nat) {a:Heap} {c:Value->Heap->Prop} (f:Zbsx d a fun g e=>∀b,Shut a e b->c g b):FnW wP Zqd ⟨[(vP (some ⟨d,0,none⟩))]⟩ a c:=Zo Tryz.func124 ⟨[],[],[],[]⟩ (by kernel_rfl) (by kernel_rfl) f
def Zbsn (a5:Nat) (a4:Int) (a1:ByteArray) (a2:FuncId) (a6:Value) (a:Nat) (g:Option Addr) (f i:Nat) (W:Heap) (a3:((Option Addr×Nat×Nat)×Unit)->Heap->Prop) (h:Value->Heap->Prop):Prop:=
 FnW wP Zfb ⟨[(vP (some ⟨a5,0,none⟩)),(Value.string a1)]⟩ W fun a7 c=>
 ∃x,a7=vB x∧
 IfB x
 (FnW wP a2 ⟨[a6]⟩ c fun a8 X=>
 ∃y,∃(z:Option Addr) (B A:Nat),∃C:Int,∃D:Int,∃E:Int,a8=(vA ⟨[(vI wI y),(vS z B A),(vI vU C),(vI wI D),(vI wI E)]⟩)∧
 NewW X (Obj.cells ⟨[(vI wI y),(vS z B A),(vI vU C),(vI wI D),(vI wI E)]⟩ Zj) fun a9 Y=>
 AppW wP #[Zgq,Zgq] Zgq [(vS g f i),(vS (some ⟨a9,0,none⟩) 1 1)] Y fun b0 Z=>
 ∃F H G,b0=vS F H G∧
 a3 ((F,H,G),()) Z)
 (IfB (((f:Int):Int)==1)
 (NilP g fun b2=>
 InB 0 f fun b1=>
 elemAt b2 b1 5 fun b=>
 ∃I,c.cell b=some (vI wI I)∧∃J L K,c.cell ⟨b.block,b.off+1,none⟩=some (vS J L K)∧∃M,c.cell ⟨b.block,b.off+2,none⟩=some (vI vU M)∧∃N,c.cell ⟨b.block,b.off+3,none⟩=some (vI wI N)∧∃O,c.cell ⟨b.block,b.off+4,none⟩=some (vI wI O)∧Za c ⟨a,0,none⟩ (vI wI I) fun a0=>
 Za a0 ⟨a,1,none⟩ (vS J L K) fun P=>
 Za P ⟨a,2,none⟩ (vI vU M) fun Q=>
 Za Q ⟨a,3,none⟩ (vI wI N) fun R=>
 Za R ⟨a,4,none⟩ (vI wI O) fun d=>
 ∃j,d.cell ⟨a,0,none⟩=some (vI wI j)∧∃l p n,d.cell ⟨a,1,none⟩=some (vS l p n)∧∃r,d.cell ⟨a,2,none⟩=some (vI vU r)∧∃t,d.cell ⟨a,3,none⟩=some (vI wI t)∧∃v,d.cell ⟨a,4,none⟩=some (vI wI v)∧h (vA ⟨[(vI wI j),(vS l p n),(vI vU r),(vI wI t),(vI wI v)]⟩) d)
 (Za c ⟨a,0,none⟩ (vI wI a4) fun S=>
 Za S ⟨a,1,none⟩ (vS g f i) fun T=>
 Za T ⟨a,2,none⟩ (vI vU 0) fun U=>
 Za U ⟨a,3,none⟩ (vI wI 0) fun V=>
 Za V ⟨a,4,none⟩ (vI wI 0) fun e=>
 ∃k,e.cell ⟨a,0,none⟩=some (vI wI k)∧∃m q o,e.cell ⟨a,1,none⟩=some (vS m q o)∧∃s,e.cell ⟨a,2,none⟩=some (vI vU s)∧∃u,e.cell ⟨a,3,none⟩=some (vI wI u)∧∃w,e.cell ⟨a,4,none⟩=some (vI wI w)∧h (vA ⟨[(vI wI k),(vS m q o),(vI vU s),(vI wI u),(vI wI w)]⟩) e))
def Zbso (s:Nat) (r:Int) (p:ByteArray) (c:FuncId) (d:Value) (a:Heap) (o:Value->Heap->Prop):Prop:=
 NewW a (Obj.cells ⟨[(vI wI 0),(vS none 0 0),(vI vU 0),(vI wI 0),(vI wI 0)]⟩ Zj) fun v l=>
 FnW wP c ⟨[d]⟩ l fun t m=>
 ∃e,∃(f:Option Addr) (h g:Nat),∃i:Int,∃j:Int,∃k:Int,t=(vA ⟨[(vI wI e),(vS f h g),(vI vU i),(vI wI j),(vI wI k)]⟩)∧
 NewW m (Obj.cells ⟨[(vI wI e),(vS f h g),(vI vU i),(vI wI j),(vI wI k)]⟩ Zj) fun u n=>
 Zct ((Option Addr×Nat×Nat)×Unit) (((some ⟨u,0,none⟩),1,1),()) n fun b a q=>∀w:Env,Zbsn s r p c d v b.1.1 b.1.2.1 b.1.2.2 a q o
theorem Zcjh (g:Nat) (f:Int) (d:ByteArray) (e:FuncId) (h:Value) {a:Heap} {c:Value->Heap->Prop} (j:Zbso g f d e h a fun k i=>∀b,Shut a i b->c k b):FnW wP Zur ⟨[(vP (some ⟨g,0,none⟩)),(vI wI f),(Value.string d),(vF (.func e) #[h] #[])]⟩ a c:=Zo Tryz.func148 ⟨[],[(2,[9],[.slice],[0,1,2,3,8])],[],[]⟩ (by kernel_rfl) (by kernel_rfl) j
def Zbtj (c:Nat) (r:Heap) (y:Value->Heap->Prop):Prop:=
 NewW r (Obj.cells ⟨[(vI wI 0),(vS none 0 0),(vI vU 0),(vI wI 0),(vI wI 0)]⟩ Zj) fun a s=>
 FnW wP Zur ⟨[(vP (some ⟨c,0,none⟩)),(vI wI 1),(Value.string (ByteArray.mk #[97,110,100])),(vF (.func Zmk) #[(vP (some ⟨c,0,none⟩))] #[])]⟩ s fun z t=>
 ∃k,∃(l:Option Addr) (n m:Nat),∃o:Int,∃p:Int,∃q:Int,z=(vA ⟨[(vI wI k),(vS l n m),(vI vU o),(vI wI p),(vI wI q)]⟩)∧
 Za t ⟨a,0,none⟩ (vI wI k) fun u=>
 Za u ⟨a,1,none⟩ (vS l n m) fun v=>
 Za v ⟨a,2,none⟩ (vI vU o) fun w=>
 Za w ⟨a,3,none⟩ (vI wI p) fun x=>
 Za x ⟨a,4,none⟩ (vI wI q) fun b=>
 ∃d,b.cell ⟨a,0,none⟩=some (vI wI d)∧∃e g f,b.cell ⟨a,1,none⟩=some (vS e g f)∧∃h,b.cell ⟨a,2,none⟩=some (vI vU h)∧∃i,b.cell ⟨a,3,none⟩=some (vI wI i)∧∃j,b.cell ⟨a,4,none⟩=some (vI wI j)∧y (vA ⟨[(vI wI d),(vS e g f),(vI vU h),(vI wI i),(vI wI j)]⟩) b
theorem Zcke (d:Nat) {a:Heap} {c:Value->Heap->Prop} (f:Zbtj d a fun g e=>∀b,Shut a e b->c g b):FnW wP Zbbr ⟨[(vP (some ⟨d,0,none⟩))]⟩ a c:=Zo Tryz.func149 ⟨[],[],[],[]⟩ (by kernel_rfl) (by kernel_rfl) f
def Zbsp (a:Nat) (l:ByteArray) (i:Heap) (c:Value->Heap->Prop):Prop:=
 FnW wP Zqa ⟨[(vP (some ⟨a,0,none⟩)),(Value.string l)]⟩ i fun m b=>
 ∃h,m=vB h∧
 IfB (!h)
 (c (vB false) b)
 (∃e,b.cell ⟨a,2,none⟩=some (vI wI e)∧
 IfB (e==24)
 (Za b ⟨a,3,none⟩ (vB true) fun j=>
 c (vB false) j)
 (∃f,b.cell ⟨a,1,none⟩=some (vI wI f)∧
 Za b ⟨a,1,none⟩ (vI wI (vW wI (f+1))) fun d=>
 ∃g,d.cell ⟨a,2,none⟩=some (vI wI g)∧
 Za d ⟨a,2,none⟩ (vI wI (vW wI (g+1))) fun k=>
 c (vB true) k))
theorem Zcji (d:Nat) (e:ByteArray) {a:Heap} {c:Value->Heap->Prop} (g:Zbsp d e a fun h f=>∀b,Shut a f b->c h b):FnW wP Zpz ⟨[(vP (some ⟨d,0,none⟩)),(Value.string e)]⟩ a c:=Zo Tryz.func150 ⟨[],[],[],[]⟩ (by kernel_rfl) (by kernel_rfl) g
def Zzd (f a d:Nat) (e:Heap) (z:Value->Heap->Prop):Prop:=
 ∃n,e.cell ⟨f,2,none⟩=some (vI wI n)∧
 Za e ⟨f,2,none⟩ (vI wI (vW wI (n - 1))) fun b=>
 ∃o,b.cell ⟨d,0,none⟩=some (vI wI o)∧∃p r q,b.cell ⟨d,1,none⟩=some (vS p r q)∧∃s,b.cell ⟨d,2,none⟩=some (vI vU s)∧∃t,b.cell ⟨d,3,none⟩=some (vI wI t)∧∃u,b.cell ⟨d,4,none⟩=some (vI wI u)∧Za b ⟨a,0,none⟩ (vI wI o) fun v=>
 Za v ⟨a,1,none⟩ (vS p r q) fun w=>
 Za w ⟨a,2,none⟩ (vI vU s) fun x=>
 Za x ⟨a,3,none⟩ (vI wI t) fun y=>
 Za y ⟨a,4,none⟩ (vI wI u) fun c=>
 ∃g,c.cell ⟨a,0,none⟩=some (vI wI g)∧∃h j i,c.cell ⟨a,1,none⟩=some (vS h j i)∧∃k,c.cell ⟨a,2,none⟩=some (vI vU k)∧∃l,c.cell ⟨a,3,none⟩=some (vI wI l)∧∃m,c.cell ⟨a,4,none⟩=some (vI wI m)∧z (vA ⟨[(vI wI g),(vS h j i),(vI vU k),(vI wI l),(vI wI m)]⟩) c
def Zbsb (c:Nat) (L:Heap) (e:Value->Heap->Prop):Prop:=
 NewW L (Obj.cells ⟨[(vI wI 0),(vS none 0 0),(vI vU 0),(vI wI 0),(vI wI 0)]⟩ Zj) fun b M=>
 NewW M (Obj.cells ⟨[(vI wI 0),(vS none 0 0),(vI vU 0),(vI wI 0),(vI wI 0)]⟩ Zj) fun a P=>
 FnW wP Zpz ⟨[(vP (some ⟨c,0,none⟩)),(Value.string (ByteArray.mk #[110,111,116]))]⟩ P fun b1 g=>
 ∃D,b1=vB D∧
 IfB D
 (FnW wP Zmk ⟨[(vP (some ⟨c,0,none⟩))]⟩ g fun b2 a1=>
 ∃E,∃(F:Option Addr) (H G:Nat),∃I:Int,∃J:Int,∃K:Int,b2=(vA ⟨[(vI wI E),(vS F H G),(vI vU I),(vI wI J),(vI wI K)]⟩)∧
 NewW a1 (Obj.cells ⟨[(vI wI E),(vS F H G),(vI vU I),(vI wI J),(vI wI K)]⟩ Zj) fun b3 a2=>
 Za a2 ⟨a,0,none⟩ (vI wI 3) fun a3=>
 Za a3 ⟨a,1,none⟩ (vS (some ⟨b3,0,none⟩) 1 1) fun a4=>
 Za a4 ⟨a,2,none⟩ (vI vU 0) fun a5=>
 Za a5 ⟨a,3,none⟩ (vI wI 0) fun a6=>
 Za a6 ⟨a,4,none⟩ (vI wI 0) fun N=>
 Zzd c b a N e)
 (FnW wP Zpz ⟨[(vP (some ⟨c,0,none⟩)),(Value.string (ByteArray.mk #[40]))]⟩ g fun a7 f=>
 ∃o,a7=vB o∧
 IfB o
 (FnW wP Zmm ⟨[(vP (some ⟨c,0,none⟩))]⟩ f fun a8 O=>
 ∃p,∃(q:Option Addr) (s r:Nat),∃t:Int,∃u:Int,∃v:Int,a8=(vA ⟨[(vI wI p),(vS q s r),(vI vU t),(vI wI u),(vI wI v)]⟩)∧
 Za O ⟨a,0,none⟩ (vI wI p) fun Q=>
 Za Q ⟨a,1,none⟩ (vS q s r) fun R=>
 Za R ⟨a,2,none⟩ (vI vU t) fun S=>
 Za S ⟨a,3,none⟩ (vI wI u) fun T=>
 Za T ⟨a,4,none⟩ (vI wI v) fun U=>
 FnW wP Zgv ⟨[(vP (some ⟨c,0,none⟩)),(Value.string (ByteArray.mk #[41]))]⟩ U fun a9 V=>
 a9=vT ⟨[]⟩∧
 Zzd c b a V e)
 (FnW wP Zbbj ⟨[(vP (some ⟨c,0,none⟩))]⟩ f fun b0 W=>
 ∃w,∃(x:Option Addr) (z y:Nat),∃A:Int,∃B:Int,∃C:Int,b0=(vA ⟨[(vI wI w),(vS x z y),(vI vU A),(vI wI B),(vI wI C)]⟩)∧
 Za W ⟨b,0,none⟩ (vI wI w) fun X=>
 Za X ⟨b,1,none⟩ (vS x z y) fun Y=>
 Za Y ⟨b,2,none⟩ (vI vU A) fun Z=>
 Za Z ⟨b,3,none⟩ (vI wI B) fun a0=>
 Za a0 ⟨b,4,none⟩ (vI wI C) fun d=>
 ∃h,d.cell ⟨b,0,none⟩=some (vI wI h)∧∃i k j,d.cell ⟨b,1,none⟩=some (vS i k j)∧∃l,d.cell ⟨b,2,none⟩=some (vI vU l)∧∃m,d.cell ⟨b,3,none⟩=some (vI wI m)∧∃n,d.cell ⟨b,4,none⟩=some (vI wI n)∧e (vA ⟨[(vI wI h),(vS i k j),(vI vU l),(vI wI m),(vI wI n)]⟩) d))
theorem Zciw (d:Nat) {a:Heap} {c:Value->Heap->Prop} (f:Zbsb d a fun g e=>∀b,Shut a e b->c g b):FnW wP Zmk ⟨[(vP (some ⟨d,0,none⟩))]⟩ a c:=Zo Tryz.func174 ⟨[],[],[],[]⟩ (by kernel_rfl) (by kernel_rfl) f
def Zsu (q a:Nat) (j:Heap) (p:Value->Heap->Prop):Prop:=
 Za j ⟨q,3,none⟩ (vB true) fun k=>
 Za k ⟨a,0,none⟩ (vI wI 0) fun l=>
 Za l ⟨a,1,none⟩ (vS none 0 0) fun m=>
 Za m ⟨a,2,none⟩ (vI vU 0) fun n=>
 Za n ⟨a,3,none⟩ (vI wI 0) fun o=>
 Za o ⟨a,4,none⟩ (vI wI 0) fun b=>
 ∃c,b.cell ⟨a,0,none⟩=some (vI wI c)∧∃d f e,b.cell ⟨a,1,none⟩=some (vS d f e)∧∃g,b.cell ⟨a,2,none⟩=some (vI vU g)∧∃h,b.cell ⟨a,3,none⟩=some (vI wI h)∧∃i,b.cell ⟨a,4,none⟩=some (vI wI i)∧p (vA ⟨[(vI wI c),(vS d f e),(vI vU g),(vI wI h),(vI wI i)]⟩) b
def Zbsg (b:Nat) (a7:Heap) (c:Value->Heap->Prop):Prop:=
 NewW a7 (Obj.cells ⟨[(vI wI 0),(vS none 0 0),(vI vU 0),(vI wI 0),(vI wI 0)]⟩ Zj) fun a a8=>
 NewW a8 (Obj.cells ⟨[(Value.string (ByteArray.mk #[112,114,101,102,105,120])),(Value.string (ByteArray.mk #[112,97,116,104])),(Value.string (ByteArray.mk #[99,111,109,109,117,110,105,116,121])),(Value.string (ByteArray.mk #[111,114,105,103,105,110])),(Value.string (ByteArray.mk #[109,101,100]))]⟩ Zcv) fun e6 b5=>
 FnW wP Zkr ⟨[(vP (some ⟨b,0,none⟩)),(vS (some ⟨e6,0,none⟩) 5 5)]⟩ b5 fun e7 e=>
 ∃j,e7=vI wI j∧
 IfB (j==0)
 (FnW wP Zbbm ⟨[(vP (some ⟨b,0,none⟩))]⟩ e fun d7 c8=>
 ∃X,∃(Y:Option Addr) (a0 Z:Nat),∃a1:Int,∃a2:Int,∃a3:Int,d7=(vA ⟨[(vI wI X),(vS Y a0 Z),(vI vU a1),(vI wI a2),(vI wI a3)]⟩)∧
 Za c8 ⟨a,0,none⟩ (vI wI X) fun d3=>
 Za d3 ⟨a,1,none⟩ (vS Y a0 Z) fun d4=>
 Za d4 ⟨a,2,none⟩ (vI vU a1) fun d5=>
 Za d5 ⟨a,3,none⟩ (vI wI a2) fun d6=>
 Za d6 ⟨a,4,none⟩ (vI wI a3) fun i=>
 ∃o,i.cell ⟨a,0,none⟩=some (vI wI o)∧∃t D y,i.cell ⟨a,1,none⟩=some (vS t D y)∧∃I,i.cell ⟨a,2,none⟩=some (vI vU I)∧∃N,i.cell ⟨a,3,none⟩=some (vI wI N)∧∃S,i.cell ⟨a,4,none⟩=some (vI wI S)∧c (vA ⟨[(vI wI o),(vS t D y),(vI vU I),(vI wI N),(vI wI S)]⟩) i)
 (IfB (j==1)
 (NewW e (Obj.cells ⟨[(Value.string (ByteArray.mk #[104,97,115])),(Value.string (ByteArray.mk #[102,114,111,109])),(Value.string (ByteArray.mk #[111,114,105,103,105,110])),(Value.string (ByteArray.mk #[108,111,110,103,101,114]))]⟩ Zcv) fun d8 a9=>
 FnW wP Zkr ⟨[(vP (some ⟨b,0,none⟩)),(vS (some ⟨d8,0,none⟩) 4 4)]⟩ a9 fun d9 m=>
 ∃k,d9=vI wI k∧
 IfB (decide (k≥0))
 (FnW wP Zdl ⟨[(vP (some ⟨b,0,none⟩)),(vI wI 2)]⟩ m fun e0 b0=>
 ∃a4,e0=vI wI a4∧
 Za b0 ⟨a,0,none⟩ (vI wI (vW wI (6+k))) fun b1=>
 Za b1 ⟨a,1,none⟩ (vS none 0 0) fun b2=>
 Za b2 ⟨a,2,none⟩ (vI vU 0) fun b3=>
 Za b3 ⟨a,3,none⟩ (vI wI 0) fun b4=>
 Za b4 ⟨a,4,none⟩ (vI wI a4) fun d=>
 ∃p,d.cell ⟨a,0,none⟩=some (vI wI p)∧∃u E z,d.cell ⟨a,1,none⟩=some (vS u E z)∧∃J,d.cell ⟨a,2,none⟩=some (vI vU J)∧∃O,d.cell ⟨a,3,none⟩=some (vI wI O)∧∃T,d.cell ⟨a,4,none⟩=some (vI wI T)∧c (vA ⟨[(vI wI p),(vS u E z),(vI vU J),(vI wI O),(vI wI T)]⟩) d)
 (Zsu b a m c))
 (IfB (j==2)
 (FnW wP Zdl ⟨[(vP (some ⟨b,0,none⟩)),(vI wI 5)]⟩ e fun e1 b6=>
 ∃a5,e1=vI wI a5∧
 Za b6 ⟨a,0,none⟩ (vI wI 10) fun b7=>
 Za b7 ⟨a,1,none⟩ (vS none 0 0) fun b8=>
 Za b8 ⟨a,2,none⟩ (vI vU 0) fun b9=>
 Za b9 ⟨a,3,none⟩ (vI wI 0) fun c0=>
 Za c0 ⟨a,4,none⟩ (vI wI a5) fun f=>
 ∃q,f.cell ⟨a,0,none⟩=some (vI wI q)∧∃v F A,f.cell ⟨a,1,none⟩=some (vS v F A)∧∃K,f.cell ⟨a,2,none⟩=some (vI vU K)∧∃P,f.cell ⟨a,3,none⟩=some (vI wI P)∧∃U,f.cell ⟨a,4,none⟩=some (vI wI U)∧c (vA ⟨[(vI wI q),(vS v F A),(vI vU K),(vI wI P),(vI wI U)]⟩) f)
 (IfB (j==3)
 (NewW e (Obj.cells ⟨[(Value.string (ByteArray.mk #[105,110,110,101,114])),(Value.string (ByteArray.mk #[111,117,116,101,114])),(Value.string (ByteArray.mk #[117,110,107,110,111,119,110]))]⟩ Zcv) fun e2 c1=>
 FnW wP Zkr ⟨[(vP (some ⟨b,0,none⟩)),(vS (some ⟨e2,0,none⟩) 3 3)]⟩ c1 fun e3 n=>
 ∃l,e3=vI wI l∧
 IfB (decide (l≥0))
 (Za n ⟨a,0,none⟩ (vI wI 11) fun c2=>
 Za c2 ⟨a,1,none⟩ (vS none 0 0) fun c3=>
 Za c3 ⟨a,2,none⟩ (vI vU 0) fun c4=>
 Za c4 ⟨a,3,none⟩ (vI wI 0) fun c5=>
 Za c5 ⟨a,4,none⟩ (vI wI l) fun g=>
 ∃r,g.cell ⟨a,0,none⟩=some (vI wI r)∧∃w G B,g.cell ⟨a,1,none⟩=some (vS w G B)∧∃L,g.cell ⟨a,2,none⟩=some (vI vU L)∧∃Q,g.cell ⟨a,3,none⟩=some (vI wI Q)∧∃V,g.cell ⟨a,4,none⟩=some (vI wI V)∧c (vA ⟨[(vI wI r),(vS w G B),(vI vU L),(vI wI Q),(vI wI V)]⟩) g)
 (Zsu b a n c))
 (IfB (j==4)
 (FnW wP Zgv ⟨[(vP (some ⟨b,0,none⟩)),(Value.string (ByteArray.mk #[97,98,111,118,101]))]⟩ e fun e4 c6=>
 e4=vT ⟨[]⟩∧
 FnW wP Zdl ⟨[(vP (some ⟨b,0,none⟩)),(vI wI 2)]⟩ c6 fun e5 c7=>
 ∃a6,e5=vI wI a6∧
 Za c7 ⟨a,0,none⟩ (vI wI 12) fun c9=>
 Za c9 ⟨a,1,none⟩ (vS none 0 0) fun d0=>
 Za d0 ⟨a,2,none⟩ (vI vU 0) fun d1=>
 Za d1 ⟨a,3,none⟩ (vI wI 0) fun d2=>
 Za d2 ⟨a,4,none⟩ (vI wI a6) fun h=>
 ∃s,h.cell ⟨a,0,none⟩=some (vI wI s)∧∃x H C,h.cell ⟨a,1,none⟩=some (vS x H C)∧∃M,h.cell ⟨a,2,none⟩=some (vI vU M)∧∃R,h.cell ⟨a,3,none⟩=some (vI wI R)∧∃W,h.cell ⟨a,4,none⟩=some (vI wI W)∧c (vA ⟨[(vI wI s),(vS x H C),(vI vU M),(vI wI R),(vI wI W)]⟩) h)
 (Zsu b a e c)))))
theorem Zcja (d:Nat) {a:Heap} {c:Value->Heap->Prop} (f:Zbsg d a fun g e=>∀b,Shut a e b->c g b):FnW wP Zbbj ⟨[(vP (some ⟨d,0,none⟩))]⟩ a c:=Zo Tryz.func185 ⟨[],[],[],[]⟩ (by kernel_rfl) (by kernel_rfl) f
def Zzg (a d:Nat) (b:Heap) (w:Value->Heap->Prop):Prop:=
 ∃l,b.cell ⟨d,0,none⟩=some (vI wI l)∧∃m o n,b.cell ⟨d,1,none⟩=some (vS m o n)∧∃p,b.cell ⟨d,2,none⟩=some (vI vU p)∧∃q,b.cell ⟨d,3,none⟩=some (vI wI q)∧∃r,b.cell ⟨d,4,none⟩=some (vI wI r)∧Za b ⟨a,0,none⟩ (vI wI l) fun s=>
 Za s ⟨a,1,none⟩ (vS m o n) fun t=>
 Za t ⟨a,2,none⟩ (vI vU p) fun u=>
 Za u ⟨a,3,none⟩ (vI wI q) fun v=>
 Za v ⟨a,4,none⟩ (vI wI r) fun c=>
 ∃e,c.cell ⟨a,0,none⟩=some (vI wI e)∧∃f h g,c.cell ⟨a,1,none⟩=some (vS f h g)∧∃i,c.cell ⟨a,2,none⟩=some (vI vU i)∧∃j,c.cell ⟨a,3,none⟩=some (vI wI j)∧∃k,c.cell ⟨a,4,none⟩=some (vI wI k)∧w (vA ⟨[(vI wI e),(vS f h g),(vI vU i),(vI wI j),(vI wI k)]⟩) c
def Zbsr (e:Nat) (D:Heap) (f:Value->Heap->Prop):Prop:=
 NewW D (Obj.cells ⟨[(vI wI 0),(vS none 0 0),(vI vU 0),(vI wI 0),(vI wI 0)]⟩ Zj) fun b E=>
 NewW E (Obj.cells ⟨[(vI wI 0),(vS none 0 0),(vI vU 0),(vI wI 0),(vI wI 0)]⟩ Zj) fun a N=>
 Za N ⟨a,0,none⟩ (vI wI 5) fun U=>
 Za U ⟨a,1,none⟩ (vS none 0 0) fun V=>
 Za V ⟨a,2,none⟩ (vI vU 0) fun W=>
 Za W ⟨a,3,none⟩ (vI wI 0) fun X=>
 Za X ⟨a,4,none⟩ (vI wI 0) fun Y=>
 FnW wP Zfb ⟨[(vP (some ⟨e,0,none⟩)),(Value.string (ByteArray.mk #[105,115]))]⟩ Y fun a8 h=>
 ∃A,a8=vB A∧
 IfB A
 (FnW wP Zil ⟨[(vP (some ⟨e,0,none⟩)),(vI wI 4)]⟩ h fun b3 Z=>
 ∃a9,∃b0:ByteArray,∃b1:Int,∃B:Int,∃C:Int,∃b2:Int,b3=(vA ⟨[(vI wI a9),(Value.string b0),(vI wI b1),(vI vU B),(vI wI C),(vI wI b2)]⟩)∧
 Za Z ⟨a,2,none⟩ (vI vU B) fun F=>
 Za F ⟨a,3,none⟩ (vI wI C) fun c=>
 ∃p,c.cell ⟨a,0,none⟩=some (vI wI p)∧∃q s r,c.cell ⟨a,1,none⟩=some (vS q s r)∧∃t,c.cell ⟨a,2,none⟩=some (vI vU t)∧∃u,c.cell ⟨a,3,none⟩=some (vI wI u)∧∃v,c.cell ⟨a,4,none⟩=some (vI wI v)∧Za c ⟨b,0,none⟩ (vI wI p) fun G=>
 Za G ⟨b,1,none⟩ (vS q s r) fun H=>
 Za H ⟨b,2,none⟩ (vI vU t) fun I=>
 Za I ⟨b,3,none⟩ (vI wI u) fun J=>
 Za J ⟨b,4,none⟩ (vI wI v) fun d=>
 ∃i,d.cell ⟨b,0,none⟩=some (vI wI i)∧∃j l k,d.cell ⟨b,1,none⟩=some (vS j l k)∧∃m,d.cell ⟨b,2,none⟩=some (vI vU m)∧∃n,d.cell ⟨b,3,none⟩=some (vI wI n)∧∃o,d.cell ⟨b,4,none⟩=some (vI wI o)∧f (vA ⟨[(vI wI i),(vS j l k),(vI vU m),(vI wI n),(vI wI o)]⟩) d)
 (FnW wP Zgv ⟨[(vP (some ⟨e,0,none⟩)),(Value.string (ByteArray.mk #[105,110]))]⟩ h fun a0 K=>
 a0=vT ⟨[]⟩∧
 FnW wP Zil ⟨[(vP (some ⟨e,0,none⟩)),(vI wI 4)]⟩ K fun a5 L=>
 ∃a1,∃a2:ByteArray,∃a3:Int,∃w:Int,∃x:Int,∃a4:Int,a5=(vA ⟨[(vI wI a1),(Value.string a2),(vI wI a3),(vI vU w),(vI wI x),(vI wI a4)]⟩)∧
 Za L ⟨a,0,none⟩ (vI wI 4) fun M=>
 Za M ⟨a,1,none⟩ (vS none 0 0) fun O=>
 Za O ⟨a,2,none⟩ (vI vU w) fun P=>
 Za P ⟨a,3,none⟩ (vI wI x) fun Q=>
 Za Q ⟨a,4,none⟩ (vI wI 32) fun R=>
 FnW wP Zfb ⟨[(vP (some ⟨e,0,none⟩)),(Value.string (ByteArray.mk #[108,101]))]⟩ R fun a6 g=>
 ∃y,a6=vB y∧
 IfB y
 (FnW wP Zdl ⟨[(vP (some ⟨e,0,none⟩)),(vI wI 2)]⟩ g fun a7 S=>
 ∃z,a7=vI wI z∧
 Za S ⟨a,4,none⟩ (vI wI z) fun T=>
 Zzg b a T f)
 (Zzg b a g f))
theorem Zcjl (d:Nat) {a:Heap} {c:Value->Heap->Prop} (f:Zbsr d a fun g e=>∀b,Shut a e b->c g b):FnW wP Zbbm ⟨[(vP (some ⟨d,0,none⟩))]⟩ a c:=Zo Tryz.func189 ⟨[],[],[],[]⟩ (by kernel_rfl) (by kernel_rfl) f
end Go.Proofs.YtlkdgfolbllngaaGreatDoor
end
section
set_option maxRecDepth 100000
namespace Go.Proofs.YtlkdgfolbllngaaGreatDoor
open Go.Sh
open Value renaming int -> vI, slice -> vS, pointer -> vP, bool -> vB, tuple -> vT, agg -> vA, func -> vF
open IntKind renaming wrap -> vW, i64 -> wI, u32 -> vU
open Go.Proofs.Tryz renaming prog -> wP
def Zbsj (c4:ByteArray) (a4:Heap) (e:Value->Heap->Prop):Prop:=
 FnW wP Zbbs ⟨[(Value.string c4)]⟩ a4 fun c5 a5=>
 ∃f,c5=Value.string f∧
 FnW wP Zuq ⟨[(Value.string f)]⟩ a5 fun c6 b5=>
 ∃g,∃h:Int,∃i:Int,∃j:Int,∃k:Int,∃(l:Option Addr) (n m:Nat),∃(o:Option Addr) (q p:Nat),∃r:Int,∃s:Int,c6=(vT ⟨[(vA ⟨[(vI vU g),(vI vU h),(vI wI i),(vI wI j),(vI wI k),(vS l n m),(vS o q p)]⟩),(vI wI r),(vI wI s)]⟩)∧
 NewW b5 (Obj.cells ⟨[(vI vU 0),(vI vU 0),(vI wI 0),(vI wI 0),(vI wI 0),(vS none 0 0),(vS none 0 0)]⟩ Zcj) fun b b7=>
 Za b7 ⟨b,0,none⟩ (vI vU g) fun b8=>
 Za b8 ⟨b,1,none⟩ (vI vU h) fun b9=>
 Za b9 ⟨b,2,none⟩ (vI wI i) fun c0=>
 Za c0 ⟨b,3,none⟩ (vI wI j) fun c1=>
 Za c1 ⟨b,4,none⟩ (vI wI k) fun c2=>
 Za c2 ⟨b,5,none⟩ (vS l n m) fun c3=>
 Za c3 ⟨b,6,none⟩ (vS o q p) fun a6=>
 FnW wP Zbbg ⟨[(Value.string f)]⟩ a6 fun c7 a7=>
 ∃t,∃u:Int,∃v:Int,∃w:Int,∃x:Int,∃(y:Option Addr) (A z:Nat),∃(B:Option Addr) (D C:Nat),∃E:Int,∃F:Int,c7=(vT ⟨[(vA ⟨[(vI vU t),(vI vU u),(vI wI v),(vI wI w),(vI wI x),(vS y A z),(vS B D C)]⟩),(vI wI E),(vI wI F)]⟩)∧
 NewW a7 (Obj.cells ⟨[(vI vU 0),(vI vU 0),(vI wI 0),(vI wI 0),(vI wI 0),(vS none 0 0),(vS none 0 0)]⟩ Zcj) fun c a8=>
 Za a8 ⟨c,0,none⟩ (vI vU t) fun a9=>
 Za a9 ⟨c,1,none⟩ (vI vU u) fun b0=>
 Za b0 ⟨c,2,none⟩ (vI wI v) fun b1=>
 Za b1 ⟨c,3,none⟩ (vI wI w) fun b2=>
 Za b2 ⟨c,4,none⟩ (vI wI x) fun b3=>
 Za b3 ⟨c,5,none⟩ (vS y A z) fun b4=>
 Za b4 ⟨c,6,none⟩ (vS B D C) fun a=>
 ∃G,a.cell ⟨b,0,none⟩=some (vI vU G)∧∃H,a.cell ⟨b,1,none⟩=some (vI vU H)∧∃I,a.cell ⟨b,2,none⟩=some (vI wI I)∧∃J,a.cell ⟨b,3,none⟩=some (vI wI J)∧∃K,a.cell ⟨b,4,none⟩=some (vI wI K)∧∃L N M,a.cell ⟨b,5,none⟩=some (vS L N M)∧∃O Q P,a.cell ⟨b,6,none⟩=some (vS O Q P)∧∃R,a.cell ⟨c,0,none⟩=some (vI vU R)∧∃S,a.cell ⟨c,1,none⟩=some (vI vU S)∧∃T,a.cell ⟨c,2,none⟩=some (vI wI T)∧∃U,a.cell ⟨c,3,none⟩=some (vI wI U)∧∃V,a.cell ⟨c,4,none⟩=some (vI wI V)∧∃W Y X,a.cell ⟨c,5,none⟩=some (vS W Y X)∧∃Z a1 a0,a.cell ⟨c,6,none⟩=some (vS Z a1 a0)∧FnW wP Zbbd ⟨[(vA ⟨[(vI vU G),(vI vU H),(vI wI I),(vI wI J),(vI wI K),(vS L N M),(vS O Q P)]⟩),(vA ⟨[(vI vU R),(vI vU S),(vI wI T),(vI wI U),(vI wI V),(vS W Y X),(vS Z a1 a0)]⟩)]⟩ a fun c8 d=>
 ∃a2,c8=vB a2∧
 IfB a2
 (IfB (r==E)
 (IfB (s==F)
 (FnW wP Zbbt ⟨[]⟩ d fun c9 b6=>
 ∃a3,c9=vB a3∧
 e (vB a3) b6)
 (e (vB false) d))
 (e (vB false) d))
 (e (vB false) d)
theorem Zcjf (d:ByteArray) {a:Heap} {c:Value->Heap->Prop} (f:Zbsj d a fun g e=>∀b,Shut a e b->c g b):FnW wP Zbbk ⟨[(Value.string d)]⟩ a c:=Zo Tryz.func3 ⟨[],[],[],[]⟩ (by kernel_rfl) (by kernel_rfl) f
def Zbtn (a:ByteArray) (b:Heap) (c:Value->Heap->Prop):Prop:=
 IfB (decide (((a.size:Int):Int)>65536))
 (InC 65537 a.size fun e=>
 c (Value.string (ByteArray.extract a 0 e)) b)
 (InC (min (a.size:Int) 1500) a.size fun d=>
 c (Value.string (ByteArray.extract a 0 d)) b)
theorem Zcki (d:ByteArray) {a:Heap} {c:Value->Heap->Prop} (f:Zbtn d a fun g e=>∀b,Shut a e b->c g b):FnW wP Zbbs ⟨[(Value.string d)]⟩ a c:=Zo Tryz.func6 ⟨[],[],[],[]⟩ (by kernel_rfl) (by kernel_rfl) f
def Zsr (a:Nat) (c8:Option Addr) (k d3 i g:Nat) (c6:(Unit)->Heap->Prop) (c9:Bool) (c:Heap) (j:Value->Heap->Prop):Prop:=
 IfB c9
 (FnW wP Zbbi ⟨[(vP (some ⟨i,0,none⟩)),(vP (some ⟨g,0,none⟩))]⟩ c fun d0 a7=>
 d0=vT ⟨[]⟩∧
 c6 () a7)
 (∃T,c.cell ⟨i,3,none⟩=some (vB T)∧
 IfB (!T)
 (∃U,c.cell ⟨g,0,none⟩=some (vI vU U)∧∃V,c.cell ⟨g,1,none⟩=some (vI vU V)∧∃W,c.cell ⟨g,2,none⟩=some (vI wI W)∧∃X,c.cell ⟨g,3,none⟩=some (vI wI X)∧∃Y,c.cell ⟨g,4,none⟩=some (vI wI Y)∧∃Z a1 a0,c.cell ⟨g,5,none⟩=some (vS Z a1 a0)∧∃a2 a4 a3,c.cell ⟨g,6,none⟩=some (vS a2 a4 a3)∧Za c ⟨a,0,none⟩ (vI vU U) fun a8=>
 Za a8 ⟨a,1,none⟩ (vI vU V) fun a9=>
 Za a9 ⟨a,2,none⟩ (vI wI W) fun b0=>
 Za b0 ⟨a,3,none⟩ (vI wI X) fun b1=>
 Za b1 ⟨a,4,none⟩ (vI wI Y) fun b2=>
 Za b2 ⟨a,5,none⟩ (vS Z a1 a0) fun b3=>
 Za b3 ⟨a,6,none⟩ (vS a2 a4 a3) fun e=>
 ∃m,e.cell ⟨a,0,none⟩=some (vI vU m)∧∃p,e.cell ⟨a,1,none⟩=some (vI vU p)∧∃s,e.cell ⟨a,2,none⟩=some (vI wI s)∧∃v,e.cell ⟨a,3,none⟩=some (vI wI v)∧∃y,e.cell ⟨a,4,none⟩=some (vI wI y)∧∃B H E,e.cell ⟨a,5,none⟩=some (vS B H E)∧∃K Q N,e.cell ⟨a,6,none⟩=some (vS K Q N)∧j (vT ⟨[(vA ⟨[(vI vU m),(vI vU p),(vI wI s),(vI wI v),(vI wI y),(vS B H E),(vS K Q N)]⟩),(vI wI 0),(vI wI 0)]⟩) e)
 (IfB (((k:Int):Int)==0)
 (Za c ⟨a,0,none⟩ (vI vU 0) fun b4=>
 Za b4 ⟨a,1,none⟩ (vI vU 0) fun b5=>
 Za b5 ⟨a,2,none⟩ (vI wI 0) fun b6=>
 Za b6 ⟨a,3,none⟩ (vI wI 0) fun b7=>
 Za b7 ⟨a,4,none⟩ (vI wI 0) fun b8=>
 Za b8 ⟨a,5,none⟩ (vS none 0 0) fun b9=>
 Za b9 ⟨a,6,none⟩ (vS none 0 0) fun f=>
 ∃n,f.cell ⟨a,0,none⟩=some (vI vU n)∧∃q,f.cell ⟨a,1,none⟩=some (vI vU q)∧∃t,f.cell ⟨a,2,none⟩=some (vI wI t)∧∃w,f.cell ⟨a,3,none⟩=some (vI wI w)∧∃z,f.cell ⟨a,4,none⟩=some (vI wI z)∧∃C I F,f.cell ⟨a,5,none⟩=some (vS C I F)∧∃L R O,f.cell ⟨a,6,none⟩=some (vS L R O)∧j (vT ⟨[(vA ⟨[(vI vU n),(vI vU q),(vI wI t),(vI wI w),(vI wI z),(vS C I F),(vS L R O)]⟩),(vI wI 1),(vI wI 250)]⟩) f)
 (∃h:List Nat,(∀b∈h,∃c7,c b=some c7)∧
 i∈h∧∃a5,c.cell ⟨i,1,none⟩=some (vI wI a5)∧
 NilP c8 fun d2=>
 InB (min a5 (vW wI ((k:Int) - 1))) k fun d1=>
 elemAt d2 d1 6 fun l=>
 l.block∈h∧∃a6,c.cell ⟨l.block,l.off+5,none⟩=some (vI wI a6)∧
 Za c ⟨a,0,none⟩ (vI vU 0) fun c0=>
 Za c0 ⟨a,1,none⟩ (vI vU 0) fun c1=>
 Za c1 ⟨a,2,none⟩ (vI wI 0) fun c2=>
 Za c2 ⟨a,3,none⟩ (vI wI 0) fun c3=>
 Za c3 ⟨a,4,none⟩ (vI wI 0) fun c4=>
 Za c4 ⟨a,5,none⟩ (vS none 0 0) fun c5=>
 Za c5 ⟨a,6,none⟩ (vS none 0 0) fun d=>
 Zea h c d∧∃o,d.cell ⟨a,0,none⟩=some (vI vU o)∧∃r,d.cell ⟨a,1,none⟩=some (vI vU r)∧∃u,d.cell ⟨a,2,none⟩=some (vI wI u)∧∃x,d.cell ⟨a,3,none⟩=some (vI wI x)∧∃A,d.cell ⟨a,4,none⟩=some (vI wI A)∧∃D J G,d.cell ⟨a,5,none⟩=some (vS D J G)∧∃M S P,d.cell ⟨a,6,none⟩=some (vS M S P)∧j (vT ⟨[(vA ⟨[(vI vU o),(vI vU r),(vI wI u),(vI wI x),(vI wI A),(vS D J G),(vS M S P)]⟩),(vI wI a6),(vI wI 250)]⟩) d)))
def Zbrs (j:Nat) (g:Option Addr) (c h b f:Nat) (a:Heap) (e:(Unit)->Heap->Prop) (d:Value->Heap->Prop):Prop:=
 ∃i,a.cell ⟨b,3,none⟩=some (vB i)∧
 IfB (!i)
 (∃k,a.cell ⟨b,1,none⟩=some (vI wI k)∧
 Zsr j g c h b f e (decide (k<(c:Int))) a d)
 (Zsr j g c h b f e false a d)
def Zbrt (N:ByteArray) (d:Heap) (j:Value->Heap->Prop):Prop:=
 NewW d (Obj.cells ⟨[(vI vU 0),(vI vU 0),(vI wI 0),(vI wI 0),(vI wI 0),(vS none 0 0),(vS none 0 0)]⟩ Zcj) fun a w=>
 FnW wP Zuf ⟨[(Value.string N)]⟩ w fun O i=>
 ∃e g f,∃v:Int,∃h:Int,O=(vT ⟨[(vS e g f),(vI wI v),(vI wI h)]⟩)∧
 IfB (h !=0)
 (Za i ⟨a,0,none⟩ (vI vU 0) fun G=>
 Za G ⟨a,1,none⟩ (vI vU 0) fun H=>
 Za H ⟨a,2,none⟩ (vI wI 0) fun I=>
 Za I ⟨a,3,none⟩ (vI wI 0) fun J=>
 Za J ⟨a,4,none⟩ (vI wI 0) fun K=>
 Za K ⟨a,5,none⟩ (vS none 0 0) fun L=>
 Za L ⟨a,6,none⟩ (vS none 0 0) fun b=>
 ∃k,b.cell ⟨a,0,none⟩=some (vI vU k)∧∃l,b.cell ⟨a,1,none⟩=some (vI vU l)∧∃m,b.cell ⟨a,2,none⟩=some (vI wI m)∧∃n,b.cell ⟨a,3,none⟩=some (vI wI n)∧∃o,b.cell ⟨a,4,none⟩=some (vI wI o)∧∃p r q,b.cell ⟨a,5,none⟩=some (vS p r q)∧∃s u t,b.cell ⟨a,6,none⟩=some (vS s u t)∧j (vT ⟨[(vA ⟨[(vI vU k),(vI vU l),(vI wI m),(vI wI n),(vI wI o),(vS p r q),(vS s u t)]⟩),(vI wI v),(vI wI h)]⟩) b)
 (NewW i (Obj.cells ⟨[(vS e g f),(vI wI 0),(vI wI 0),(vB false)]⟩ Zg) fun P x=>
 NewW x (Obj.cells ⟨[(vI vU 0),(vI vU 0),(vI wI 0),(vI wI 0),(vI wI 0),(vS none 0 0),(vS none 0 0)]⟩ Zcj) fun c y=>
 Za y ⟨c,0,none⟩ (vI vU 0) fun z=>
 Za z ⟨c,1,none⟩ (vI vU 0) fun A=>
 Za A ⟨c,2,none⟩ (vI wI 90) fun B=>
 Za B ⟨c,3,none⟩ (vI wI 30) fun C=>
 Za C ⟨c,4,none⟩ (vI wI 0) fun D=>
 Za D ⟨c,5,none⟩ (vS none 0 0) fun E=>
 Za E ⟨c,6,none⟩ (vS none 0 0) fun F=>
 Zct (Unit) () F fun R d M=>∀Q:Env,Zbrs a e g f P c d M j)
theorem Zcio (d:ByteArray) {a:Heap} {c:Value->Heap->Prop} (f:Zbrt d a fun g e=>∀b,Shut a e b->c g b):FnW wP Zbbg ⟨[(Value.string d)]⟩ a c:=Zo Tryz.func8 ⟨[(12,[0,1,2,3,4,5,6,7,8,9,10,11,12,13,14,15],[56,63])],[(6,[],[],[2,5,8,9])],[],[]⟩ (by kernel_rfl) (by kernel_rfl) f
def Zbfx (f g:Nat) (c:Int) (d:(Int×Unit)->Heap->Prop) (e:Bool) (a:Heap) (b:Value->Heap->Prop):Prop:=
 IfB e
 (b (vB false) a)
 (d ((vW wI (c+1)),()) a)
def Zbqx (f z:Nat) (J:(Int×Unit)->Heap->Prop) (d:Int) (a:Heap) (A:(Int×Unit)->Heap->Prop) (e:Value->Heap->Prop):Prop:=
 ∃H y I,a.cell ⟨f,6,none⟩=some (vS H y I)∧
 IfB (decide (d<(y:Int)))
 (∃g h B,a.cell ⟨f,6,none⟩=some (vS g h B)∧
 NilP g fun D=>
 InB d h fun C=>
 elemAt D C 7 fun b=>
 ∃i,a.cell b=some (Value.string i)∧∃j,a.cell ⟨b.block,b.off+1,none⟩=some (vI vU j)∧∃k,a.cell ⟨b.block,b.off+2,none⟩=some (vI vU k)∧∃l,a.cell ⟨b.block,b.off+3,none⟩=some (vB l)∧∃m,a.cell ⟨b.block,b.off+4,none⟩=some (vI wI m)∧∃n,a.cell ⟨b.block,b.off+5,none⟩=some (Value.string n)∧∃o,a.cell ⟨b.block,b.off+6,none⟩=some (Value.string o)∧∃p q E,a.cell ⟨z,6,none⟩=some (vS p q E)∧
 NilP p fun G=>
 InB d q fun F=>
 elemAt G F 7 fun c=>
 ∃r,a.cell c=some (Value.string r)∧∃s,a.cell ⟨c.block,c.off+1,none⟩=some (vI vU s)∧∃t,a.cell ⟨c.block,c.off+2,none⟩=some (vI vU t)∧∃u,a.cell ⟨c.block,c.off+3,none⟩=some (vB u)∧∃v,a.cell ⟨c.block,c.off+4,none⟩=some (vI wI v)∧∃w,a.cell ⟨c.block,c.off+5,none⟩=some (Value.string w)∧∃x,a.cell ⟨c.block,c.off+6,none⟩=some (Value.string x)∧Program.eqGuardType wP (Program.depth wP) Zv=false∧
 IfB (!((i==r)&&((j==s)&&((k==t)&&((l==u)&&((m==v)&&((n==w)&&((o==x)&&true))))))))
 (e (vB false) a)
 (A ((vW wI (d+1)),()) a))
 (e (vB true) a)
def Zbqw (c d:Nat) (b:Int) (a:Heap) (f:(Int×Unit)->Heap->Prop) (e:Value->Heap->Prop):Prop:=
 ∃E g F,a.cell ⟨c,5,none⟩=some (vS E g F)∧
 IfB (decide (b<(g:Int)))
 (∃h i G,a.cell ⟨c,5,none⟩=some (vS h i G)∧
 NilP h fun J=>
 InB b i fun H=>
 elemAt J H 2 fun I=>
 ∃j,a.cell I=some (Value.string j)∧
 ∃k l K,a.cell ⟨d,5,none⟩=some (vS k l K)∧
 NilP k fun N=>
 InB b l fun L=>
 elemAt N L 2 fun M=>
 ∃m,a.cell M=some (Value.string m)∧
 IfB (!(j.toList==m.toList))
 (Zbfx c d b f true a e)
 (∃n o O,a.cell ⟨c,5,none⟩=some (vS n o O)∧
 NilP n fun Q=>
 InB b o fun P=>
 elemAt Q P 2 fun p=>
 ∃q s r,a.cell ⟨p.block,p.off+1,none⟩=some (vS q s r)∧
 ∃t u R,a.cell ⟨d,5,none⟩=some (vS t u R)∧
 NilP t fun T=>
 InB b u fun S=>
 elemAt T S 2 fun v=>
 ∃w y x,a.cell ⟨v.block,v.off+1,none⟩=some (vS w y x)∧
 FnW wP Zmi ⟨[(vS q s r),(vS w y x)]⟩ a fun U B=>
 ∃z,U=vB z∧
 Zbfx c d b f (!z) B e))
 (Zct (Int×Unit) (0,()) a fun D A C=>∀V:Env,Zbqx c d f D.1 A C e)
def Zkc (d e:Nat) (h:Bool) (a:Heap) (b:Value->Heap->Prop):Prop:=
 IfB h
 (b (vB false) a)
 (Zct (Int×Unit) (0,()) a fun g c f=>∀i:Env,Zbqw d e g.1 c f b)
def Zbqy (u v w x y:Int) (z:Option Addr) (B A:Nat) (C:Option Addr) (E D:Nat) (F G H I J:Int) (K:Option Addr) (M L:Nat) (N:Option Addr) (P O:Nat) (s:Heap) (d:Value->Heap->Prop):Prop:=
 NewW s (Obj.cells ⟨[(vI vU u),(vI vU v),(vI wI w),(vI wI x),(vI wI y),(vS z B A),(vS C E D)]⟩ Zcj) fun b t=>
 NewW t (Obj.cells ⟨[(vI vU F),(vI vU G),(vI wI H),(vI wI I),(vI wI J),(vS K M L),(vS N P O)]⟩ Zcj) fun c a=>
 ∃r,a.cell ⟨b,0,none⟩=some (vI vU r)∧
 ∃e,a.cell ⟨c,0,none⟩=some (vI vU e)∧
 IfB (r !=e)
 (Zkc b c true a d)
 (∃f,a.cell ⟨b,1,none⟩=some (vI vU f)∧
 ∃g,a.cell ⟨c,1,none⟩=some (vI vU g)∧
 IfB (f !=g)
 (Zkc b c true a d)
 (∃h,a.cell ⟨b,2,none⟩=some (vI wI h)∧
 ∃i,a.cell ⟨c,2,none⟩=some (vI wI i)∧
 IfB (h !=i)
 (Zkc b c true a d)
 (∃j,a.cell ⟨b,3,none⟩=some (vI wI j)∧
 ∃k,a.cell ⟨c,3,none⟩=some (vI wI k)∧
 IfB (j !=k)
 (Zkc b c true a d)
 (∃l,a.cell ⟨b,4,none⟩=some (vI wI l)∧
 ∃m,a.cell ⟨c,4,none⟩=some (vI wI m)∧
 IfB (l !=m)
 (Zkc b c true a d)
 (∃Q n R,a.cell ⟨b,5,none⟩=some (vS Q n R)∧
 ∃S o T,a.cell ⟨c,5,none⟩=some (vS S o T)∧
 IfB (((n:Int):Int) !=(o:Int))
 (Zkc b c true a d)
 (∃U p V,a.cell ⟨b,6,none⟩=some (vS U p V)∧
 ∃W q X,a.cell ⟨c,6,none⟩=some (vS W q X)∧
 Zkc b c (((p:Int):Int) !=(q:Int)) a d))))))
theorem Zchy (d e f g h:Int) (i:Option Addr) (k j:Nat) (l:Option Addr) (n m:Nat) (o p q r s:Int) (t:Option Addr) (v u:Nat) (w:Option Addr) (y x:Nat) {a:Heap} {c:Value->Heap->Prop} (A:Zbqy d e f g h i k j l n m o p q r s t v u w y x a fun B z=>∀b,Shut a z b->c B b):FnW wP Zbbd ⟨[(vA ⟨[(vI vU d),(vI vU e),(vI wI f),(vI wI g),(vI wI h),(vS i k j),(vS l n m)]⟩),(vA ⟨[(vI vU o),(vI vU p),(vI wI q),(vI wI r),(vI wI s),(vS t v u),(vS w y x)]⟩)]⟩ a c:=Zo Tryz.func9 ⟨[],[(4,[5],[.int wI],[2,3]),(9,[6],[.int wI],[2,3])],[],[]⟩ (by kernel_rfl) (by kernel_rfl) A
def Zke (d:Nat) (a:Heap) (c:Value->Heap->Prop):Prop:=
 FnW wP Zgu ⟨[(vP (some ⟨d,0,none⟩)),(Value.string (ByteArray.mk #[59]))]⟩ a fun e b=>
 e=vT ⟨[]⟩∧
 c (vT ⟨[]⟩) b
def Zbrv (a c:Nat) (a3:Heap) (d:Value->Heap->Prop):Prop:=
 FnW wP Zbh ⟨[(vP (some ⟨a,0,none⟩)),(Value.string (ByteArray.mk #[112,111,108,105,99,121]))]⟩ a3 fun g1 i=>
 ∃X,g1=vB X∧
 IfB X
 (FnW wP Zco ⟨[(vP (some ⟨a,0,none⟩)),(vI wI 1)]⟩ i fun h4 a9=>
 ∃g9,∃a2:ByteArray,∃h0:Int,∃h1:Int,∃h2:Int,∃h3:Int,h4=(vA ⟨[(vI wI g9),(Value.string a2),(vI wI h0),(vI vU h1),(vI wI h2),(vI wI h3)]⟩)∧
 NewW a9 (Obj.cells ⟨[(Value.string (ByteArray.mk #[])),(vS none 0 0)]⟩ Zek) fun f b6=>
 Za b6 ⟨f,0,none⟩ (Value.string a2) fun c0=>
 Za c0 ⟨f,1,none⟩ (vS none 0 0) fun c1=>
 FnW wP Zpw ⟨[(vP (some ⟨a,0,none⟩))]⟩ c1 fun c6 c2=>
 ∃q s r,c6=vS q s r∧
 Za c2 ⟨f,1,none⟩ (vS q s r) fun g=>
 ∃t v u,g.cell ⟨c,5,none⟩=some (vS t v u)∧
 ∃w,g.cell ⟨f,0,none⟩=some (Value.string w)∧∃x z y,g.cell ⟨f,1,none⟩=some (vS x z y)∧NewW g (Obj.cells ⟨[(Value.string w),(vS x z y)]⟩ Zek) fun c7 c3=>
 AppW wP #[Zlu,Zlu] Zlu [(vS t v u),(vS (some ⟨c7,0,none⟩) 1 1)] c3 fun c8 c4=>
 ∃A C B,c8=vS A C B∧
 Za c4 ⟨c,5,none⟩ (vS A C B) fun a4=>
 d (vT ⟨[]⟩) a4)
 (FnW wP Zbh ⟨[(vP (some ⟨a,0,none⟩)),(Value.string (ByteArray.mk #[112,101,101,114]))]⟩ i fun c9 e=>
 ∃D,c9=vB D∧
 IfB D
 (∃h:List Nat,(∀b∈h,∃c5,e b=some c5)∧
 c∈h∧∃E G F,e.cell ⟨c,6,none⟩=some (vS E G F)∧
 FnW wP Zbbe ⟨[(vP (some ⟨a,0,none⟩))]⟩ e fun d0 j=>
 ∃H,∃I:Int,∃J:Int,∃K:Bool,∃L:Int,∃M:ByteArray,∃N:ByteArray,d0=(vA ⟨[(Value.string H),(vI vU I),(vI vU J),(vB K),(vI wI L),(Value.string M),(Value.string N)]⟩)∧
 Zea h e j∧NewW j (Obj.cells ⟨[(Value.string H),(vI vU I),(vI vU J),(vB K),(vI wI L),(Value.string M),(Value.string N)]⟩ Zv) fun d1 a5=>
 AppW wP #[Zlt,Zlt] Zlt [(vS E G F),(vS (some ⟨d1,0,none⟩) 1 1)] a5 fun d2 k=>
 ∃O Q P,d2=vS O Q P∧
 Zea h e k∧Za k ⟨c,6,none⟩ (vS O Q P) fun a6=>
 d (vT ⟨[]⟩) a6)
 (FnW wP Zbh ⟨[(vP (some ⟨a,0,none⟩)),(Value.string (ByteArray.mk #[115,121,115,116,101,109]))]⟩ e fun d3 l=>
 ∃R,d3=vB R∧
 IfB R
 (FnW wP Zco ⟨[(vP (some ⟨a,0,none⟩)),(vI wI 2)]⟩ l fun d9 a7=>
 ∃d4,∃d5:ByteArray,∃S:Int,∃d6:Int,∃d7:Int,∃d8:Int,d9=(vA ⟨[(vI wI d4),(Value.string d5),(vI wI S),(vI vU d6),(vI wI d7),(vI wI d8)]⟩)∧
 Za a7 ⟨c,0,none⟩ (vI vU (vW vU S)) fun a8=>
 Zke a a8 d)
 (FnW wP Zbh ⟨[(vP (some ⟨a,0,none⟩)),(Value.string (ByteArray.mk #[114,111,117,116,101,114]))]⟩ l fun e0 m=>
 ∃T,e0=vB T∧
 IfB T
 (FnW wP Zco ⟨[(vP (some ⟨a,0,none⟩)),(vI wI 3)]⟩ m fun e6 b0=>
 ∃e1,∃e2:ByteArray,∃U:Int,∃e3:Int,∃e4:Int,∃e5:Int,e6=(vA ⟨[(vI wI e1),(Value.string e2),(vI wI U),(vI vU e3),(vI wI e4),(vI wI e5)]⟩)∧
 Za b0 ⟨c,1,none⟩ (vI vU (vW vU U)) fun b1=>
 Zke a b1 d)
 (FnW wP Zbh ⟨[(vP (some ⟨a,0,none⟩)),(Value.string (ByteArray.mk #[104,111,108,100]))]⟩ m fun e7 n=>
 ∃V,e7=vB V∧
 IfB V
 (FnW wP Zco ⟨[(vP (some ⟨a,0,none⟩)),(vI wI 2)]⟩ n fun f3 b2=>
 ∃e8,∃e9:ByteArray,∃W:Int,∃f0:Int,∃f1:Int,∃f2:Int,f3=(vA ⟨[(vI wI e8),(Value.string e9),(vI wI W),(vI vU f0),(vI wI f1),(vI wI f2)]⟩)∧
 Za b2 ⟨c,2,none⟩ (vI wI W) fun b3=>
 Zke a b3 d)
 (FnW wP Zbh ⟨[(vP (some ⟨a,0,none⟩)),(Value.string (ByteArray.mk #[114,101,116,114,121]))]⟩ n fun f4 o=>
 ∃Y,f4=vB Y∧
 IfB Y
 (FnW wP Zco ⟨[(vP (some ⟨a,0,none⟩)),(vI wI 2)]⟩ o fun g0 b4=>
 ∃f5,∃f6:ByteArray,∃Z:Int,∃f7:Int,∃f8:Int,∃f9:Int,g0=(vA ⟨[(vI wI f5),(Value.string f6),(vI wI Z),(vI vU f7),(vI wI f8),(vI wI f9)]⟩)∧
 Za b4 ⟨c,3,none⟩ (vI wI Z) fun b5=>
 Zke a b5 d)
 (FnW wP Zbh ⟨[(vP (some ⟨a,0,none⟩)),(Value.string (ByteArray.mk #[103,114,97,99,101,102,117,108]))]⟩ o fun g2 p=>
 ∃a0,g2=vB a0∧
 IfB a0
 (FnW wP Zco ⟨[(vP (some ⟨a,0,none⟩)),(vI wI 2)]⟩ p fun g8 b7=>
 ∃g3,∃g4:ByteArray,∃a1:Int,∃g5:Int,∃g6:Int,∃g7:Int,g8=(vA ⟨[(vI wI g3),(Value.string g4),(vI wI a1),(vI vU g5),(vI wI g6),(vI wI g7)]⟩)∧
 Za b7 ⟨c,4,none⟩ (vI wI a1) fun b8=>
 Zke a b8 d)
 (Za p ⟨a,3,none⟩ (vB true) fun b9=>
 Zke a b9 d)))))))
theorem Zcis (d e:Nat) {a:Heap} {c:Value->Heap->Prop} (g:Zbrv d e a fun h f=>∀b,Shut a f b->c h b):FnW wP Zbbi ⟨[(vP (some ⟨d,0,none⟩)),(vP (some ⟨e,0,none⟩))]⟩ a c:=Zo Tryz.func18 ⟨[(5,[0,1,2,3,4,5,6,7,8,9,10,11],[30])],[],[],[]⟩ (by kernel_rfl) (by kernel_rfl) g
def Zlo (f:Option Addr) (h g:Nat) (i:Option Addr) (k j:Nat) (c:Int) (d:(Int×Unit)->Heap->Prop) (e:Bool) (a:Heap) (b:Value->Heap->Prop):Prop:=
 IfB e
 (b (vB false) a)
 (d ((vW wI (c+1)),()) a)
def Zbrk (k:Option Addr) (i n:Nat) (l:Option Addr) (m o:Nat) (h:Int) (a:Heap) (p:(Int×Unit)->Heap->Prop) (j:Value->Heap->Prop):Prop:=
 IfB (decide (h<(i:Int)))
 (∃s:List Nat,(∀b∈s,∃f6,a b=some f6)∧
 NilP k fun f8=>
 InB h i fun f7=>
 elemAt f8 f7 10 fun g=>
 ∃u,a.cell g=some (vI wI u)∧∃v,a.cell ⟨g.block,g.off+1,none⟩=some (vI wI v)∧∃w y x,a.cell ⟨g.block,g.off+2,none⟩=some (vS w y x)∧∃z,a.cell ⟨g.block,g.off+3,none⟩=some (vI vU z)∧∃A,a.cell ⟨g.block,g.off+4,none⟩=some (vI wI A)∧∃B,a.cell ⟨g.block,g.off+5,none⟩=some (vI wI B)∧∃C E D,a.cell ⟨g.block,g.off+6,none⟩=some (vS C E D)∧∃F H G,a.cell ⟨g.block,g.off+7,none⟩=some (vS F H G)∧∃I,a.cell ⟨g.block,g.off+8,none⟩=some (vI wI I)∧∃J,a.cell ⟨g.block,g.off+9,none⟩=some (vI wI J)∧NilP l fun g0=>
 InB h m fun f9=>
 elemAt g0 f9 10 fun d=>
 d.block∈s∧∃K,a.cell d=some (vI wI K)∧∃L,a.cell ⟨d.block,d.off+1,none⟩=some (vI wI L)∧∃M O N,a.cell ⟨d.block,d.off+2,none⟩=some (vS M O N)∧∃P,a.cell ⟨d.block,d.off+3,none⟩=some (vI vU P)∧∃Q,a.cell ⟨d.block,d.off+4,none⟩=some (vI wI Q)∧∃R,a.cell ⟨d.block,d.off+5,none⟩=some (vI wI R)∧∃S U T,a.cell ⟨d.block,d.off+6,none⟩=some (vS S U T)∧∃V X W,a.cell ⟨d.block,d.off+7,none⟩=some (vS V X W)∧∃Y,a.cell ⟨d.block,d.off+8,none⟩=some (vI wI Y)∧∃Z,a.cell ⟨d.block,d.off+9,none⟩=some (vI wI Z)∧NewW a (Obj.cells ⟨[(vI wI 0),(vI wI 0),(vS none 0 0),(vI vU 0),(vI wI 0),(vI wI 0),(vS none 0 0),(vS none 0 0),(vI wI 0),(vI wI 0)]⟩ Zz) fun e e4=>
 NewW e4 (Obj.cells ⟨[(vI wI 0),(vI wI 0),(vS none 0 0),(vI vU 0),(vI wI 0),(vI wI 0),(vS none 0 0),(vS none 0 0),(vI wI 0),(vI wI 0)]⟩ Zz) fun f e9=>
 Za e9 ⟨e,0,none⟩ (vI wI u) fun f0=>
 Za f0 ⟨e,1,none⟩ (vI wI v) fun f1=>
 Za f1 ⟨e,2,none⟩ (vS w y x) fun f2=>
 Za f2 ⟨e,3,none⟩ (vI vU z) fun f3=>
 Za f3 ⟨e,4,none⟩ (vI wI A) fun f4=>
 Za f4 ⟨e,5,none⟩ (vI wI B) fun f5=>
 Za f5 ⟨e,6,none⟩ (vS C E D) fun d5=>
 Za d5 ⟨e,7,none⟩ (vS F H G) fun d6=>
 Za d6 ⟨e,8,none⟩ (vI wI I) fun d7=>
 Za d7 ⟨e,9,none⟩ (vI wI J) fun t=>
 Zea s a t∧Za t ⟨f,0,none⟩ (vI wI K) fun d8=>
 Za d8 ⟨f,1,none⟩ (vI wI L) fun d9=>
 Za d9 ⟨f,2,none⟩ (vS M O N) fun e0=>
 Za e0 ⟨f,3,none⟩ (vI vU P) fun e1=>
 Za e1 ⟨f,4,none⟩ (vI wI Q) fun e2=>
 Za e2 ⟨f,5,none⟩ (vI wI R) fun e3=>
 Za e3 ⟨f,6,none⟩ (vS S U T) fun e5=>
 Za e5 ⟨f,7,none⟩ (vS V X W) fun e6=>
 Za e6 ⟨f,8,none⟩ (vI wI Y) fun e7=>
 Za e7 ⟨f,9,none⟩ (vI wI Z) fun c=>
 ∃a0,c.cell ⟨e,0,none⟩=some (vI wI a0)∧
 ∃a1,c.cell ⟨f,0,none⟩=some (vI wI a1)∧
 IfB (a0 !=a1)
 (Zlo k i n l m o h p true c j)
 (∃a2,c.cell ⟨e,8,none⟩=some (vI wI a2)∧
 ∃a3,c.cell ⟨f,8,none⟩=some (vI wI a3)∧
 IfB (a2 !=a3)
 (Zlo k i n l m o h p true c j)
 (∃a4,c.cell ⟨e,9,none⟩=some (vI wI a4)∧
 ∃a5,c.cell ⟨f,9,none⟩=some (vI wI a5)∧
 IfB (a4 !=a5)
 (Zlo k i n l m o h p true c j)
 (∃a6,c.cell ⟨e,1,none⟩=some (vI wI a6)∧∃a7 a9 a8,c.cell ⟨e,2,none⟩=some (vS a7 a9 a8)∧∃b0,c.cell ⟨e,3,none⟩=some (vI vU b0)∧∃b1,c.cell ⟨e,4,none⟩=some (vI wI b1)∧∃b2,c.cell ⟨e,5,none⟩=some (vI wI b2)∧∃b3,c.cell ⟨f,1,none⟩=some (vI wI b3)∧∃b4 b6 b5,c.cell ⟨f,2,none⟩=some (vS b4 b6 b5)∧∃b7,c.cell ⟨f,3,none⟩=some (vI vU b7)∧∃b8,c.cell ⟨f,4,none⟩=some (vI wI b8)∧∃b9,c.cell ⟨f,5,none⟩=some (vI wI b9)∧FnW wP Zpy ⟨[(vA ⟨[(vI wI a6),(vS a7 a9 a8),(vI vU b0),(vI wI b1),(vI wI b2)]⟩),(vA ⟨[(vI wI b3),(vS b4 b6 b5),(vI vU b7),(vI wI b8),(vI wI b9)]⟩)]⟩ c fun g1 q=>
 ∃c0,g1=vB c0∧
 IfB (!c0)
 (Zlo k i n l m o h p true q j)
 (∃c1 c3 c2,q.cell ⟨e,6,none⟩=some (vS c1 c3 c2)∧
 ∃c4 c6 c5,q.cell ⟨f,6,none⟩=some (vS c4 c6 c5)∧
 FnW wP Zmi ⟨[(vS c1 c3 c2),(vS c4 c6 c5)]⟩ q fun g2 r=>
 ∃c7,g2=vB c7∧
 IfB (!c7)
 (Zlo k i n l m o h p true r j)
 (∃c8 d0 c9,r.cell ⟨e,7,none⟩=some (vS c8 d0 c9)∧
 ∃d1 d3 d2,r.cell ⟨f,7,none⟩=some (vS d1 d3 d2)∧
 FnW wP Zmi ⟨[(vS c8 d0 c9),(vS d1 d3 d2)]⟩ r fun g3 e8=>
 ∃d4,g3=vB d4∧
 Zlo k i n l m o h p (!d4) e8 j))))))
 (j (vB true) a)
def Zbrl (e:Option Addr) (c f:Nat) (g:Option Addr) (d h:Nat) (a:Heap) (b:Value->Heap->Prop):Prop:=
 IfB (((c:Int):Int) !=(d:Int))
 (b (vB false) a)
 (Zct (Int×Unit) (0,()) a fun j a i=>∀k:Env,Zbrk e c f g d h j.1 a i b)
theorem Zcik (d:Option Addr) (f e:Nat) (g:Option Addr) (i h:Nat) {a:Heap} {c:Value->Heap->Prop} (k:Zbrl d f e g i h a fun l j=>∀b,Shut a j b->c l b):FnW wP Zmi ⟨[(vS d f e),(vS g i h)]⟩ a c:=Zo Tryz.func19 ⟨[(6,[0,1,2,3,4,5,6,7,8,9,10,11],[26])],[(4,[5],[.int wI],[0,1])],[],[]⟩ (by kernel_rfl) (by kernel_rfl) k
def Zbtc (b:Nat) (h:ByteArray) (f:Heap) (c:Value->Heap->Prop):Prop:=
 FnW wP Zqb ⟨[(vP (some ⟨b,0,none⟩)),(Value.string h)]⟩ f fun i a=>
 ∃e,i=vB e∧
 IfB (!e)
 (c (vB false) a)
 (∃d,a.cell ⟨b,1,none⟩=some (vI wI d)∧
 Za a ⟨b,1,none⟩ (vI wI (vW wI (d+1))) fun g=>
 c (vB true) g)
theorem Zcjx (d:Nat) (e:ByteArray) {a:Heap} {c:Value->Heap->Prop} (g:Zbtc d e a fun h f=>∀b,Shut a f b->c h b):FnW wP Zbh ⟨[(vP (some ⟨d,0,none⟩)),(Value.string e)]⟩ a c:=Zo Tryz.func53 ⟨[],[],[],[]⟩ (by kernel_rfl) (by kernel_rfl) g
def Zox (f a:Nat) (P:Bool) (g:Heap) (h:Value->Heap->Prop):Prop:=
 IfB P
 (Za g ⟨f,3,none⟩ (vB true) fun J=>
 Za J ⟨a,0,none⟩ (vI wI 0) fun K=>
 Za K ⟨a,1,none⟩ (Value.string (ByteArray.mk #[])) fun L=>
 Za L ⟨a,2,none⟩ (vI wI 0) fun M=>
 Za M ⟨a,3,none⟩ (vI vU 0) fun N=>
 Za N ⟨a,4,none⟩ (vI wI 0) fun O=>
 Za O ⟨a,5,none⟩ (vI wI 0) fun e=>
 ∃i,e.cell ⟨a,0,none⟩=some (vI wI i)∧∃k,e.cell ⟨a,1,none⟩=some (Value.string k)∧∃m,e.cell ⟨a,2,none⟩=some (vI wI m)∧∃o,e.cell ⟨a,3,none⟩=some (vI vU o)∧∃q,e.cell ⟨a,4,none⟩=some (vI wI q)∧∃s,e.cell ⟨a,5,none⟩=some (vI wI s)∧h (vA ⟨[(vI wI i),(Value.string k),(vI wI m),(vI vU o),(vI wI q),(vI wI s)]⟩) e)
 (∃u,g.cell ⟨f,1,none⟩=some (vI wI u)∧
 Za g ⟨f,1,none⟩ (vI wI (vW wI (u+1))) fun c=>
 ∃v w Q,c.cell ⟨f,0,none⟩=some (vS v w Q)∧
 ∃x,c.cell ⟨f,1,none⟩=some (vI wI x)∧
 NilP v fun S=>
 InB (vW wI (x - 1)) w fun R=>
 elemAt S R 6 fun b=>
 ∃y,c.cell b=some (vI wI y)∧∃z,c.cell ⟨b.block,b.off+1,none⟩=some (Value.string z)∧∃A,c.cell ⟨b.block,b.off+2,none⟩=some (vI wI A)∧∃B,c.cell ⟨b.block,b.off+3,none⟩=some (vI vU B)∧∃C,c.cell ⟨b.block,b.off+4,none⟩=some (vI wI C)∧∃D,c.cell ⟨b.block,b.off+5,none⟩=some (vI wI D)∧Za c ⟨a,0,none⟩ (vI wI y) fun E=>
 Za E ⟨a,1,none⟩ (Value.string z) fun F=>
 Za F ⟨a,2,none⟩ (vI wI A) fun G=>
 Za G ⟨a,3,none⟩ (vI vU B) fun H=>
 Za H ⟨a,4,none⟩ (vI wI C) fun I=>
 Za I ⟨a,5,none⟩ (vI wI D) fun d=>
 ∃j,d.cell ⟨a,0,none⟩=some (vI wI j)∧∃l,d.cell ⟨a,1,none⟩=some (Value.string l)∧∃n,d.cell ⟨a,2,none⟩=some (vI wI n)∧∃p,d.cell ⟨a,3,none⟩=some (vI vU p)∧∃r,d.cell ⟨a,4,none⟩=some (vI wI r)∧∃t,d.cell ⟨a,5,none⟩=some (vI wI t)∧h (vA ⟨[(vI wI j),(Value.string l),(vI wI n),(vI vU p),(vI wI r),(vI wI t)]⟩) d)
def Zbsq (b:Nat) (m:Int) (l:Heap) (c:Value->Heap->Prop):Prop:=
 NewW l (Obj.cells ⟨[(vI wI 0),(Value.string (ByteArray.mk #[])),(vI wI 0),(vI vU 0),(vI wI 0),(vI wI 0)]⟩ Zth) fun d a=>
 ∃k,a.cell ⟨b,3,none⟩=some (vB k)∧
 IfB k
 (Zox b d true a c)
 (∃e,a.cell ⟨b,1,none⟩=some (vI wI e)∧
 ∃n f o,a.cell ⟨b,0,none⟩=some (vS n f o)∧
 IfB (decide (e≥(f:Int)))
 (Zox b d true a c)
 (∃g h p,a.cell ⟨b,0,none⟩=some (vS g h p)∧
 ∃i,a.cell ⟨b,1,none⟩=some (vI wI i)∧
 NilP g fun s=>
 InB i h fun q=>
 elemAt s q 6 fun r=>
 ∃j,a.cell r=some (vI wI j)∧
 Zox b d (j !=m) a c))
theorem Zcjj (e:Nat) (d:Int) {a:Heap} {c:Value->Heap->Prop} (g:Zbsq e d a fun h f=>∀b,Shut a f b->c h b):FnW wP Zco ⟨[(vP (some ⟨e,0,none⟩)),(vI wI d)]⟩ a c:=Zo Tryz.func54 ⟨[],[],[],[]⟩ (by kernel_rfl) (by kernel_rfl) g
def Zso (e:Nat) (b:Option Addr) (d c:Nat) (D:((Option Addr×Nat×Nat)×Unit)->Heap->Prop) (E:Bool) (a:Heap) (C:Value->Heap->Prop):Prop:=
 IfB E
 (FnW wP Zmg ⟨[(vP (some ⟨e,0,none⟩))]⟩ a fun F y=>
 ∃f,∃g:Int,∃(h:Option Addr) (j i:Nat),∃k:Int,∃l:Int,∃m:Int,∃(n:Option Addr) (p o:Nat),∃(q:Option Addr) (s r:Nat),∃t:Int,∃u:Int,F=(vA ⟨[(vI wI f),(vI wI g),(vS h j i),(vI vU k),(vI wI l),(vI wI m),(vS n p o),(vS q s r),(vI wI t),(vI wI u)]⟩)∧
 NewW y (Obj.cells ⟨[(vI wI f),(vI wI g),(vS h j i),(vI vU k),(vI wI l),(vI wI m),(vS n p o),(vS q s r),(vI wI t),(vI wI u)]⟩ Zz) fun G z=>
 AppW wP #[Ziz,Ziz] Ziz [(vS b d c),(vS (some ⟨G,0,none⟩) 1 1)] z fun H A=>
 ∃v x w,H=vS v x w∧
 D ((v,x,w),()) A)
 (FnW wP Zgu ⟨[(vP (some ⟨e,0,none⟩)),(Value.string (ByteArray.mk #[125]))]⟩ a fun I B=>
 I=vT ⟨[]⟩∧
 C (vS b d c) B)
def Zbrg (a:Nat) (e:Option Addr) (g f:Nat) (b:Heap) (d:((Option Addr×Nat×Nat)×Unit)->Heap->Prop) (c:Value->Heap->Prop):Prop:=
 ∃h,b.cell ⟨a,3,none⟩=some (vB h)∧
 IfB (!h)
 (FnW wP Zqb ⟨[(vP (some ⟨a,0,none⟩)),(Value.string (ByteArray.mk #[125]))]⟩ b fun k j=>
 ∃i,k=vB i∧
 Zso a e g f d (!i) j c)
 (Zso a e g f d false b c)
def Zbrh (c:Nat) (a:Heap) (f:Value->Heap->Prop):Prop:=
 NewW a (Obj.cells ⟨[]⟩ Zz) fun h d=>
 FnW wP Zgu ⟨[(vP (some ⟨c,0,none⟩)),(Value.string (ByteArray.mk #[123]))]⟩ d fun i e=>
 i=vT ⟨[]⟩∧
 Zct ((Option Addr×Nat×Nat)×Unit) (((some ⟨h,0,none⟩),0,0),()) e fun b a g=>∀j:Env,Zbrg c b.1.1 b.1.2.1 b.1.2.2 a g f
theorem Zcih (d:Nat) {a:Heap} {c:Value->Heap->Prop} (f:Zbrh d a fun g e=>∀b,Shut a e b->c g b):FnW wP Zpw ⟨[(vP (some ⟨d,0,none⟩))]⟩ a c:=Zo Tryz.func55 ⟨[],[(3,[3],[.slice],[0])],[],[]⟩ (by kernel_rfl) (by kernel_rfl) f
def Zyw (A a d:Nat) (s:Heap) (z:Value->Heap->Prop):Prop:=
 FnW wP Zgu ⟨[(vP (some ⟨A,0,none⟩)),(Value.string (ByteArray.mk #[59]))]⟩ s fun B b=>
 B=vT ⟨[]⟩∧
 ∃l,b.cell ⟨d,0,none⟩=some (Value.string l)∧∃m,b.cell ⟨d,1,none⟩=some (vI vU m)∧∃n,b.cell ⟨d,2,none⟩=some (vI vU n)∧∃o,b.cell ⟨d,3,none⟩=some (vB o)∧∃p,b.cell ⟨d,4,none⟩=some (vI wI p)∧∃q,b.cell ⟨d,5,none⟩=some (Value.string q)∧∃r,b.cell ⟨d,6,none⟩=some (Value.string r)∧Za b ⟨a,0,none⟩ (Value.string l) fun t=>
 Za t ⟨a,1,none⟩ (vI vU m) fun u=>
 Za u ⟨a,2,none⟩ (vI vU n) fun v=>
 Za v ⟨a,3,none⟩ (vB o) fun w=>
 Za w ⟨a,4,none⟩ (vI wI p) fun x=>
 Za x ⟨a,5,none⟩ (Value.string q) fun y=>
 Za y ⟨a,6,none⟩ (Value.string r) fun c=>
 ∃e,c.cell ⟨a,0,none⟩=some (Value.string e)∧∃f,c.cell ⟨a,1,none⟩=some (vI vU f)∧∃g,c.cell ⟨a,2,none⟩=some (vI vU g)∧∃h,c.cell ⟨a,3,none⟩=some (vB h)∧∃i,c.cell ⟨a,4,none⟩=some (vI wI i)∧∃j,c.cell ⟨a,5,none⟩=some (Value.string j)∧∃k,c.cell ⟨a,6,none⟩=some (Value.string k)∧z (vA ⟨[(Value.string e),(vI vU f),(vI vU g),(vB h),(vI wI i),(Value.string j),(Value.string k)]⟩) c
def Zyv (a e b:Nat) (h:Heap) (d:Value->Heap->Prop):Prop:=
 FnW wP Zbh ⟨[(vP (some ⟨a,0,none⟩)),(Value.string (ByteArray.mk #[111,117,116]))]⟩ h fun k c=>
 ∃f,k=vB f∧
 IfB f
 (FnW wP Zco ⟨[(vP (some ⟨a,0,none⟩)),(vI wI 1)]⟩ c fun q i=>
 ∃l,∃g:ByteArray,∃m:Int,∃n:Int,∃o:Int,∃p:Int,q=(vA ⟨[(vI wI l),(Value.string g),(vI wI m),(vI vU n),(vI wI o),(vI wI p)]⟩)∧
 Za i ⟨b,6,none⟩ (Value.string g) fun j=>
 Zyw a e b j d)
 (Zyw a e b c d)
def Zyu (a f b:Nat) (h:Heap) (d:Value->Heap->Prop):Prop:=
 FnW wP Zbh ⟨[(vP (some ⟨a,0,none⟩)),(Value.string (ByteArray.mk #[105,110]))]⟩ h fun k c=>
 ∃e,k=vB e∧
 IfB e
 (FnW wP Zco ⟨[(vP (some ⟨a,0,none⟩)),(vI wI 1)]⟩ c fun q i=>
 ∃l,∃g:ByteArray,∃m:Int,∃n:Int,∃o:Int,∃p:Int,q=(vA ⟨[(vI wI l),(Value.string g),(vI wI m),(vI vU n),(vI wI o),(vI wI p)]⟩)∧
 Za i ⟨b,5,none⟩ (Value.string g) fun j=>
 Zyv a f b j d)
 (Zyv a f b c d)
def Zbrd (b:Nat) (l:Heap) (d:Value->Heap->Prop):Prop:=
 NewW l (Obj.cells ⟨[(Value.string (ByteArray.mk #[])),(vI vU 0),(vI vU 0),(vB false),(vI wI 0),(Value.string (ByteArray.mk #[])),(Value.string (ByteArray.mk #[]))]⟩ Zv) fun i m=>
 FnW wP Zco ⟨[(vP (some ⟨b,0,none⟩)),(vI wI 1)]⟩ m fun Y w=>
 ∃T,∃j:ByteArray,∃U:Int,∃V:Int,∃W:Int,∃X:Int,Y=(vA ⟨[(vI wI T),(Value.string j),(vI wI U),(vI vU V),(vI wI W),(vI wI X)]⟩)∧
 FnW wP Zco ⟨[(vP (some ⟨b,0,none⟩)),(vI wI 3)]⟩ w fun a4 x=>
 ∃Z,∃a0:ByteArray,∃k:Int,∃a1:Int,∃a2:Int,∃a3:Int,a4=(vA ⟨[(vI wI Z),(Value.string a0),(vI wI k),(vI vU a1),(vI wI a2),(vI wI a3)]⟩)∧
 NewW x (Obj.cells ⟨[(Value.string (ByteArray.mk #[])),(vI vU 0),(vI vU 0),(vB false),(vI wI 0),(Value.string (ByteArray.mk #[])),(Value.string (ByteArray.mk #[]))]⟩ Zv) fun a y=>
 Za y ⟨a,0,none⟩ (Value.string j) fun z=>
 Za z ⟨a,1,none⟩ (vI vU (vW vU k)) fun A=>
 Za A ⟨a,2,none⟩ (vI vU 0) fun B=>
 Za B ⟨a,3,none⟩ (vB false) fun C=>
 Za C ⟨a,4,none⟩ (vI wI 0) fun D=>
 Za D ⟨a,5,none⟩ (Value.string (ByteArray.mk #[])) fun n=>
 Za n ⟨a,6,none⟩ (Value.string (ByteArray.mk #[])) fun o=>
 FnW wP Zgu ⟨[(vP (some ⟨b,0,none⟩)),(Value.string (ByteArray.mk #[97,115]))]⟩ o fun E p=>
 E=vT ⟨[]⟩∧
 FnW wP Zco ⟨[(vP (some ⟨b,0,none⟩)),(vI wI 2)]⟩ p fun K q=>
 ∃F,∃G:ByteArray,∃e:Int,∃H:Int,∃I:Int,∃J:Int,K=(vA ⟨[(vI wI F),(Value.string G),(vI wI e),(vI vU H),(vI wI I),(vI wI J)]⟩)∧
 Za q ⟨a,2,none⟩ (vI vU (vW vU e)) fun r=>
 FnW wP Zbh ⟨[(vP (some ⟨b,0,none⟩)),(Value.string (ByteArray.mk #[119,97,105,116,115]))]⟩ r fun L s=>
 ∃f,L=vB f∧
 Za s ⟨a,3,none⟩ (vB f) fun t=>
 FnW wP Zbh ⟨[(vP (some ⟨b,0,none⟩)),(Value.string (ByteArray.mk #[109,97,120]))]⟩ t fun M c=>
 ∃g,M=vB g∧
 IfB g
 (FnW wP Zco ⟨[(vP (some ⟨b,0,none⟩)),(vI wI 2)]⟩ c fun S u=>
 ∃N,∃O:ByteArray,∃h:Int,∃P:Int,∃Q:Int,∃R:Int,S=(vA ⟨[(vI wI N),(Value.string O),(vI wI h),(vI vU P),(vI wI Q),(vI wI R)]⟩)∧
 Za u ⟨a,4,none⟩ (vI wI h) fun v=>
 Zyu b i a v d)
 (Zyu b i a c d)
theorem Zcie (d:Nat) {a:Heap} {c:Value->Heap->Prop} (f:Zbrd d a fun g e=>∀b,Shut a e b->c g b):FnW wP Zbbe ⟨[(vP (some ⟨d,0,none⟩))]⟩ a c:=Zo Tryz.func56 ⟨[],[],[],[]⟩ (by kernel_rfl) (by kernel_rfl) f
def Zbqz (c:Nat) (g:ByteArray) (e:Heap) (b:Value->Heap->Prop):Prop:=
 FnW wP Zbh ⟨[(vP (some ⟨c,0,none⟩)),(Value.string g)]⟩ e fun h a=>
 ∃d,h=vB d∧
 IfB (!d)
 (Za a ⟨c,3,none⟩ (vB true) fun f=>
 b (vT ⟨[]⟩) f)
 (b (vT ⟨[]⟩) a)
theorem Zchz (d:Nat) (e:ByteArray) {a:Heap} {c:Value->Heap->Prop} (g:Zbqz d e a fun h f=>∀b,Shut a f b->c h b):FnW wP Zgu ⟨[(vP (some ⟨d,0,none⟩)),(Value.string e)]⟩ a c:=Zo Tryz.func57 ⟨[],[],[],[]⟩ (by kernel_rfl) (by kernel_rfl) g
def Zbrw (g B:Nat) (d:Int) (a:Heap) (C:(Int×Unit)->Heap->Prop) (f:Value->Heap->Prop):Prop:=
 ∃D h E,a.cell ⟨g,1,none⟩=some (vS D h E)∧
 IfB (decide (d<(h:Int)))
 (∃i j F,a.cell ⟨g,1,none⟩=some (vS i j F)∧
 NilP i fun H=>
 InB d j fun G=>
 elemAt H G 5 fun b=>
 ∃k,a.cell b=some (vI wI k)∧∃l n m,a.cell ⟨b.block,b.off+1,none⟩=some (vS l n m)∧∃o,a.cell ⟨b.block,b.off+2,none⟩=some (vI vU o)∧∃p,a.cell ⟨b.block,b.off+3,none⟩=some (vI wI p)∧∃q,a.cell ⟨b.block,b.off+4,none⟩=some (vI wI q)∧∃r s I,a.cell ⟨B,1,none⟩=some (vS r s I)∧
 NilP r fun K=>
 InB d s fun J=>
 elemAt K J 5 fun c=>
 ∃t,a.cell c=some (vI wI t)∧∃u w v,a.cell ⟨c.block,c.off+1,none⟩=some (vS u w v)∧∃x,a.cell ⟨c.block,c.off+2,none⟩=some (vI vU x)∧∃y,a.cell ⟨c.block,c.off+3,none⟩=some (vI wI y)∧∃z,a.cell ⟨c.block,c.off+4,none⟩=some (vI wI z)∧FnW wP Zpy ⟨[(vA ⟨[(vI wI k),(vS l n m),(vI vU o),(vI wI p),(vI wI q)]⟩),(vA ⟨[(vI wI t),(vS u w v),(vI vU x),(vI wI y),(vI wI z)]⟩)]⟩ a fun L e=>
 ∃A,L=vB A∧
 IfB (!A)
 (f (vB false) e)
 (C ((vW wI (d+1)),()) e))
 (f (vB true) a)
def Zss (d e:Nat) (h:Bool) (a:Heap) (b:Value->Heap->Prop):Prop:=
 IfB h
 (b (vB false) a)
 (Zct (Int×Unit) (0,()) a fun g c f=>∀i:Env,Zbrw d e g.1 c f b)
def Zbrx (q:Int) (r:Option Addr) (t s:Nat) (u v w x:Int) (y:Option Addr) (A z:Nat) (B C D:Int) (o:Heap) (d:Value->Heap->Prop):Prop:=
 NewW o (Obj.cells ⟨[(vI wI q),(vS r t s),(vI vU u),(vI wI v),(vI wI w)]⟩ Zj) fun b p=>
 NewW p (Obj.cells ⟨[(vI wI x),(vS y A z),(vI vU B),(vI wI C),(vI wI D)]⟩ Zj) fun c a=>
 ∃m,a.cell ⟨b,0,none⟩=some (vI wI m)∧
 ∃n,a.cell ⟨c,0,none⟩=some (vI wI n)∧
 IfB (m !=n)
 (Zss b c true a d)
 (∃e,a.cell ⟨b,2,none⟩=some (vI vU e)∧∃f,a.cell ⟨b,3,none⟩=some (vI wI f)∧∃g,a.cell ⟨c,2,none⟩=some (vI vU g)∧∃h,a.cell ⟨c,3,none⟩=some (vI wI h)∧Program.eqGuardType wP (Program.depth wP) Zbue=false∧
 IfB (!((e==g)&&((f==h)&&true)))
 (Zss b c true a d)
 (∃i,a.cell ⟨b,4,none⟩=some (vI wI i)∧
 ∃j,a.cell ⟨c,4,none⟩=some (vI wI j)∧
 IfB (i !=j)
 (Zss b c true a d)
 (∃E k F,a.cell ⟨b,1,none⟩=some (vS E k F)∧
 ∃G l H,a.cell ⟨c,1,none⟩=some (vS G l H)∧
 Zss b c (((k:Int):Int) !=(l:Int)) a d)))
theorem Zcit (d:Int) (e:Option Addr) (g f:Nat) (h i j k:Int) (l:Option Addr) (n m:Nat) (o p q:Int) {a:Heap} {c:Value->Heap->Prop} (s:Zbrx d e g f h i j k l n m o p q a fun t r=>∀b,Shut a r b->c t b):FnW wP Zpy ⟨[(vA ⟨[(vI wI d),(vS e g f),(vI vU h),(vI wI i),(vI wI j)]⟩),(vA ⟨[(vI wI k),(vS l n m),(vI vU o),(vI wI p),(vI wI q)]⟩)]⟩ a c:=Zo Tryz.func58 ⟨[],[(4,[5],[.int wI],[2,3])],[],[]⟩ (by kernel_rfl) (by kernel_rfl) s
def Zbth (j:Option Addr) (e p:Nat) (h:FuncId) (k:Value) (a:Int) (b:Heap) (i:(Int×Unit)->Heap->Prop) (d:Value->Heap->Prop):Prop:=
 IfB (decide (a<(e:Int)))
 (NilP j fun n=>
 InB a e fun l=>
 elemAt n l 1 fun m=>
 ∃f,b.cell m=some (Value.string f)∧
 FnW wP h ⟨[k,(Value.string f)]⟩ b fun o c=>
 ∃g,o=vB g∧
 IfB g
 (d (vI wI a) c)
 (i ((vW wI (a+1)),()) c))
 (d (vI wI (-1)) b)
def Zbti (e:Option Addr) (g f:Nat) (c:FuncId) (h:Value) (a:Heap) (b:Value->Heap->Prop):Prop:=
 Zct (Int×Unit) (0,()) a fun i a d=>∀j:Env,Zbth e g f c h i.1 a d b
theorem Zckc (e:Option Addr) (g f:Nat) (d:FuncId) (h:Value) {a:Heap} {c:Value->Heap->Prop} (j:Zbti e g f d h a fun k i=>∀b,Shut a i b->c k b):FnW wP Zbjc ⟨[(vS e g f),(vF (.func d) #[h] #[])]⟩ a c:=Zo Tryz.func84 ⟨[],[(2,[8],[.int wI],[0,1,7])],[],[]⟩ (by kernel_rfl) (by kernel_rfl) j
def Zbst (b:Nat) (l:ByteArray) (a:Heap) (c:Value->Heap->Prop):Prop:=
 ∃k,a.cell ⟨b,3,none⟩=some (vB k)∧
 IfB (!k)
 (∃d,a.cell ⟨b,1,none⟩=some (vI wI d)∧
 ∃m e n,a.cell ⟨b,0,none⟩=some (vS m e n)∧
 IfB (decide (d<(e:Int)))
 (∃f g o,a.cell ⟨b,0,none⟩=some (vS f g o)∧
 ∃h,a.cell ⟨b,1,none⟩=some (vI wI h)∧
 NilP f fun q=>
 InB h g fun p=>
 elemAt q p 6 fun i=>
 ∃j,a.cell ⟨i.block,i.off+1,none⟩=some (Value.string j)∧
 c (vB (j.toList==l.toList)) a)
 (c (vB false) a))
 (c (vB false) a)
theorem Zcjn (d:Nat) (e:ByteArray) {a:Heap} {c:Value->Heap->Prop} (g:Zbst d e a fun h f=>∀b,Shut a f b->c h b):FnW wP Zqb ⟨[(vP (some ⟨d,0,none⟩)),(Value.string e)]⟩ a c:=Zo Tryz.func96 ⟨[],[],[],[]⟩ (by kernel_rfl) (by kernel_rfl) g
def Zye (a d:Nat) (b:Heap) (T:Value->Heap->Prop):Prop:=
 ∃u,b.cell ⟨d,0,none⟩=some (vI wI u)∧∃v,b.cell ⟨d,1,none⟩=some (vI wI v)∧∃w y x,b.cell ⟨d,2,none⟩=some (vS w y x)∧∃z,b.cell ⟨d,3,none⟩=some (vI vU z)∧∃A,b.cell ⟨d,4,none⟩=some (vI wI A)∧∃B,b.cell ⟨d,5,none⟩=some (vI wI B)∧∃C E D,b.cell ⟨d,6,none⟩=some (vS C E D)∧∃F H G,b.cell ⟨d,7,none⟩=some (vS F H G)∧∃I,b.cell ⟨d,8,none⟩=some (vI wI I)∧∃J,b.cell ⟨d,9,none⟩=some (vI wI J)∧Za b ⟨a,0,none⟩ (vI wI u) fun K=>
 Za K ⟨a,1,none⟩ (vI wI v) fun L=>
 Za L ⟨a,2,none⟩ (vS w y x) fun M=>
 Za M ⟨a,3,none⟩ (vI vU z) fun N=>
 Za N ⟨a,4,none⟩ (vI wI A) fun O=>
 Za O ⟨a,5,none⟩ (vI wI B) fun P=>
 Za P ⟨a,6,none⟩ (vS C E D) fun Q=>
 Za Q ⟨a,7,none⟩ (vS F H G) fun R=>
 Za R ⟨a,8,none⟩ (vI wI I) fun S=>
 Za S ⟨a,9,none⟩ (vI wI J) fun c=>
 ∃e,c.cell ⟨a,0,none⟩=some (vI wI e)∧∃f,c.cell ⟨a,1,none⟩=some (vI wI f)∧∃g i h,c.cell ⟨a,2,none⟩=some (vS g i h)∧∃j,c.cell ⟨a,3,none⟩=some (vI vU j)∧∃k,c.cell ⟨a,4,none⟩=some (vI wI k)∧∃l,c.cell ⟨a,5,none⟩=some (vI wI l)∧∃m o n,c.cell ⟨a,6,none⟩=some (vS m o n)∧∃p r q,c.cell ⟨a,7,none⟩=some (vS p r q)∧∃s,c.cell ⟨a,8,none⟩=some (vI wI s)∧∃t,c.cell ⟨a,9,none⟩=some (vI wI t)∧T (vA ⟨[(vI wI e),(vI wI f),(vS g i h),(vI vU j),(vI wI k),(vI wI l),(vS m o n),(vS p r q),(vI wI s),(vI wI t)]⟩) c
def Zbqh (a d:Nat) (b:Heap) (T:Value->Heap->Prop):Prop:=
 ∃u,b.cell ⟨d,0,none⟩=some (vI wI u)∧∃v,b.cell ⟨d,1,none⟩=some (vI wI v)∧∃w y x,b.cell ⟨d,2,none⟩=some (vS w y x)∧∃z,b.cell ⟨d,3,none⟩=some (vI vU z)∧∃A,b.cell ⟨d,4,none⟩=some (vI wI A)∧∃B,b.cell ⟨d,5,none⟩=some (vI wI B)∧∃C E D,b.cell ⟨d,6,none⟩=some (vS C E D)∧∃F H G,b.cell ⟨d,7,none⟩=some (vS F H G)∧∃I,b.cell ⟨d,8,none⟩=some (vI wI I)∧∃J,b.cell ⟨d,9,none⟩=some (vI wI J)∧Za b ⟨a,0,none⟩ (vI wI u) fun K=>
 Za K ⟨a,1,none⟩ (vI wI v) fun L=>
 Za L ⟨a,2,none⟩ (vS w y x) fun M=>
 Za M ⟨a,3,none⟩ (vI vU z) fun N=>
 Za N ⟨a,4,none⟩ (vI wI A) fun O=>
 Za O ⟨a,5,none⟩ (vI wI B) fun P=>
 Za P ⟨a,6,none⟩ (vS C E D) fun Q=>
 Za Q ⟨a,7,none⟩ (vS F H G) fun R=>
 Za R ⟨a,8,none⟩ (vI wI I) fun S=>
 Za S ⟨a,9,none⟩ (vI wI J) fun c=>
 ∃e,c.cell ⟨a,0,none⟩=some (vI wI e)∧∃f,c.cell ⟨a,1,none⟩=some (vI wI f)∧∃g i h,c.cell ⟨a,2,none⟩=some (vS g i h)∧∃j,c.cell ⟨a,3,none⟩=some (vI vU j)∧∃k,c.cell ⟨a,4,none⟩=some (vI wI k)∧∃l,c.cell ⟨a,5,none⟩=some (vI wI l)∧∃m o n,c.cell ⟨a,6,none⟩=some (vS m o n)∧∃p r q,c.cell ⟨a,7,none⟩=some (vS p r q)∧∃s,c.cell ⟨a,8,none⟩=some (vI wI s)∧∃t,c.cell ⟨a,9,none⟩=some (vI wI t)∧T (vA ⟨[(vI wI e),(vI wI f),(vS g i h),(vI vU j),(vI wI k),(vI wI l),(vS m o n),(vS p r q),(vI wI s),(vI wI t)]⟩) c
def Zgn (d f e:Nat) (a:Heap) (c:Value->Heap->Prop):Prop:=
 FnW wP Zgu ⟨[(vP (some ⟨d,0,none⟩)),(Value.string (ByteArray.mk #[59]))]⟩ a fun g b=>
 g=vT ⟨[]⟩∧
 Zbqh f e b c
def Zbqi (b:Nat) (S:Heap) (d:Value->Heap->Prop):Prop:=
 NewW S (Obj.cells ⟨[(vI wI 0),(vI wI 0),(vS none 0 0),(vI vU 0),(vI wI 0),(vI wI 0),(vS none 0 0),(vS none 0 0),(vI wI 0),(vI wI 0)]⟩ Zz) fun e T=>
 FnW wP Zbh ⟨[(vP (some ⟨b,0,none⟩)),(Value.string (ByteArray.mk #[105,102]))]⟩ T fun i9 g=>
 ∃I,i9=vB I∧
 IfB I
 (FnW wP Zjh ⟨[(vP (some ⟨b,0,none⟩))]⟩ g fun j0 a3=>
 ∃L,∃(M:Option Addr) (O N:Nat),∃P:Int,∃Q:Int,∃R:Int,j0=(vA ⟨[(vI wI L),(vS M O N),(vI vU P),(vI wI Q),(vI wI R)]⟩)∧
 NewW a3 (Obj.cells ⟨[(vI wI 0),(vI wI 0),(vS none 0 0),(vI vU 0),(vI wI 0),(vI wI 0),(vS none 0 0),(vS none 0 0),(vI wI 0),(vI wI 0)]⟩ Zz) fun c b3=>
 Za b3 ⟨c,0,none⟩ (vI wI 1) fun b7=>
 Za b7 ⟨c,1,none⟩ (vI wI L) fun b9=>
 Za b9 ⟨c,2,none⟩ (vS M O N) fun c8=>
 Za c8 ⟨c,3,none⟩ (vI vU P) fun d7=>
 Za d7 ⟨c,4,none⟩ (vI wI Q) fun e1=>
 Za e1 ⟨c,5,none⟩ (vI wI R) fun U=>
 Za U ⟨c,6,none⟩ (vS none 0 0) fun V=>
 Za V ⟨c,7,none⟩ (vS none 0 0) fun W=>
 Za W ⟨c,8,none⟩ (vI wI 0) fun X=>
 Za X ⟨c,9,none⟩ (vI wI 0) fun Y=>
 FnW wP Zqe ⟨[(vP (some ⟨b,0,none⟩))]⟩ Y fun e2 Z=>
 ∃p r q,e2=vS p r q∧
 Za Z ⟨c,6,none⟩ (vS p r q) fun a0=>
 FnW wP Zbh ⟨[(vP (some ⟨b,0,none⟩)),(Value.string (ByteArray.mk #[101,108,115,101]))]⟩ a0 fun e3 f=>
 ∃s,e3=vB s∧
 IfB s
 (FnW wP Zqe ⟨[(vP (some ⟨b,0,none⟩))]⟩ f fun e4 a1=>
 ∃t v u,e4=vS t v u∧
 Za a1 ⟨c,7,none⟩ (vS t v u) fun a2=>
 Zye e c a2 d)
 (Zye e c f d))
 (NewW g (Obj.cells ⟨[(vI wI 0),(vI wI 0),(vS none 0 0),(vI vU 0),(vI wI 0),(vI wI 0),(vS none 0 0),(vS none 0 0),(vI wI 0),(vI wI 0)]⟩ Zz) fun a a4=>
 Za a4 ⟨a,0,none⟩ (vI wI 0) fun a5=>
 Za a5 ⟨a,1,none⟩ (vI wI 0) fun a6=>
 Za a6 ⟨a,2,none⟩ (vS none 0 0) fun a7=>
 Za a7 ⟨a,3,none⟩ (vI vU 0) fun a8=>
 Za a8 ⟨a,4,none⟩ (vI wI 0) fun a9=>
 Za a9 ⟨a,5,none⟩ (vI wI 0) fun b0=>
 Za b0 ⟨a,6,none⟩ (vS none 0 0) fun b1=>
 Za b1 ⟨a,7,none⟩ (vS none 0 0) fun b2=>
 Za b2 ⟨a,8,none⟩ (vI wI 0) fun b4=>
 Za b4 ⟨a,9,none⟩ (vI wI 0) fun b5=>
 FnW wP Zbh ⟨[(vP (some ⟨b,0,none⟩)),(Value.string (ByteArray.mk #[97,99,99,101,112,116]))]⟩ b5 fun e5 h=>
 ∃w,e5=vB w∧
 IfB w
 (Za h ⟨a,0,none⟩ (vI wI 2) fun b6=>
 Zgn b e a b6 d)
 (FnW wP Zbh ⟨[(vP (some ⟨b,0,none⟩)),(Value.string (ByteArray.mk #[114,101,106,101,99,116]))]⟩ h fun e6 i=>
 ∃x,e6=vB x∧
 IfB x
 (Za i ⟨a,0,none⟩ (vI wI 3) fun b8=>
 Zgn b e a b8 d)
 (FnW wP Zbh ⟨[(vP (some ⟨b,0,none⟩)),(Value.string (ByteArray.mk #[112,114,101,112,101,110,100]))]⟩ i fun e7 j=>
 ∃y,e7=vB y∧
 IfB y
 (FnW wP Zco ⟨[(vP (some ⟨b,0,none⟩)),(vI wI 2)]⟩ j fun f3 c0=>
 ∃e8,∃e9:ByteArray,∃z:Int,∃f0:Int,∃f1:Int,∃f2:Int,f3=(vA ⟨[(vI wI e8),(Value.string e9),(vI wI z),(vI vU f0),(vI wI f1),(vI wI f2)]⟩)∧
 Za c0 ⟨a,0,none⟩ (vI wI 4) fun c1=>
 Za c1 ⟨a,8,none⟩ (vI wI z) fun c2=>
 FnW wP Zco ⟨[(vP (some ⟨b,0,none⟩)),(vI wI 2)]⟩ c2 fun f9 c3=>
 ∃f4,∃f5:ByteArray,∃A:Int,∃f6:Int,∃f7:Int,∃f8:Int,f9=(vA ⟨[(vI wI f4),(Value.string f5),(vI wI A),(vI vU f6),(vI wI f7),(vI wI f8)]⟩)∧
 Za c3 ⟨a,9,none⟩ (vI wI A) fun c4=>
 Zgn b e a c4 d)
 (FnW wP Zbh ⟨[(vP (some ⟨b,0,none⟩)),(Value.string (ByteArray.mk #[108,111,99,97,108]))]⟩ j fun g0 k=>
 ∃B,g0=vB B∧
 IfB B
 (FnW wP Zco ⟨[(vP (some ⟨b,0,none⟩)),(vI wI 2)]⟩ k fun g6 c5=>
 ∃g1,∃g2:ByteArray,∃C:Int,∃g3:Int,∃g4:Int,∃g5:Int,g6=(vA ⟨[(vI wI g1),(Value.string g2),(vI wI C),(vI vU g3),(vI wI g4),(vI wI g5)]⟩)∧
 Za c5 ⟨a,0,none⟩ (vI wI 5) fun c6=>
 Za c6 ⟨a,8,none⟩ (vI wI C) fun c7=>
 Zgn b e a c7 d)
 (FnW wP Zbh ⟨[(vP (some ⟨b,0,none⟩)),(Value.string (ByteArray.mk #[109,101,100]))]⟩ k fun g7 l=>
 ∃D,g7=vB D∧
 IfB D
 (FnW wP Zco ⟨[(vP (some ⟨b,0,none⟩)),(vI wI 2)]⟩ l fun h3 c9=>
 ∃g8,∃g9:ByteArray,∃E:Int,∃h0:Int,∃h1:Int,∃h2:Int,h3=(vA ⟨[(vI wI g8),(Value.string g9),(vI wI E),(vI vU h0),(vI wI h1),(vI wI h2)]⟩)∧
 Za c9 ⟨a,0,none⟩ (vI wI 6) fun d0=>
 Za d0 ⟨a,8,none⟩ (vI wI E) fun d1=>
 Zgn b e a d1 d)
 (FnW wP Zbh ⟨[(vP (some ⟨b,0,none⟩)),(Value.string (ByteArray.mk #[97,100,100]))]⟩ l fun h4 m=>
 ∃F,h4=vB F∧
 IfB F
 (FnW wP Zco ⟨[(vP (some ⟨b,0,none⟩)),(vI wI 5)]⟩ m fun i0 d2=>
 ∃h5,∃h6:ByteArray,∃G:Int,∃h7:Int,∃h8:Int,∃h9:Int,i0=(vA ⟨[(vI wI h5),(Value.string h6),(vI wI G),(vI vU h7),(vI wI h8),(vI wI h9)]⟩)∧
 Za d2 ⟨a,0,none⟩ (vI wI 7) fun d3=>
 Za d3 ⟨a,8,none⟩ (vI wI G) fun d4=>
 Zgn b e a d4 d)
 (FnW wP Zbh ⟨[(vP (some ⟨b,0,none⟩)),(Value.string (ByteArray.mk #[100,114,111,112]))]⟩ m fun i1 n=>
 ∃H,i1=vB H∧
 IfB H
 (FnW wP Zco ⟨[(vP (some ⟨b,0,none⟩)),(vI wI 5)]⟩ n fun i7 d5=>
 ∃i2,∃i3:ByteArray,∃J:Int,∃i4:Int,∃i5:Int,∃i6:Int,i7=(vA ⟨[(vI wI i2),(Value.string i3),(vI wI J),(vI vU i4),(vI wI i5),(vI wI i6)]⟩)∧
 Za d5 ⟨a,0,none⟩ (vI wI 8) fun d6=>
 Za d6 ⟨a,8,none⟩ (vI wI J) fun d8=>
 Zgn b e a d8 d)
 (FnW wP Zbh ⟨[(vP (some ⟨b,0,none⟩)),(Value.string (ByteArray.mk #[99,108,101,97,114]))]⟩ n fun i8 o=>
 ∃K,i8=vB K∧
 IfB K
 (Za o ⟨a,0,none⟩ (vI wI 9) fun d9=>
 Zgn b e a d9 d)
 (Za o ⟨b,3,none⟩ (vB true) fun e0=>
 Zgn b e a e0 d)))))))))
theorem Zchm (d:Nat) {a:Heap} {c:Value->Heap->Prop} (f:Zbqi d a fun g e=>∀b,Shut a e b->c g b):FnW wP Zmg ⟨[(vP (some ⟨d,0,none⟩))]⟩ a c:=Zo Tryz.func97 ⟨[],[],[],[]⟩ (by kernel_rfl) (by kernel_rfl) f
def Zbfy (j a:Nat) (g:Option Addr) (f i:Nat) (X:Heap) (a2:((Option Addr×Nat×Nat)×Unit)->Heap->Prop) (h:Value->Heap->Prop):Prop:=
 FnW wP Zbh ⟨[(vP (some ⟨j,0,none⟩)),(Value.string (ByteArray.mk #[111,114]))]⟩ X fun a8 c=>
 ∃P,a8=vB P∧
 IfB P
 (FnW wP Zmj ⟨[(vP (some ⟨j,0,none⟩))]⟩ c fun a3 Y=>
 ∃y,∃(z:Option Addr) (B A:Nat),∃C:Int,∃D:Int,∃E:Int,a3=(vA ⟨[(vI wI y),(vS z B A),(vI vU C),(vI wI D),(vI wI E)]⟩)∧
 NewW Y (Obj.cells ⟨[(vI wI y),(vS z B A),(vI vU C),(vI wI D),(vI wI E)]⟩ Zj) fun a4 Z=>
 AppW wP #[Zgq,Zgq] Zgq [(vS g f i),(vS (some ⟨a4,0,none⟩) 1 1)] Z fun a5 a0=>
 ∃F H G,a5=vS F H G∧
 a2 ((F,H,G),()) a0)
 (IfB (((f:Int):Int)==1)
 (NilP g fun a7=>
 InB 0 f fun a6=>
 elemAt a7 a6 5 fun b=>
 ∃I,c.cell b=some (vI wI I)∧∃J L K,c.cell ⟨b.block,b.off+1,none⟩=some (vS J L K)∧∃M,c.cell ⟨b.block,b.off+2,none⟩=some (vI vU M)∧∃N,c.cell ⟨b.block,b.off+3,none⟩=some (vI wI N)∧∃O,c.cell ⟨b.block,b.off+4,none⟩=some (vI wI O)∧Za c ⟨a,0,none⟩ (vI wI I) fun a1=>
 Za a1 ⟨a,1,none⟩ (vS J L K) fun Q=>
 Za Q ⟨a,2,none⟩ (vI vU M) fun R=>
 Za R ⟨a,3,none⟩ (vI wI N) fun S=>
 Za S ⟨a,4,none⟩ (vI wI O) fun d=>
 ∃k,d.cell ⟨a,0,none⟩=some (vI wI k)∧∃m q o,d.cell ⟨a,1,none⟩=some (vS m q o)∧∃s,d.cell ⟨a,2,none⟩=some (vI vU s)∧∃u,d.cell ⟨a,3,none⟩=some (vI wI u)∧∃w,d.cell ⟨a,4,none⟩=some (vI wI w)∧h (vA ⟨[(vI wI k),(vS m q o),(vI vU s),(vI wI u),(vI wI w)]⟩) d)
 (Za c ⟨a,0,none⟩ (vI wI 2) fun T=>
 Za T ⟨a,1,none⟩ (vS g f i) fun U=>
 Za U ⟨a,2,none⟩ (vI vU 0) fun V=>
 Za V ⟨a,3,none⟩ (vI wI 0) fun W=>
 Za W ⟨a,4,none⟩ (vI wI 0) fun e=>
 ∃l,e.cell ⟨a,0,none⟩=some (vI wI l)∧∃n r p,e.cell ⟨a,1,none⟩=some (vS n r p)∧∃t,e.cell ⟨a,2,none⟩=some (vI vU t)∧∃v,e.cell ⟨a,3,none⟩=some (vI wI v)∧∃x,e.cell ⟨a,4,none⟩=some (vI wI x)∧h (vA ⟨[(vI wI l),(vS n r p),(vI vU t),(vI wI v),(vI wI x)]⟩) e))
def Zbfz (c:Nat) (a:Heap) (n:Value->Heap->Prop):Prop:=
 NewW a (Obj.cells ⟨[(vI wI 0),(vS none 0 0),(vI vU 0),(vI wI 0),(vI wI 0)]⟩ Zj) fun p k=>
 FnW wP Zmj ⟨[(vP (some ⟨c,0,none⟩))]⟩ k fun q l=>
 ∃d,∃(e:Option Addr) (g f:Nat),∃h:Int,∃i:Int,∃j:Int,q=(vA ⟨[(vI wI d),(vS e g f),(vI vU h),(vI wI i),(vI wI j)]⟩)∧
 NewW l (Obj.cells ⟨[(vI wI d),(vS e g f),(vI vU h),(vI wI i),(vI wI j)]⟩ Zj) fun r m=>
 Zct ((Option Addr×Nat×Nat)×Unit) (((some ⟨r,0,none⟩),1,1),()) m fun b a o=>∀s:Env,Zbfy c p b.1.1 b.1.2.1 b.1.2.2 a o n
theorem Zbrc (d:Nat) {a:Heap} {c:Value->Heap->Prop} (f:Zbfz d a fun g e=>∀b,Shut a e b->c g b):FnW wP Zjh ⟨[(vP (some ⟨d,0,none⟩))]⟩ a c:=Zo Tryz.func126 ⟨[],[(2,[3],[.slice],[0,2])],[],[]⟩ (by kernel_rfl) (by kernel_rfl) f
def Zbsy (a:Nat) (n:Heap) (d:Value->Heap->Prop):Prop:=
 FnW wP Zqb ⟨[(vP (some ⟨a,0,none⟩)),(Value.string (ByteArray.mk #[123]))]⟩ n fun u c=>
 ∃m,u=vB m∧
 IfB (!m)
 (Za c ⟨a,3,none⟩ (vB true) fun o=>
 d (vS none 0 0) o)
 (∃f,c.cell ⟨a,1,none⟩=some (vI wI f)∧
 Za c ⟨a,1,none⟩ (vI wI (vW wI (f+1))) fun p=>
 FnW wP Zml ⟨[(vP (some ⟨a,0,none⟩))]⟩ p fun s b=>
 s=vT ⟨[]⟩∧
 ∃g,b.cell ⟨a,3,none⟩=some (vB g)∧
 IfB g
 (d (vS none 0 0) b)
 (∃h,b.cell ⟨a,1,none⟩=some (vI wI h)∧
 Za b ⟨a,1,none⟩ (vI wI (vW wI (h - 1))) fun q=>
 FnW wP Zpw ⟨[(vP (some ⟨a,0,none⟩))]⟩ q fun t e=>
 ∃i k j,t=vS i k j∧
 ∃l,e.cell ⟨a,2,none⟩=some (vI wI l)∧
 Za e ⟨a,2,none⟩ (vI wI (vW wI (l - 1))) fun r=>
 d (vS i k j) r))
theorem Zcju (d:Nat) {a:Heap} {c:Value->Heap->Prop} (f:Zbsy d a fun g e=>∀b,Shut a e b->c g b):FnW wP Zqe ⟨[(vP (some ⟨d,0,none⟩))]⟩ a c:=Zo Tryz.func127 ⟨[],[],[],[]⟩ (by kernel_rfl) (by kernel_rfl) f
def Zbge (j a:Nat) (g:Option Addr) (f i:Nat) (X:Heap) (a2:((Option Addr×Nat×Nat)×Unit)->Heap->Prop) (h:Value->Heap->Prop):Prop:=
 FnW wP Zbh ⟨[(vP (some ⟨j,0,none⟩)),(Value.string (ByteArray.mk #[97,110,100]))]⟩ X fun a8 c=>
 ∃P,a8=vB P∧
 IfB P
 (FnW wP Zji ⟨[(vP (some ⟨j,0,none⟩))]⟩ c fun a3 Y=>
 ∃y,∃(z:Option Addr) (B A:Nat),∃C:Int,∃D:Int,∃E:Int,a3=(vA ⟨[(vI wI y),(vS z B A),(vI vU C),(vI wI D),(vI wI E)]⟩)∧
 NewW Y (Obj.cells ⟨[(vI wI y),(vS z B A),(vI vU C),(vI wI D),(vI wI E)]⟩ Zj) fun a4 Z=>
 AppW wP #[Zgq,Zgq] Zgq [(vS g f i),(vS (some ⟨a4,0,none⟩) 1 1)] Z fun a5 a0=>
 ∃F H G,a5=vS F H G∧
 a2 ((F,H,G),()) a0)
 (IfB (((f:Int):Int)==1)
 (NilP g fun a7=>
 InB 0 f fun a6=>
 elemAt a7 a6 5 fun b=>
 ∃I,c.cell b=some (vI wI I)∧∃J L K,c.cell ⟨b.block,b.off+1,none⟩=some (vS J L K)∧∃M,c.cell ⟨b.block,b.off+2,none⟩=some (vI vU M)∧∃N,c.cell ⟨b.block,b.off+3,none⟩=some (vI wI N)∧∃O,c.cell ⟨b.block,b.off+4,none⟩=some (vI wI O)∧Za c ⟨a,0,none⟩ (vI wI I) fun a1=>
 Za a1 ⟨a,1,none⟩ (vS J L K) fun Q=>
 Za Q ⟨a,2,none⟩ (vI vU M) fun R=>
 Za R ⟨a,3,none⟩ (vI wI N) fun S=>
 Za S ⟨a,4,none⟩ (vI wI O) fun d=>
 ∃k,d.cell ⟨a,0,none⟩=some (vI wI k)∧∃m q o,d.cell ⟨a,1,none⟩=some (vS m q o)∧∃s,d.cell ⟨a,2,none⟩=some (vI vU s)∧∃u,d.cell ⟨a,3,none⟩=some (vI wI u)∧∃w,d.cell ⟨a,4,none⟩=some (vI wI w)∧h (vA ⟨[(vI wI k),(vS m q o),(vI vU s),(vI wI u),(vI wI w)]⟩) d)
 (Za c ⟨a,0,none⟩ (vI wI 1) fun T=>
 Za T ⟨a,1,none⟩ (vS g f i) fun U=>
 Za U ⟨a,2,none⟩ (vI vU 0) fun V=>
 Za V ⟨a,3,none⟩ (vI wI 0) fun W=>
 Za W ⟨a,4,none⟩ (vI wI 0) fun e=>
 ∃l,e.cell ⟨a,0,none⟩=some (vI wI l)∧∃n r p,e.cell ⟨a,1,none⟩=some (vS n r p)∧∃t,e.cell ⟨a,2,none⟩=some (vI vU t)∧∃v,e.cell ⟨a,3,none⟩=some (vI wI v)∧∃x,e.cell ⟨a,4,none⟩=some (vI wI x)∧h (vA ⟨[(vI wI l),(vS n r p),(vI vU t),(vI wI v),(vI wI x)]⟩) e))
def Zbgf (c:Nat) (a:Heap) (n:Value->Heap->Prop):Prop:=
 NewW a (Obj.cells ⟨[(vI wI 0),(vS none 0 0),(vI vU 0),(vI wI 0),(vI wI 0)]⟩ Zj) fun p k=>
 FnW wP Zji ⟨[(vP (some ⟨c,0,none⟩))]⟩ k fun q l=>
 ∃d,∃(e:Option Addr) (g f:Nat),∃h:Int,∃i:Int,∃j:Int,q=(vA ⟨[(vI wI d),(vS e g f),(vI vU h),(vI wI i),(vI wI j)]⟩)∧
 NewW l (Obj.cells ⟨[(vI wI d),(vS e g f),(vI vU h),(vI wI i),(vI wI j)]⟩ Zj) fun r m=>
 Zct ((Option Addr×Nat×Nat)×Unit) (((some ⟨r,0,none⟩),1,1),()) m fun b a o=>∀s:Env,Zbge c p b.1.1 b.1.2.1 b.1.2.2 a o n
theorem Zbry (d:Nat) {a:Heap} {c:Value->Heap->Prop} (f:Zbgf d a fun g e=>∀b,Shut a e b->c g b):FnW wP Zmj ⟨[(vP (some ⟨d,0,none⟩))]⟩ a c:=Zo Tryz.func152 ⟨[],[(2,[3],[.slice],[0,2])],[],[]⟩ (by kernel_rfl) (by kernel_rfl) f
def Zze (b:Nat) (a:Heap) (e:Value->Heap->Prop):Prop:=
 ∃c,a.cell ⟨b,2,none⟩=some (vI wI c)∧
 Za a ⟨b,2,none⟩ (vI wI (vW wI (c+1))) fun d=>
 e (vT ⟨[]⟩) d
def Zbsd (a:Nat) (b:Heap) (c:Value->Heap->Prop):Prop:=
 ∃e,b.cell ⟨a,2,none⟩=some (vI wI e)∧
 IfB (e==24)
 (∃d,b.cell ⟨a,1,none⟩=some (vI wI d)∧
 Za b ⟨a,1,none⟩ (vI wI (vW wI (d - 1))) fun f=>
 Za f ⟨a,3,none⟩ (vB true) fun g=>
 Zze a g c)
 (Zze a b c)
theorem Zciz (d:Nat) {a:Heap} {c:Value->Heap->Prop} (f:Zbsd d a fun g e=>∀b,Shut a e b->c g b):FnW wP Zml ⟨[(vP (some ⟨d,0,none⟩))]⟩ a c:=Zo Tryz.func153 ⟨[],[],[],[]⟩ (by kernel_rfl) (by kernel_rfl) f
def Zbgh (b:Nat) (d2:Heap) (k:Value->Heap->Prop):Prop:=
 NewW d2 (Obj.cells ⟨[(vI wI 0),(vS none 0 0),(vI vU 0),(vI wI 0),(vI wI 0)]⟩ Zj) fun a l=>
 ∃d1,l.cell ⟨b,3,none⟩=some (vB d1)∧
 IfB d1
 (Za l ⟨a,0,none⟩ (vI wI 0) fun e1=>
 Za e1 ⟨a,1,none⟩ (vS none 0 0) fun f0=>
 Za f0 ⟨a,2,none⟩ (vI vU 0) fun f8=>
 Za f8 ⟨a,3,none⟩ (vI wI 0) fun g3=>
 Za g3 ⟨a,4,none⟩ (vI wI 0) fun j=>
 ∃q,j.cell ⟨a,0,none⟩=some (vI wI q)∧∃u C y,j.cell ⟨a,1,none⟩=some (vS u C y)∧∃G,j.cell ⟨a,2,none⟩=some (vI vU G)∧∃K,j.cell ⟨a,3,none⟩=some (vI wI K)∧∃O,j.cell ⟨a,4,none⟩=some (vI wI O)∧k (vA ⟨[(vI wI q),(vS u C y),(vI vU G),(vI wI K),(vI wI O)]⟩) j)
 (FnW wP Zbh ⟨[(vP (some ⟨b,0,none⟩)),(Value.string (ByteArray.mk #[110,111,116]))]⟩ l fun g6 p=>
 ∃S,g6=vB S∧
 IfB S
 (FnW wP Zml ⟨[(vP (some ⟨b,0,none⟩))]⟩ p fun g7 g4=>
 g7=vT ⟨[]⟩∧
 FnW wP Zji ⟨[(vP (some ⟨b,0,none⟩))]⟩ g4 fun g8 g5=>
 ∃T,∃(U:Option Addr) (W V:Nat),∃X:Int,∃Y:Int,∃Z:Int,g8=(vA ⟨[(vI wI T),(vS U W V),(vI vU X),(vI wI Y),(vI wI Z)]⟩)∧
 NewW g5 (Obj.cells ⟨[(vI wI 0),(vS none 0 0),(vI vU 0),(vI wI 0),(vI wI 0)]⟩ Zj) fun c d3=>
 Za d3 ⟨c,0,none⟩ (vI wI T) fun d4=>
 Za d4 ⟨c,1,none⟩ (vS U W V) fun d5=>
 Za d5 ⟨c,2,none⟩ (vI vU X) fun d6=>
 Za d6 ⟨c,3,none⟩ (vI wI Y) fun d7=>
 Za d7 ⟨c,4,none⟩ (vI wI Z) fun m=>
 ∃a0,m.cell ⟨b,2,none⟩=some (vI wI a0)∧
 Za m ⟨b,2,none⟩ (vI wI (vW wI (a0 - 1))) fun e=>
 ∃a1,e.cell ⟨c,0,none⟩=some (vI wI a1)∧∃a2 a4 a3,e.cell ⟨c,1,none⟩=some (vS a2 a4 a3)∧∃a5,e.cell ⟨c,2,none⟩=some (vI vU a5)∧∃a6,e.cell ⟨c,3,none⟩=some (vI wI a6)∧∃a7,e.cell ⟨c,4,none⟩=some (vI wI a7)∧NewW e (Obj.cells ⟨[(vI wI a1),(vS a2 a4 a3),(vI vU a5),(vI wI a6),(vI wI a7)]⟩ Zj) fun g9 d8=>
 Za d8 ⟨a,0,none⟩ (vI wI 3) fun d9=>
 Za d9 ⟨a,1,none⟩ (vS (some ⟨g9,0,none⟩) 1 1) fun e0=>
 Za e0 ⟨a,2,none⟩ (vI vU 0) fun e2=>
 Za e2 ⟨a,3,none⟩ (vI wI 0) fun e3=>
 Za e3 ⟨a,4,none⟩ (vI wI 0) fun f=>
 ∃r,f.cell ⟨a,0,none⟩=some (vI wI r)∧∃v D z,f.cell ⟨a,1,none⟩=some (vS v D z)∧∃H,f.cell ⟨a,2,none⟩=some (vI vU H)∧∃L,f.cell ⟨a,3,none⟩=some (vI wI L)∧∃P,f.cell ⟨a,4,none⟩=some (vI wI P)∧k (vA ⟨[(vI wI r),(vS v D z),(vI vU H),(vI wI L),(vI wI P)]⟩) f)
 (FnW wP Zbh ⟨[(vP (some ⟨b,0,none⟩)),(Value.string (ByteArray.mk #[40]))]⟩ p fun h0 n=>
 ∃a8,h0=vB a8∧
 IfB a8
 (FnW wP Zml ⟨[(vP (some ⟨b,0,none⟩))]⟩ n fun h1 e4=>
 h1=vT ⟨[]⟩∧
 FnW wP Zjh ⟨[(vP (some ⟨b,0,none⟩))]⟩ e4 fun h2 e5=>
 ∃a9,∃(b0:Option Addr) (b2 b1:Nat),∃b3:Int,∃b4:Int,∃b5:Int,h2=(vA ⟨[(vI wI a9),(vS b0 b2 b1),(vI vU b3),(vI wI b4),(vI wI b5)]⟩)∧
 NewW e5 (Obj.cells ⟨[(vI wI 0),(vS none 0 0),(vI vU 0),(vI wI 0),(vI wI 0)]⟩ Zj) fun d e6=>
 Za e6 ⟨d,0,none⟩ (vI wI a9) fun e7=>
 Za e7 ⟨d,1,none⟩ (vS b0 b2 b1) fun e8=>
 Za e8 ⟨d,2,none⟩ (vI vU b3) fun e9=>
 Za e9 ⟨d,3,none⟩ (vI wI b4) fun f1=>
 Za f1 ⟨d,4,none⟩ (vI wI b5) fun f2=>
 FnW wP Zgu ⟨[(vP (some ⟨b,0,none⟩)),(Value.string (ByteArray.mk #[41]))]⟩ f2 fun h3 o=>
 h3=vT ⟨[]⟩∧
 ∃b6,o.cell ⟨b,2,none⟩=some (vI wI b6)∧
 Za o ⟨b,2,none⟩ (vI wI (vW wI (b6 - 1))) fun g=>
 ∃b7,g.cell ⟨d,0,none⟩=some (vI wI b7)∧∃b8 c0 b9,g.cell ⟨d,1,none⟩=some (vS b8 c0 b9)∧∃c1,g.cell ⟨d,2,none⟩=some (vI vU c1)∧∃c2,g.cell ⟨d,3,none⟩=some (vI wI c2)∧∃c3,g.cell ⟨d,4,none⟩=some (vI wI c3)∧Za g ⟨a,0,none⟩ (vI wI b7) fun f3=>
 Za f3 ⟨a,1,none⟩ (vS b8 c0 b9) fun f4=>
 Za f4 ⟨a,2,none⟩ (vI vU c1) fun f5=>
 Za f5 ⟨a,3,none⟩ (vI wI c2) fun f6=>
 Za f6 ⟨a,4,none⟩ (vI wI c3) fun h=>
 ∃s,h.cell ⟨a,0,none⟩=some (vI wI s)∧∃w E A,h.cell ⟨a,1,none⟩=some (vS w E A)∧∃I,h.cell ⟨a,2,none⟩=some (vI vU I)∧∃M,h.cell ⟨a,3,none⟩=some (vI wI M)∧∃Q,h.cell ⟨a,4,none⟩=some (vI wI Q)∧k (vA ⟨[(vI wI s),(vS w E A),(vI vU I),(vI wI M),(vI wI Q)]⟩) h)
 (FnW wP Zbbc ⟨[(vP (some ⟨b,0,none⟩))]⟩ n fun h4 f7=>
 ∃c4,∃(c5:Option Addr) (c7 c6:Nat),∃c8:Int,∃c9:Int,∃d0:Int,h4=(vA ⟨[(vI wI c4),(vS c5 c7 c6),(vI vU c8),(vI wI c9),(vI wI d0)]⟩)∧
 Za f7 ⟨a,0,none⟩ (vI wI c4) fun f9=>
 Za f9 ⟨a,1,none⟩ (vS c5 c7 c6) fun g0=>
 Za g0 ⟨a,2,none⟩ (vI vU c8) fun g1=>
 Za g1 ⟨a,3,none⟩ (vI wI c9) fun g2=>
 Za g2 ⟨a,4,none⟩ (vI wI d0) fun i=>
 ∃t,i.cell ⟨a,0,none⟩=some (vI wI t)∧∃x F B,i.cell ⟨a,1,none⟩=some (vS x F B)∧∃J,i.cell ⟨a,2,none⟩=some (vI vU J)∧∃N,i.cell ⟨a,3,none⟩=some (vI wI N)∧∃R,i.cell ⟨a,4,none⟩=some (vI wI R)∧k (vA ⟨[(vI wI t),(vS x F B),(vI vU J),(vI wI N),(vI wI R)]⟩) i)))
theorem Zbsf (d:Nat) {a:Heap} {c:Value->Heap->Prop} (f:Zbgh d a fun g e=>∀b,Shut a e b->c g b):FnW wP Zji ⟨[(vP (some ⟨d,0,none⟩))]⟩ a c:=Zo Tryz.func175 ⟨[],[],[],[]⟩ (by kernel_rfl) (by kernel_rfl) f
def Zyt (a d:Nat) (b:Heap) (w:Value->Heap->Prop):Prop:=
 ∃l,b.cell ⟨d,0,none⟩=some (vI wI l)∧∃m o n,b.cell ⟨d,1,none⟩=some (vS m o n)∧∃p,b.cell ⟨d,2,none⟩=some (vI vU p)∧∃q,b.cell ⟨d,3,none⟩=some (vI wI q)∧∃r,b.cell ⟨d,4,none⟩=some (vI wI r)∧Za b ⟨a,0,none⟩ (vI wI l) fun s=>
 Za s ⟨a,1,none⟩ (vS m o n) fun t=>
 Za t ⟨a,2,none⟩ (vI vU p) fun u=>
 Za u ⟨a,3,none⟩ (vI wI q) fun v=>
 Za v ⟨a,4,none⟩ (vI wI r) fun c=>
 ∃e,c.cell ⟨a,0,none⟩=some (vI wI e)∧∃f h g,c.cell ⟨a,1,none⟩=some (vS f h g)∧∃i,c.cell ⟨a,2,none⟩=some (vI vU i)∧∃j,c.cell ⟨a,3,none⟩=some (vI wI j)∧∃k,c.cell ⟨a,4,none⟩=some (vI wI k)∧w (vA ⟨[(vI wI e),(vS f h g),(vI vU i),(vI wI j),(vI wI k)]⟩) c
def Zsn (q a:Nat) (j:Heap) (p:Value->Heap->Prop):Prop:=
 Za j ⟨q,3,none⟩ (vB true) fun k=>
 Za k ⟨a,0,none⟩ (vI wI 0) fun l=>
 Za l ⟨a,1,none⟩ (vS none 0 0) fun m=>
 Za m ⟨a,2,none⟩ (vI vU 0) fun n=>
 Za n ⟨a,3,none⟩ (vI wI 0) fun o=>
 Za o ⟨a,4,none⟩ (vI wI 0) fun b=>
 ∃c,b.cell ⟨a,0,none⟩=some (vI wI c)∧∃d f e,b.cell ⟨a,1,none⟩=some (vS d f e)∧∃g,b.cell ⟨a,2,none⟩=some (vI vU g)∧∃h,b.cell ⟨a,3,none⟩=some (vI wI h)∧∃i,b.cell ⟨a,4,none⟩=some (vI wI i)∧p (vA ⟨[(vI wI c),(vS d f e),(vI vU g),(vI wI h),(vI wI i)]⟩) b
def Zbfv (e a D:Nat) (c:Int) (d:Heap) (C:(Int×Unit)->Heap->Prop) (g:Value->Heap->Prop):Prop:=
 IfB (decide (c<4))
 (InB c 4 fun E=>
 ∃o,d.cell ⟨D,0+E*1,none⟩=some (Value.string o)∧
 FnW wP Zbh ⟨[(vP (some ⟨e,0,none⟩)),(Value.string o)]⟩ d fun F f=>
 ∃p,F=vB p∧
 IfB p
 (FnW wP Zqc ⟨[(vP (some ⟨e,0,none⟩)),(vI wI (vW wI (6+c))),(vI wI 2)]⟩ f fun G x=>
 ∃q,∃(r:Option Addr) (t s:Nat),∃u:Int,∃v:Int,∃w:Int,G=(vA ⟨[(vI wI q),(vS r t s),(vI vU u),(vI wI v),(vI wI w)]⟩)∧
 Za x ⟨a,0,none⟩ (vI wI q) fun y=>
 Za y ⟨a,1,none⟩ (vS r t s) fun z=>
 Za z ⟨a,2,none⟩ (vI vU u) fun A=>
 Za A ⟨a,3,none⟩ (vI wI v) fun B=>
 Za B ⟨a,4,none⟩ (vI wI w) fun b=>
 ∃h,b.cell ⟨a,0,none⟩=some (vI wI h)∧∃i k j,b.cell ⟨a,1,none⟩=some (vS i k j)∧∃l,b.cell ⟨a,2,none⟩=some (vI vU l)∧∃m,b.cell ⟨a,3,none⟩=some (vI wI m)∧∃n,b.cell ⟨a,4,none⟩=some (vI wI n)∧g (vA ⟨[(vI wI h),(vS i k j),(vI vU l),(vI wI m),(vI wI n)]⟩) b)
 (C ((vW wI (c+1)),()) f))
 (Zsn e a d g)
def Zbfw (g a v:Nat) (c:Int) (d:Heap) (u:(Int×Unit)->Heap->Prop) (f:Value->Heap->Prop):Prop:=
 IfB (decide (c<3))
 (InB c 3 fun w=>
 ∃o,d.cell ⟨v,0+w*1,none⟩=some (Value.string o)∧
 FnW wP Zbh ⟨[(vP (some ⟨g,0,none⟩)),(Value.string o)]⟩ d fun x e=>
 ∃p,x=vB p∧
 IfB p
 (Za e ⟨a,0,none⟩ (vI wI 11) fun q=>
 Za q ⟨a,1,none⟩ (vS none 0 0) fun r=>
 Za r ⟨a,2,none⟩ (vI vU 0) fun s=>
 Za s ⟨a,3,none⟩ (vI wI 0) fun t=>
 Za t ⟨a,4,none⟩ (vI wI c) fun b=>
 ∃h,b.cell ⟨a,0,none⟩=some (vI wI h)∧∃i k j,b.cell ⟨a,1,none⟩=some (vS i k j)∧∃l,b.cell ⟨a,2,none⟩=some (vI vU l)∧∃m,b.cell ⟨a,3,none⟩=some (vI wI m)∧∃n,b.cell ⟨a,4,none⟩=some (vI wI n)∧f (vA ⟨[(vI wI h),(vS i k j),(vI vU l),(vI wI m),(vI wI n)]⟩) b)
 (u ((vW wI (c+1)),()) e))
 (Zsn g a d f)
def Zbqu (b:Nat) (h:Heap) (c:Value->Heap->Prop):Prop:=
 NewW h (Obj.cells ⟨[(vI wI 0),(vS none 0 0),(vI vU 0),(vI wI 0),(vI wI 0)]⟩ Zj) fun a b2=>
 FnW wP Zbh ⟨[(vP (some ⟨b,0,none⟩)),(Value.string (ByteArray.mk #[112,114,101,102,105,120]))]⟩ b2 fun h0 l=>
 ∃b1,h0=vB b1∧
 IfB b1
 (FnW wP Zbh ⟨[(vP (some ⟨b,0,none⟩)),(Value.string (ByteArray.mk #[105,115]))]⟩ l fun e2 n=>
 ∃M,e2=vB M∧
 IfB M
 (FnW wP Zco ⟨[(vP (some ⟨b,0,none⟩)),(vI wI 4)]⟩ n fun e7 c4=>
 ∃e3,∃e4:ByteArray,∃e5:Int,∃N:Int,∃O:Int,∃e6:Int,e7=(vA ⟨[(vI wI e3),(Value.string e4),(vI wI e5),(vI vU N),(vI wI O),(vI wI e6)]⟩)∧
 Za c4 ⟨a,0,none⟩ (vI wI 5) fun d0=>
 Za d0 ⟨a,1,none⟩ (vS none 0 0) fun d2=>
 Za d2 ⟨a,2,none⟩ (vI vU N) fun d9=>
 Za d9 ⟨a,3,none⟩ (vI wI O) fun e0=>
 Za e0 ⟨a,4,none⟩ (vI wI 0) fun g=>
 ∃r,g.cell ⟨a,0,none⟩=some (vI wI r)∧∃u A x,g.cell ⟨a,1,none⟩=some (vS u A x)∧∃D,g.cell ⟨a,2,none⟩=some (vI vU D)∧∃G,g.cell ⟨a,3,none⟩=some (vI wI G)∧∃J,g.cell ⟨a,4,none⟩=some (vI wI J)∧c (vA ⟨[(vI wI r),(vS u A x),(vI vU D),(vI wI G),(vI wI J)]⟩) g)
 (FnW wP Zgu ⟨[(vP (some ⟨b,0,none⟩)),(Value.string (ByteArray.mk #[105,110]))]⟩ n fun e8 b3=>
 e8=vT ⟨[]⟩∧
 FnW wP Zco ⟨[(vP (some ⟨b,0,none⟩)),(vI wI 4)]⟩ b3 fun f3 b4=>
 ∃e9,∃f0:ByteArray,∃f1:Int,∃P:Int,∃Q:Int,∃f2:Int,f3=(vA ⟨[(vI wI e9),(Value.string f0),(vI wI f1),(vI vU P),(vI wI Q),(vI wI f2)]⟩)∧
 NewW b4 (Obj.cells ⟨[(vI wI 0),(vS none 0 0),(vI vU 0),(vI wI 0),(vI wI 0)]⟩ Zj) fun d b5=>
 Za b5 ⟨d,0,none⟩ (vI wI 4) fun b6=>
 Za b6 ⟨d,1,none⟩ (vS none 0 0) fun b7=>
 Za b7 ⟨d,2,none⟩ (vI vU P) fun b8=>
 Za b8 ⟨d,3,none⟩ (vI wI Q) fun b9=>
 Za b9 ⟨d,4,none⟩ (vI wI 32) fun c0=>
 FnW wP Zbh ⟨[(vP (some ⟨b,0,none⟩)),(Value.string (ByteArray.mk #[108,101]))]⟩ c0 fun f4 k=>
 ∃R,f4=vB R∧
 IfB R
 (FnW wP Zco ⟨[(vP (some ⟨b,0,none⟩)),(vI wI 2)]⟩ k fun g0 c1=>
 ∃f5,∃f6:ByteArray,∃S:Int,∃f7:Int,∃f8:Int,∃f9:Int,g0=(vA ⟨[(vI wI f5),(Value.string f6),(vI wI S),(vI vU f7),(vI wI f8),(vI wI f9)]⟩)∧
 Za c1 ⟨d,4,none⟩ (vI wI S) fun c2=>
 Zyt a d c2 c)
 (Zyt a d k c)))
 (FnW wP Zbh ⟨[(vP (some ⟨b,0,none⟩)),(Value.string (ByteArray.mk #[112,97,116,104]))]⟩ l fun g1 m=>
 ∃T,g1=vB T∧
 IfB T
 (NewW m (Obj.cells ⟨[(Value.string (ByteArray.mk #[104,97,115])),(Value.string (ByteArray.mk #[102,114,111,109])),(Value.string (ByteArray.mk #[111,114,105,103,105,110])),(Value.string (ByteArray.mk #[108,111,110,103,101,114]))]⟩ Zcv) fun g2 c3=>
 Zct (Int×Unit) (0,()) c3 fun j h i=>∀e1:Env,Zbfv b a g2 j.1 h i c)
 (FnW wP Zbh ⟨[(vP (some ⟨b,0,none⟩)),(Value.string (ByteArray.mk #[99,111,109,109,117,110,105,116,121]))]⟩ m fun g3 o=>
 ∃U,g3=vB U∧
 IfB U
 (FnW wP Zqc ⟨[(vP (some ⟨b,0,none⟩)),(vI wI 10),(vI wI 5)]⟩ o fun g4 c5=>
 ∃V,∃(W:Option Addr) (Y X:Nat),∃Z:Int,∃a0:Int,∃a1:Int,g4=(vA ⟨[(vI wI V),(vS W Y X),(vI vU Z),(vI wI a0),(vI wI a1)]⟩)∧
 Za c5 ⟨a,0,none⟩ (vI wI V) fun c6=>
 Za c6 ⟨a,1,none⟩ (vS W Y X) fun c7=>
 Za c7 ⟨a,2,none⟩ (vI vU Z) fun c8=>
 Za c8 ⟨a,3,none⟩ (vI wI a0) fun c9=>
 Za c9 ⟨a,4,none⟩ (vI wI a1) fun e=>
 ∃s,e.cell ⟨a,0,none⟩=some (vI wI s)∧∃v B y,e.cell ⟨a,1,none⟩=some (vS v B y)∧∃E,e.cell ⟨a,2,none⟩=some (vI vU E)∧∃H,e.cell ⟨a,3,none⟩=some (vI wI H)∧∃K,e.cell ⟨a,4,none⟩=some (vI wI K)∧c (vA ⟨[(vI wI s),(vS v B y),(vI vU E),(vI wI H),(vI wI K)]⟩) e)
 (FnW wP Zbh ⟨[(vP (some ⟨b,0,none⟩)),(Value.string (ByteArray.mk #[111,114,105,103,105,110]))]⟩ o fun g5 p=>
 ∃a2,g5=vB a2∧
 IfB a2
 (NewW p (Obj.cells ⟨[(Value.string (ByteArray.mk #[105,110,110,101,114])),(Value.string (ByteArray.mk #[111,117,116,101,114])),(Value.string (ByteArray.mk #[117,110,107,110,111,119,110]))]⟩ Zcv) fun g6 d1=>
 Zct (Int×Unit) (0,()) d1 fun j h i=>∀e1:Env,Zbfw b a g6 j.1 h i c)
 (FnW wP Zbh ⟨[(vP (some ⟨b,0,none⟩)),(Value.string (ByteArray.mk #[109,101,100]))]⟩ p fun g7 q=>
 ∃a3,g7=vB a3∧
 IfB a3
 (FnW wP Zgu ⟨[(vP (some ⟨b,0,none⟩)),(Value.string (ByteArray.mk #[97,98,111,118,101]))]⟩ q fun g8 d3=>
 g8=vT ⟨[]⟩∧
 FnW wP Zqc ⟨[(vP (some ⟨b,0,none⟩)),(vI wI 12),(vI wI 2)]⟩ d3 fun g9 d4=>
 ∃a4,∃(a5:Option Addr) (a7 a6:Nat),∃a8:Int,∃a9:Int,∃b0:Int,g9=(vA ⟨[(vI wI a4),(vS a5 a7 a6),(vI vU a8),(vI wI a9),(vI wI b0)]⟩)∧
 Za d4 ⟨a,0,none⟩ (vI wI a4) fun d5=>
 Za d5 ⟨a,1,none⟩ (vS a5 a7 a6) fun d6=>
 Za d6 ⟨a,2,none⟩ (vI vU a8) fun d7=>
 Za d7 ⟨a,3,none⟩ (vI wI a9) fun d8=>
 Za d8 ⟨a,4,none⟩ (vI wI b0) fun f=>
 ∃t,f.cell ⟨a,0,none⟩=some (vI wI t)∧∃w C z,f.cell ⟨a,1,none⟩=some (vS w C z)∧∃F,f.cell ⟨a,2,none⟩=some (vI vU F)∧∃I,f.cell ⟨a,3,none⟩=some (vI wI I)∧∃L,f.cell ⟨a,4,none⟩=some (vI wI L)∧c (vA ⟨[(vI wI t),(vS w C z),(vI vU F),(vI wI I),(vI wI L)]⟩) f)
 (Zsn b a q c)))))
theorem Zchw (d:Nat) {a:Heap} {c:Value->Heap->Prop} (f:Zbqu d a fun g e=>∀b,Shut a e b->c g b):FnW wP Zbbc ⟨[(vP (some ⟨d,0,none⟩))]⟩ a c:=Zo Tryz.func186 ⟨[],[(12,[5],[.int wI],[0,2,4]),(21,[7],[.int wI],[0,2,6])],[],[]⟩ (by kernel_rfl) (by kernel_rfl) f
def Zbsu (u:Nat) (t s:Int) (k:Heap) (r:Value->Heap->Prop):Prop:=
 NewW k (Obj.cells ⟨[(vI wI 0),(vS none 0 0),(vI vU 0),(vI wI 0),(vI wI 0)]⟩ Zj) fun a l=>
 FnW wP Zco ⟨[(vP (some ⟨u,0,none⟩)),(vI wI s)]⟩ l fun A m=>
 ∃v,∃w:ByteArray,∃j:Int,∃x:Int,∃y:Int,∃z:Int,A=(vA ⟨[(vI wI v),(Value.string w),(vI wI j),(vI vU x),(vI wI y),(vI wI z)]⟩)∧
 Za m ⟨a,0,none⟩ (vI wI t) fun n=>
 Za n ⟨a,1,none⟩ (vS none 0 0) fun o=>
 Za o ⟨a,2,none⟩ (vI vU 0) fun p=>
 Za p ⟨a,3,none⟩ (vI wI 0) fun q=>
 Za q ⟨a,4,none⟩ (vI wI j) fun b=>
 ∃c,b.cell ⟨a,0,none⟩=some (vI wI c)∧∃d f e,b.cell ⟨a,1,none⟩=some (vS d f e)∧∃g,b.cell ⟨a,2,none⟩=some (vI vU g)∧∃h,b.cell ⟨a,3,none⟩=some (vI wI h)∧∃i,b.cell ⟨a,4,none⟩=some (vI wI i)∧r (vA ⟨[(vI wI c),(vS d f e),(vI vU g),(vI wI h),(vI wI i)]⟩) b
theorem Zcjo (f:Nat) (e d:Int) {a:Heap} {c:Value->Heap->Prop} (h:Zbsu f e d a fun i g=>∀b,Shut a g b->c i b):FnW wP Zqc ⟨[(vP (some ⟨f,0,none⟩)),(vI wI e),(vI wI d)]⟩ a c:=Zo Tryz.func190 ⟨[],[],[],[]⟩ (by kernel_rfl) (by kernel_rfl) h
end Go.Proofs.YtlkdgfolbllngaaGreatDoor
end
section
set_option maxRecDepth 100000
namespace Go.Proofs.YtlkdgfolbllngaaGreatDoor
open Go.Sh
open Value renaming int -> vI, slice -> vS, pointer -> vP, bool -> vB, tuple -> vT, agg -> vA, func -> vF
open IntKind renaming wrap -> vW, i64 -> wI, u32 -> vU
open Go.Proofs.Tryz renaming prog -> wP
def Zbto (P:Heap) (d:Value->Heap->Prop):Prop:=
 FnW wP Zuq ⟨[(Value.string (ByteArray.mk #[115,121,115,116,101,109,32,54,53,48,48,48,59,32,114,111,117,116,101,114,32,49,48,46,48,46,48,46,49,59,32,112,101,101,114,32,97,32,49,48,46,48,46,48,46,50,32,97,115,32,54,53,48,48,49,32,119,97,105,116,115,59]))]⟩ P fun a6 Q=>
 ∃D,∃E:Int,∃F:Int,∃G:Int,∃H:Int,∃(I:Option Addr) (K J:Nat),∃(L:Option Addr) (N M:Nat),∃a5:Int,∃O:Int,a6=(vT ⟨[(vA ⟨[(vI vU D),(vI vU E),(vI wI F),(vI wI G),(vI wI H),(vS I K J),(vS L N M)]⟩),(vI wI a5),(vI wI O)]⟩)∧
 NewW Q (Obj.cells ⟨[(vI vU 0),(vI vU 0),(vI wI 0),(vI wI 0),(vI wI 0),(vS none 0 0),(vS none 0 0)]⟩ Zcj) fun b S=>
 Za S ⟨b,0,none⟩ (vI vU D) fun T=>
 Za T ⟨b,1,none⟩ (vI vU E) fun U=>
 Za U ⟨b,2,none⟩ (vI wI F) fun V=>
 Za V ⟨b,3,none⟩ (vI wI G) fun W=>
 Za W ⟨b,4,none⟩ (vI wI H) fun X=>
 Za X ⟨b,5,none⟩ (vS I K J) fun Y=>
 Za Y ⟨b,6,none⟩ (vS L N M) fun a=>
 IfB (O==0)
 (∃e,a.cell ⟨b,0,none⟩=some (vI vU e)∧
 IfB (e==65000)
 (∃f,a.cell ⟨b,1,none⟩=some (vI vU f)∧
 IfB (f==167772161)
 (∃g,a.cell ⟨b,2,none⟩=some (vI wI g)∧
 IfB (g==90)
 (∃Z h a0,a.cell ⟨b,6,none⟩=some (vS Z h a0)∧
 IfB (((h:Int):Int)==1)
 (∃i j a1,a.cell ⟨b,6,none⟩=some (vS i j a1)∧
 NilP i fun a3=>
 InB 0 j fun a2=>
 elemAt a3 a2 7 fun c=>
 ∃k,a.cell c=some (Value.string k)∧∃l,a.cell ⟨c.block,c.off+1,none⟩=some (vI vU l)∧∃m,a.cell ⟨c.block,c.off+2,none⟩=some (vI vU m)∧∃n,a.cell ⟨c.block,c.off+3,none⟩=some (vB n)∧∃o,a.cell ⟨c.block,c.off+4,none⟩=some (vI wI o)∧∃p,a.cell ⟨c.block,c.off+5,none⟩=some (Value.string p)∧∃q,a.cell ⟨c.block,c.off+6,none⟩=some (Value.string q)∧Program.eqGuardType wP (Program.depth wP) Zv=false∧
 IfB ((k==(ByteArray.mk #[97]))&&((l==167772162)&&((m==65001)&&((n==true)&&((o==0)&&((p==(ByteArray.mk #[]))&&((q==(ByteArray.mk #[]))&&true)))))))
 (∃r,a.cell ⟨b,0,none⟩=some (vI vU r)∧∃s,a.cell ⟨b,1,none⟩=some (vI vU s)∧∃t,a.cell ⟨b,2,none⟩=some (vI wI t)∧∃u,a.cell ⟨b,3,none⟩=some (vI wI u)∧∃v,a.cell ⟨b,4,none⟩=some (vI wI v)∧∃w y x,a.cell ⟨b,5,none⟩=some (vS w y x)∧∃z B A,a.cell ⟨b,6,none⟩=some (vS z B A)∧FnW wP Zbbb ⟨[(vA ⟨[(vI vU r),(vI vU s),(vI wI t),(vI wI u),(vI wI v),(vS w y x),(vS z B A)]⟩)]⟩ a fun a4 R=>
 ∃C,a4=vI wI C∧
 d (vB (C==0)) R)
 (d (vB false) a))
 (d (vB false) a))
 (d (vB false) a))
 (d (vB false) a))
 (d (vB false) a))
 (d (vB false) a)
theorem Zckj {a:Heap} {c:Value->Heap->Prop} (e:Zbto a fun f d=>∀b,Shut a d b->c f b):FnW wP Zbbt ⟨[]⟩ a c:=Zo Tryz.func10 ⟨[],[],[],[]⟩ (by kernel_rfl) (by kernel_rfl) e
def Zys (d:Nat) (n:Bool) (b:Heap) (a:Value->Heap->Prop):Prop:=
 IfB n
 (a (vI wI 2) b)
 (∃f h g,b.cell ⟨d,5,none⟩=some (vS f h g)∧
 FnW wP Zbbu ⟨[(vS f h g),(vF (.func 35) #[] #[])]⟩ b fun o c=>
 ∃i,o=vB i∧
 IfB i
 (a (vI wI 2) c)
 (∃j l k,c.cell ⟨d,6,none⟩=some (vS j l k)∧
 FnW wP Zbjd ⟨[(vS j l k),(vF (.func Zqg) #[] #[(vP (some ⟨d,0,none⟩))])]⟩ c fun p e=>
 ∃m,p=vB m∧
 IfB m
 (a (vI wI 2) e)
 (a (vI wI 0) e)))
def Zbfu (a:Nat) (s:Bool) (c:Heap) (b:Value->Heap->Prop):Prop:=
 IfB s
 (b (vI wI 2) c)
 (∃f h g,c.cell ⟨a,5,none⟩=some (vS f h g)∧
 FnW wP Zbbp ⟨[(vS f h g),(vF (.func 29) #[] #[])]⟩ c fun t d=>
 ∃i,t=vB i∧
 IfB i
 (Zys a true d b)
 (∃j l k,d.cell ⟨a,6,none⟩=some (vS j l k)∧
 FnW wP Zbbn ⟨[(vS j l k),(vF (.func 31) #[] #[])]⟩ d fun u e=>
 ∃m,u=vB m∧
 IfB m
 (Zys a true e b)
 (∃n p o,e.cell ⟨a,6,none⟩=some (vS n p o)∧
 FnW wP Zbbo ⟨[(vS n p o),(vF (.func 33) #[] #[])]⟩ e fun v r=>
 ∃q,v=vB q∧
 Zys a q r b)))
def Zsm (b:Nat) (f:Bool) (a:Heap) (c:Value->Heap->Prop):Prop:=
 IfB f
 (c (vI wI 2) a)
 (∃g d h,a.cell ⟨b,5,none⟩=some (vS g d h)∧
 IfB (decide (((d:Int):Int)>32))
 (Zbfu b true a c)
 (∃i e j,a.cell ⟨b,6,none⟩=some (vS i e j)∧
 Zbfu b (decide (((e:Int):Int)>16)) a c))
def Zlm (b:Nat) (h:Bool) (a:Heap) (c:Value->Heap->Prop):Prop:=
 IfB h
 (c (vI wI 2) a)
 (∃d,a.cell ⟨b,3,none⟩=some (vI wI d)∧
 IfB (decide (d<1))
 (Zsm b true a c)
 (∃e,a.cell ⟨b,3,none⟩=some (vI wI e)∧
 IfB (decide (e>100000))
 (Zsm b true a c)
 (∃f,a.cell ⟨b,4,none⟩=some (vI wI f)∧
 IfB (decide (f<0))
 (Zsm b true a c)
 (∃g,a.cell ⟨b,4,none⟩=some (vI wI g)∧
 Zsm b (decide (g>4095)) a c))))
def Zbqs (k l m n o:Int) (p:Option Addr) (r q:Nat) (s:Option Addr) (u t:Nat) (j:Heap) (c:Value->Heap->Prop):Prop:=
 NewW j (Obj.cells ⟨[(vI vU k),(vI vU l),(vI wI m),(vI wI n),(vI wI o),(vS p r q),(vS s u t)]⟩ Zcj) fun b a=>
 ∃h,a.cell ⟨b,0,none⟩=some (vI vU h)∧
 IfB (h==0)
 (Zlm b true a c)
 (∃i,a.cell ⟨b,1,none⟩=some (vI vU i)∧
 IfB (i==0)
 (Zlm b true a c)
 (∃d,a.cell ⟨b,2,none⟩=some (vI wI d)∧
 IfB (decide (d<0))
 (Zlm b true a c)
 (∃e,a.cell ⟨b,2,none⟩=some (vI wI e)∧
 IfB (e==1)
 (Zlm b true a c)
 (∃f,a.cell ⟨b,2,none⟩=some (vI wI f)∧
 IfB (f==2)
 (Zlm b true a c)
 (∃g,a.cell ⟨b,2,none⟩=some (vI wI g)∧
 Zlm b (decide (g>65535)) a c)))))
theorem Zcht (d e f g h:Int) (i:Option Addr) (k j:Nat) (l:Option Addr) (n m:Nat) {a:Heap} {c:Value->Heap->Prop} (p:Zbqs d e f g h i k j l n m a fun q o=>∀b,Shut a o b->c q b):FnW wP Zbbb ⟨[(vA ⟨[(vI vU d),(vI vU e),(vI wI f),(vI wI g),(vI wI h),(vS i k j),(vS l n m)]⟩)]⟩ a c:=Zo Tryz.func13 ⟨[],[],[],[]⟩ (by kernel_rfl) (by kernel_rfl) p
def Zbsz (k:FuncId) (h:Value) (G:Option Addr) (l O:Nat) (e:Int) (b:Heap) (H:(Int×Unit)->Heap->Prop) (j:Value->Heap->Prop):Prop:=
 IfB (decide (e<(l:Int)))
 (NilP G fun J=>
 InB e l fun I=>
 elemAt J I 2 fun f=>
 ∃m,b.cell f=some (Value.string m)∧∃n p o,b.cell ⟨f.block,f.off+1,none⟩=some (vS n p o)∧NewW b (Obj.cells ⟨[(Value.string (ByteArray.mk #[])),(vS none 0 0)]⟩ Zek) fun a B=>
 Za B ⟨a,0,none⟩ (Value.string m) fun C=>
 Za C ⟨a,1,none⟩ (vS n p o) fun c=>
 ∃q,c.cell ⟨a,0,none⟩=some (Value.string q)∧∃r t s,c.cell ⟨a,1,none⟩=some (vS r t s)∧FnW wP k ⟨[(vA ⟨[(Value.string q),(vS r t s)]⟩)]⟩ c fun K D=>
 ∃g,K=Value.string g∧
 SemW wP (Instr.lookup Zii h (Value.string g) false) D fun L E=>
 ∃u,L=vI wI u∧
 MuW wP Zii h (Value.string g) (vI wI (vW wI (u+1))) E fun P d=>
 ∃v,d.cell ⟨a,0,none⟩=some (Value.string v)∧∃w y x,d.cell ⟨a,1,none⟩=some (vS w y x)∧FnW wP k ⟨[(vA ⟨[(Value.string v),(vS w y x)]⟩)]⟩ d fun M F=>
 ∃z,M=Value.string z∧
 SemW wP (Instr.lookup Zii h (Value.string z) false) F fun N i=>
 ∃A,N=vI wI A∧
 IfB (decide (A>1))
 (j (vB true) i)
 (H ((vW wI (e+1)),()) i))
 (j (vB false) b)
def Zbta (e:Option Addr) (g f:Nat) (d:FuncId) (a:Heap) (c:Value->Heap->Prop):Prop:=
 MkW wP Zii a fun j b=>
 Zct (Int×Unit) (0,()) b fun i a h=>∀k:Env,Zbsz d j e g f i.1 a h c
theorem Zcjv (e:Option Addr) (g f:Nat) (d:FuncId) {a:Heap} {c:Value->Heap->Prop} (i:Zbta e g f d a fun j h=>∀b,Shut a h b->c j b):FnW wP Zbbp ⟨[(vS e g f),(vF (.func d) #[] #[])]⟩ a c:=Zo Tryz.func28 ⟨[],[(3,[11],[.int wI],[1,5,9,10])],[],[]⟩ (by kernel_rfl) (by kernel_rfl) i
def Zbgm (k:FuncId) (h:Value) (U:Option Addr) (l a2:Nat) (f:Int) (c:Heap) (V:(Int×Unit)->Heap->Prop) (j:Value->Heap->Prop):Prop:=
 IfB (decide (f<(l:Int)))
 (NilP U fun X=>
 InB f l fun W=>
 elemAt X W 7 fun b=>
 ∃m,c.cell b=some (Value.string m)∧∃n,c.cell ⟨b.block,b.off+1,none⟩=some (vI vU n)∧∃o,c.cell ⟨b.block,b.off+2,none⟩=some (vI vU o)∧∃p,c.cell ⟨b.block,b.off+3,none⟩=some (vB p)∧∃q,c.cell ⟨b.block,b.off+4,none⟩=some (vI wI q)∧∃r,c.cell ⟨b.block,b.off+5,none⟩=some (Value.string r)∧∃s,c.cell ⟨b.block,b.off+6,none⟩=some (Value.string s)∧NewW c (Obj.cells ⟨[(Value.string (ByteArray.mk #[])),(vI vU 0),(vI vU 0),(vB false),(vI wI 0),(Value.string (ByteArray.mk #[])),(Value.string (ByteArray.mk #[]))]⟩ Zv) fun a N=>
 Za N ⟨a,0,none⟩ (Value.string m) fun O=>
 Za O ⟨a,1,none⟩ (vI vU n) fun P=>
 Za P ⟨a,2,none⟩ (vI vU o) fun Q=>
 Za Q ⟨a,3,none⟩ (vB p) fun R=>
 Za R ⟨a,4,none⟩ (vI wI q) fun S=>
 Za S ⟨a,5,none⟩ (Value.string r) fun T=>
 Za T ⟨a,6,none⟩ (Value.string s) fun d=>
 ∃t,d.cell ⟨a,0,none⟩=some (Value.string t)∧∃u,d.cell ⟨a,1,none⟩=some (vI vU u)∧∃v,d.cell ⟨a,2,none⟩=some (vI vU v)∧∃w,d.cell ⟨a,3,none⟩=some (vB w)∧∃x,d.cell ⟨a,4,none⟩=some (vI wI x)∧∃y,d.cell ⟨a,5,none⟩=some (Value.string y)∧∃z,d.cell ⟨a,6,none⟩=some (Value.string z)∧FnW wP k ⟨[(vA ⟨[(Value.string t),(vI vU u),(vI vU v),(vB w),(vI wI x),(Value.string y),(Value.string z)]⟩)]⟩ d fun Y K=>
 ∃g,Y=Value.string g∧
 SemW wP (Instr.lookup Zii h (Value.string g) false) K fun Z L=>
 ∃A,Z=vI wI A∧
 MuW wP Zii h (Value.string g) (vI wI (vW wI (A+1))) L fun a3 e=>
 ∃B,e.cell ⟨a,0,none⟩=some (Value.string B)∧∃C,e.cell ⟨a,1,none⟩=some (vI vU C)∧∃D,e.cell ⟨a,2,none⟩=some (vI vU D)∧∃E,e.cell ⟨a,3,none⟩=some (vB E)∧∃F,e.cell ⟨a,4,none⟩=some (vI wI F)∧∃G,e.cell ⟨a,5,none⟩=some (Value.string G)∧∃H,e.cell ⟨a,6,none⟩=some (Value.string H)∧FnW wP k ⟨[(vA ⟨[(Value.string B),(vI vU C),(vI vU D),(vB E),(vI wI F),(Value.string G),(Value.string H)]⟩)]⟩ e fun a0 M=>
 ∃I,a0=Value.string I∧
 SemW wP (Instr.lookup Zii h (Value.string I) false) M fun a1 i=>
 ∃J,a1=vI wI J∧
 IfB (decide (J>1))
 (j (vB true) i)
 (V ((vW wI (f+1)),()) i))
 (j (vB false) c)
def Zbsv (e:Option Addr) (g f:Nat) (d:FuncId) (a:Heap) (c:Value->Heap->Prop):Prop:=
 MkW wP Zii a fun j b=>
 Zct (Int×Unit) (0,()) b fun i a h=>∀k:Env,Zbgm d j e g f i.1 a h c
theorem Zcjp (e:Option Addr) (g f:Nat) (d:FuncId) {a:Heap} {c:Value->Heap->Prop} (i:Zbsv e g f d a fun j h=>∀b,Shut a h b->c j b):FnW wP Zbbn ⟨[(vS e g f),(vF (.func d) #[] #[])]⟩ a c:=Zo Tryz.func30 ⟨[],[(3,[11],[.int wI],[1,5,9,10])],[],[]⟩ (by kernel_rfl) (by kernel_rfl) i
def Zbtk (e:ByteArray) (f g:Int) (h:Bool) (i:Int) (j k:ByteArray) (c:Heap) (d:Value->Heap->Prop):Prop:=
 NewW c (Obj.cells ⟨[(Value.string e),(vI vU f),(vI vU g),(vB h),(vI wI i),(Value.string j),(Value.string k)]⟩ Zv) fun l a=>
 ∃b,a.cell ⟨l,0,none⟩=some (Value.string b)∧
 d (Value.string b) a
theorem Zckf (d:ByteArray) (e f:Int) (g:Bool) (h:Int) (i j:ByteArray) {a:Heap} {c:Value->Heap->Prop} (l:Zbtk d e f g h i j a fun m k=>∀b,Shut a k b->c m b):FnW wP Zus ⟨[(vA ⟨[(Value.string d),(vI vU e),(vI vU f),(vB g),(vI wI h),(Value.string i),(Value.string j)]⟩)]⟩ a c:=Zo Tryz.func31 ⟨[],[],[],[]⟩ (by kernel_rfl) (by kernel_rfl) l
def Zbgn (k:FuncId) (h:Value) (U:Option Addr) (l a2:Nat) (f:Int) (c:Heap) (V:(Int×Unit)->Heap->Prop) (j:Value->Heap->Prop):Prop:=
 IfB (decide (f<(l:Int)))
 (NilP U fun X=>
 InB f l fun W=>
 elemAt X W 7 fun b=>
 ∃m,c.cell b=some (Value.string m)∧∃n,c.cell ⟨b.block,b.off+1,none⟩=some (vI vU n)∧∃o,c.cell ⟨b.block,b.off+2,none⟩=some (vI vU o)∧∃p,c.cell ⟨b.block,b.off+3,none⟩=some (vB p)∧∃q,c.cell ⟨b.block,b.off+4,none⟩=some (vI wI q)∧∃r,c.cell ⟨b.block,b.off+5,none⟩=some (Value.string r)∧∃s,c.cell ⟨b.block,b.off+6,none⟩=some (Value.string s)∧NewW c (Obj.cells ⟨[(Value.string (ByteArray.mk #[])),(vI vU 0),(vI vU 0),(vB false),(vI wI 0),(Value.string (ByteArray.mk #[])),(Value.string (ByteArray.mk #[]))]⟩ Zv) fun a N=>
 Za N ⟨a,0,none⟩ (Value.string m) fun O=>
 Za O ⟨a,1,none⟩ (vI vU n) fun P=>
 Za P ⟨a,2,none⟩ (vI vU o) fun Q=>
 Za Q ⟨a,3,none⟩ (vB p) fun R=>
 Za R ⟨a,4,none⟩ (vI wI q) fun S=>
 Za S ⟨a,5,none⟩ (Value.string r) fun T=>
 Za T ⟨a,6,none⟩ (Value.string s) fun d=>
 ∃t,d.cell ⟨a,0,none⟩=some (Value.string t)∧∃u,d.cell ⟨a,1,none⟩=some (vI vU u)∧∃v,d.cell ⟨a,2,none⟩=some (vI vU v)∧∃w,d.cell ⟨a,3,none⟩=some (vB w)∧∃x,d.cell ⟨a,4,none⟩=some (vI wI x)∧∃y,d.cell ⟨a,5,none⟩=some (Value.string y)∧∃z,d.cell ⟨a,6,none⟩=some (Value.string z)∧FnW wP k ⟨[(vA ⟨[(Value.string t),(vI vU u),(vI vU v),(vB w),(vI wI x),(Value.string y),(Value.string z)]⟩)]⟩ d fun Y K=>
 ∃g,Y=vI vU g∧
 SemW wP (Instr.lookup Zpc h (vI vU g) false) K fun Z L=>
 ∃A,Z=vI wI A∧
 MuW wP Zpc h (vI vU g) (vI wI (vW wI (A+1))) L fun a3 e=>
 ∃B,e.cell ⟨a,0,none⟩=some (Value.string B)∧∃C,e.cell ⟨a,1,none⟩=some (vI vU C)∧∃D,e.cell ⟨a,2,none⟩=some (vI vU D)∧∃E,e.cell ⟨a,3,none⟩=some (vB E)∧∃F,e.cell ⟨a,4,none⟩=some (vI wI F)∧∃G,e.cell ⟨a,5,none⟩=some (Value.string G)∧∃H,e.cell ⟨a,6,none⟩=some (Value.string H)∧FnW wP k ⟨[(vA ⟨[(Value.string B),(vI vU C),(vI vU D),(vB E),(vI wI F),(Value.string G),(Value.string H)]⟩)]⟩ e fun a0 M=>
 ∃I,a0=vI vU I∧
 SemW wP (Instr.lookup Zpc h (vI vU I) false) M fun a1 i=>
 ∃J,a1=vI wI J∧
 IfB (decide (J>1))
 (j (vB true) i)
 (V ((vW wI (f+1)),()) i))
 (j (vB false) c)
def Zbsw (e:Option Addr) (g f:Nat) (d:FuncId) (a:Heap) (c:Value->Heap->Prop):Prop:=
 MkW wP Zpc a fun j b=>
 Zct (Int×Unit) (0,()) b fun i a h=>∀k:Env,Zbgn d j e g f i.1 a h c
theorem Zcjq (e:Option Addr) (g f:Nat) (d:FuncId) {a:Heap} {c:Value->Heap->Prop} (i:Zbsw e g f d a fun j h=>∀b,Shut a h b->c j b):FnW wP Zbbo ⟨[(vS e g f),(vF (.func d) #[] #[])]⟩ a c:=Zo Tryz.func32 ⟨[],[(3,[11],[.int wI],[1,5,9,10])],[],[]⟩ (by kernel_rfl) (by kernel_rfl) i
def Zbtl (e:ByteArray) (f g:Int) (h:Bool) (i:Int) (j k:ByteArray) (c:Heap) (d:Value->Heap->Prop):Prop:=
 NewW c (Obj.cells ⟨[(Value.string e),(vI vU f),(vI vU g),(vB h),(vI wI i),(Value.string j),(Value.string k)]⟩ Zv) fun l a=>
 ∃b,a.cell ⟨l,1,none⟩=some (vI vU b)∧
 d (vI vU b) a
theorem Zckg (d:ByteArray) (e f:Int) (g:Bool) (h:Int) (i j:ByteArray) {a:Heap} {c:Value->Heap->Prop} (l:Zbtl d e f g h i j a fun m k=>∀b,Shut a k b->c m b):FnW wP Zut ⟨[(vA ⟨[(Value.string d),(vI vU e),(vI vU f),(vB g),(vI wI h),(Value.string i),(Value.string j)]⟩)]⟩ a c:=Zo Tryz.func33 ⟨[],[],[],[]⟩ (by kernel_rfl) (by kernel_rfl) l
def Zbtq (f:Option Addr) (h g:Nat) (e:FuncId) (b:Heap) (d:Value->Heap->Prop):Prop:=
 FnW wP Zbjb ⟨[(vS f h g),(vF (.func e) #[] #[])]⟩ b fun i c=>
 ∃a,i=vI wI a∧
 d (vB (decide (a≥0))) c
theorem Zckl (e:Option Addr) (g f:Nat) (d:FuncId) {a:Heap} {c:Value->Heap->Prop} (i:Zbtq e g f d a fun j h=>∀b,Shut a h b->c j b):FnW wP Zbbu ⟨[(vS e g f),(vF (.func d) #[] #[])]⟩ a c:=Zo Tryz.func34 ⟨[],[],[],[]⟩ (by kernel_rfl) (by kernel_rfl) i
def Zbtr (f:Option Addr) (h g:Nat) (e:FuncId) (i:Value) (b:Heap) (d:Value->Heap->Prop):Prop:=
 FnW wP Zbja ⟨[(vS f h g),(vF (.func e) #[] #[i])]⟩ b fun j c=>
 ∃a,j=vI wI a∧
 d (vB (decide (a≥0))) c
theorem Zckm (e:Option Addr) (g f:Nat) (d:FuncId) (h:Value) {a:Heap} {c:Value->Heap->Prop} (j:Zbtr e g f d h a fun k i=>∀b,Shut a i b->c k b):FnW wP Zbjd ⟨[(vS e g f),(vF (.func d) #[] #[h])]⟩ a c:=Zo Tryz.func37 ⟨[],[],[],[]⟩ (by kernel_rfl) (by kernel_rfl) j
def Zbte (A:ByteArray) (B C:Int) (D:Bool) (E:Int) (F G:ByteArray) (b c:Nat) (x:Heap) (z:Value->Heap->Prop):Prop:=
 NewW x (Obj.cells ⟨[(Value.string A),(vI vU B),(vI vU C),(vB D),(vI wI E),(Value.string F),(Value.string G)]⟩ Zv) fun d a=>
 ∃e,a.cell ⟨b,c,none⟩=some (vI vU e)∧∃f,a.cell ⟨b,c+1,none⟩=some (vI vU f)∧∃g,a.cell ⟨b,c+2,none⟩=some (vI wI g)∧∃h,a.cell ⟨b,c+3,none⟩=some (vI wI h)∧∃i,a.cell ⟨b,c+4,none⟩=some (vI wI i)∧∃j l k,a.cell ⟨b,c+5,none⟩=some (vS j l k)∧∃m o n,a.cell ⟨b,c+6,none⟩=some (vS m o n)∧∃p,a.cell ⟨d,0,none⟩=some (Value.string p)∧∃q,a.cell ⟨d,1,none⟩=some (vI vU q)∧∃r,a.cell ⟨d,2,none⟩=some (vI vU r)∧∃s,a.cell ⟨d,3,none⟩=some (vB s)∧∃t,a.cell ⟨d,4,none⟩=some (vI wI t)∧∃u,a.cell ⟨d,5,none⟩=some (Value.string u)∧∃v,a.cell ⟨d,6,none⟩=some (Value.string v)∧FnW wP Zbbl ⟨[(vA ⟨[(vI vU e),(vI vU f),(vI wI g),(vI wI h),(vI wI i),(vS j l k),(vS m o n)]⟩),(vA ⟨[(Value.string p),(vI vU q),(vI vU r),(vB s),(vI wI t),(Value.string u),(Value.string v)]⟩)]⟩ a fun H y=>
 ∃w,H=vB w∧
 z (vB (!w)) y
theorem Zcka (f:ByteArray) (g h:Int) (i:Bool) (j:Int) (k l:ByteArray) (d e:Nat) {a:Heap} {c:Value->Heap->Prop} (n:Zbte f g h i j k l d e a fun o m=>∀b,Shut a m b->c o b):FnW wP Zqg ⟨[(vA ⟨[(Value.string f),(vI vU g),(vI vU h),(vB i),(vI wI j),(Value.string k),(Value.string l)]⟩),(vP (some ⟨d,e,none⟩))]⟩ a c:=Zo Tryz.func38 ⟨[],[],[],[]⟩ (by kernel_rfl) (by kernel_rfl) n
def Zow (d e:Nat) (k:Bool) (a:Heap) (c:Value->Heap->Prop):Prop:=
 IfB k
 (c (vB false) a)
 (∃f,a.cell ⟨d,5,none⟩=some (Value.string f)∧
 FnW wP Zuu ⟨[(Value.string f),(vP (some ⟨e,0,none⟩))]⟩ a fun l b=>
 ∃g,l=vB g∧
 IfB g
 (∃h,b.cell ⟨d,6,none⟩=some (Value.string h)∧
 FnW wP Zuu ⟨[(Value.string h),(vP (some ⟨e,0,none⟩))]⟩ b fun m j=>
 ∃i,m=vB i∧
 c (vB i) j)
 (c (vB false) b))
def Zbsl (t u v w x:Int) (y:Option Addr) (A z:Nat) (B:Option Addr) (D C:Nat) (m:ByteArray) (n o:Int) (p:Bool) (q:Int) (r s:ByteArray) (k:Heap) (d:Value->Heap->Prop):Prop:=
 NewW k (Obj.cells ⟨[(vI vU t),(vI vU u),(vI wI v),(vI wI w),(vI wI x),(vS y A z),(vS B D C)]⟩ Zcj) fun c l=>
 NewW l (Obj.cells ⟨[(Value.string m),(vI vU n),(vI vU o),(vB p),(vI wI q),(Value.string r),(Value.string s)]⟩ Zv) fun b a=>
 ∃j,a.cell ⟨b,1,none⟩=some (vI vU j)∧
 IfB (j==0)
 (Zow b c true a d)
 (∃e,a.cell ⟨b,1,none⟩=some (vI vU e)∧
 ∃f,a.cell ⟨c,1,none⟩=some (vI vU f)∧
 IfB (e==f)
 (Zow b c true a d)
 (∃g,a.cell ⟨b,2,none⟩=some (vI vU g)∧
 IfB (g==0)
 (Zow b c true a d)
 (∃h,a.cell ⟨b,4,none⟩=some (vI wI h)∧
 IfB (decide (h<0))
 (Zow b c true a d)
 (∃i,a.cell ⟨b,4,none⟩=some (vI wI i)∧
 Zow b c (decide (i>4096)) a d))))
theorem Zcjg (k l m n o:Int) (p:Option Addr) (r q:Nat) (s:Option Addr) (u t:Nat) (d:ByteArray) (e f:Int) (g:Bool) (h:Int) (i j:ByteArray) {a:Heap} {c:Value->Heap->Prop} (w:Zbsl k l m n o p r q s u t d e f g h i j a fun x v=>∀b,Shut a v b->c x b):FnW wP Zbbl ⟨[(vA ⟨[(vI vU k),(vI vU l),(vI wI m),(vI wI n),(vI wI o),(vS p r q),(vS s u t)]⟩),(vA ⟨[(Value.string d),(vI vU e),(vI vU f),(vB g),(vI wI h),(Value.string i),(Value.string j)]⟩)]⟩ a c:=Zo Tryz.func39 ⟨[],[],[],[]⟩ (by kernel_rfl) (by kernel_rfl) w
def Zbtf (n:Option Addr) (f r:Nat) (l:FuncId) (b:Int) (a:Heap) (m:(Int×Unit)->Heap->Prop) (e:Value->Heap->Prop):Prop:=
 IfB (decide (b<(f:Int)))
 (NilP n fun p=>
 InB b f fun o=>
 elemAt p o 2 fun c=>
 ∃g,a.cell c=some (Value.string g)∧∃h j i,a.cell ⟨c.block,c.off+1,none⟩=some (vS h j i)∧FnW wP l ⟨[(vA ⟨[(Value.string g),(vS h j i)]⟩)]⟩ a fun q d=>
 ∃k,q=vB k∧
 IfB k
 (e (vI wI b) d)
 (m ((vW wI (b+1)),()) d))
 (e (vI wI (-1)) a)
def Zbtg (e:Option Addr) (g f:Nat) (c:FuncId) (a:Heap) (b:Value->Heap->Prop):Prop:=
 Zct (Int×Unit) (0,()) a fun h a d=>∀i:Env,Zbtf e g f c h.1 a d b
theorem Zckb (e:Option Addr) (g f:Nat) (d:FuncId) {a:Heap} {c:Value->Heap->Prop} (i:Zbtg e g f d a fun j h=>∀b,Shut a h b->c j b):FnW wP Zbjb ⟨[(vS e g f),(vF (.func d) #[] #[])]⟩ a c:=Zo Tryz.func69 ⟨[],[(2,[8],[.int wI],[0,1,7])],[],[]⟩ (by kernel_rfl) (by kernel_rfl) i
def Zbgo (q:Option Addr) (f v:Nat) (o:FuncId) (r:Value) (c:Int) (b:Heap) (p:(Int×Unit)->Heap->Prop) (e:Value->Heap->Prop):Prop:=
 IfB (decide (c<(f:Int)))
 (NilP q fun t=>
 InB c f fun s=>
 elemAt t s 7 fun a=>
 ∃g,b.cell a=some (Value.string g)∧∃h,b.cell ⟨a.block,a.off+1,none⟩=some (vI vU h)∧∃i,b.cell ⟨a.block,a.off+2,none⟩=some (vI vU i)∧∃j,b.cell ⟨a.block,a.off+3,none⟩=some (vB j)∧∃k,b.cell ⟨a.block,a.off+4,none⟩=some (vI wI k)∧∃l,b.cell ⟨a.block,a.off+5,none⟩=some (Value.string l)∧∃m,b.cell ⟨a.block,a.off+6,none⟩=some (Value.string m)∧FnW wP o ⟨[(vA ⟨[(Value.string g),(vI vU h),(vI vU i),(vB j),(vI wI k),(Value.string l),(Value.string m)]⟩),r]⟩ b fun u d=>
 ∃n,u=vB n∧
 IfB n
 (e (vI wI c) d)
 (p ((vW wI (c+1)),()) d))
 (e (vI wI (-1)) b)
def Zbtb (e:Option Addr) (g f:Nat) (c:FuncId) (h:Value) (a:Heap) (b:Value->Heap->Prop):Prop:=
 Zct (Int×Unit) (0,()) a fun i a d=>∀j:Env,Zbgo e g f c h i.1 a d b
theorem Zcjw (e:Option Addr) (g f:Nat) (d:FuncId) (h:Value) {a:Heap} {c:Value->Heap->Prop} (j:Zbtb e g f d h a fun k i=>∀b,Shut a i b->c k b):FnW wP Zbja ⟨[(vS e g f),(vF (.func d) #[] #[h])]⟩ a c:=Zo Tryz.func73 ⟨[],[(2,[8],[.int wI],[0,1,7])],[],[]⟩ (by kernel_rfl) (by kernel_rfl) j
def Zbtm (l:ByteArray) (k m:Nat) (i:Heap) (b:Value->Heap->Prop):Prop:=
 NewW i (Obj.cells ⟨[(Value.string l)]⟩ Zcv) fun c a=>
 ∃e,a.cell ⟨c,0,none⟩=some (Value.string e)∧
 IfB (e.toList==(ByteArray.mk #[]).toList)
 (b (vB true) a)
 (∃f h g,a.cell ⟨k,m+5,none⟩=some (vS f h g)∧
 FnW wP Zbbu ⟨[(vS f h g),(vF (.func Zbwj) #[] #[(vP (some ⟨c,0,none⟩))])]⟩ a fun n j=>
 ∃d,n=vB d∧
 b (vB d) j)
theorem Zckh (e:ByteArray) (d f:Nat) {a:Heap} {c:Value->Heap->Prop} (h:Zbtm e d f a fun i g=>∀b,Shut a g b->c i b):FnW wP Zuu ⟨[(Value.string e),(vP (some ⟨d,f,none⟩))]⟩ a c:=Zo Tryz.func74 ⟨[],[],[],[]⟩ (by kernel_rfl) (by kernel_rfl) h
end Go.Proofs.YtlkdgfolbllngaaGreatDoor
end
