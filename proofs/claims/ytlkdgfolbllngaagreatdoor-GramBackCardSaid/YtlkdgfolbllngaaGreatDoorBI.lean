/-
  SOME FUNCTIONS IN PLAIN LOGIC:printed by a program of ours over this translation.
-/
import Derived.Test.YtlkdgfolbllngaaGreatDoorBA
import Derived.Test.YtlkdgfolbllngaaGreatDoorRows
set_option linter.all false
section
set_option maxRecDepth 100000
namespace Go.Proofs.YtlkdgfolbllngaaGreatDoor
open Go.Sh
open Value renaming int -> vI, slice -> vS, pointer -> vP, bool -> vB, tuple -> vT, agg -> vA, func -> vF
open IntKind renaming wrap -> vW, i64 -> wI, u32 -> vU
open Go.Proofs.Tryz renaming prog -> wP
def Zsf (a:Nat) (a9:Option Addr) (b1 b0:Nat) (a5:Int) (f e:Nat) (a4:(Unit)->Heap->Prop) (a6:Bool) (b:Heap) (g:Value->Heap->Prop):Prop:=
 IfB a6
 (FnW wP Zbaq ⟨[(vP (some ⟨f,0,none⟩)),(vP (some ⟨e,0,none⟩))]⟩ b fun a7 Q=>
 a7=vT ⟨[]⟩∧
 a4 () Q)
 (∃D,b.cell ⟨f,3,none⟩=some (vB D)∧
 IfB D
 (FnW wP Zbaw ⟨[(vP (some ⟨f,0,none⟩))]⟩ b fun a8 R=>
 ∃E,a8=vI wI E∧
 Za R ⟨a,0,none⟩ (vI vU 0) fun S=>
 Za S ⟨a,1,none⟩ (vI vU 0) fun T=>
 Za T ⟨a,2,none⟩ (vI wI 0) fun U=>
 Za U ⟨a,3,none⟩ (vI wI 0) fun V=>
 Za V ⟨a,4,none⟩ (vI wI 0) fun W=>
 Za W ⟨a,5,none⟩ (vS none 0 0) fun X=>
 Za X ⟨a,6,none⟩ (vS none 0 0) fun c=>
 ∃h,c.cell ⟨a,0,none⟩=some (vI vU h)∧∃j,c.cell ⟨a,1,none⟩=some (vI vU j)∧∃l,c.cell ⟨a,2,none⟩=some (vI wI l)∧∃n,c.cell ⟨a,3,none⟩=some (vI wI n)∧∃p,c.cell ⟨a,4,none⟩=some (vI wI p)∧∃r v t,c.cell ⟨a,5,none⟩=some (vS r v t)∧∃x B z,c.cell ⟨a,6,none⟩=some (vS x B z)∧g (vT ⟨[(vA ⟨[(vI vU h),(vI vU j),(vI wI l),(vI wI n),(vI wI p),(vS r v t),(vS x B z)]⟩),(vI wI E),(vI wI 250)]⟩) c)
 (∃F,b.cell ⟨e,0,none⟩=some (vI vU F)∧∃G,b.cell ⟨e,1,none⟩=some (vI vU G)∧∃H,b.cell ⟨e,2,none⟩=some (vI wI H)∧∃I,b.cell ⟨e,3,none⟩=some (vI wI I)∧∃J,b.cell ⟨e,4,none⟩=some (vI wI J)∧∃K M L,b.cell ⟨e,5,none⟩=some (vS K M L)∧∃N P O,b.cell ⟨e,6,none⟩=some (vS N P O)∧Za b ⟨a,0,none⟩ (vI vU F) fun Y=>
 Za Y ⟨a,1,none⟩ (vI vU G) fun Z=>
 Za Z ⟨a,2,none⟩ (vI wI H) fun a0=>
 Za a0 ⟨a,3,none⟩ (vI wI I) fun a1=>
 Za a1 ⟨a,4,none⟩ (vI wI J) fun a2=>
 Za a2 ⟨a,5,none⟩ (vS K M L) fun a3=>
 Za a3 ⟨a,6,none⟩ (vS N P O) fun d=>
 ∃i,d.cell ⟨a,0,none⟩=some (vI vU i)∧∃k,d.cell ⟨a,1,none⟩=some (vI vU k)∧∃m,d.cell ⟨a,2,none⟩=some (vI wI m)∧∃o,d.cell ⟨a,3,none⟩=some (vI wI o)∧∃q,d.cell ⟨a,4,none⟩=some (vI wI q)∧∃s w u,d.cell ⟨a,5,none⟩=some (vS s w u)∧∃y C A,d.cell ⟨a,6,none⟩=some (vS y C A)∧g (vT ⟨[(vA ⟨[(vI vU i),(vI vU k),(vI wI m),(vI wI o),(vI wI q),(vS s w u),(vS y C A)]⟩),(vI wI 0),(vI wI a5)]⟩) d))
def Zbqg (k:Nat) (g:Option Addr) (c h:Nat) (i:Int) (b f:Nat) (a:Heap) (e:(Unit)->Heap->Prop) (d:Value->Heap->Prop):Prop:=
 ∃j,a.cell ⟨b,3,none⟩=some (vB j)∧
 IfB (!j)
 (∃l,a.cell ⟨b,1,none⟩=some (vI wI l)∧
 Zsf k g c h i b f e (decide (l<(c:Int))) a d)
 (Zsf k g c h i b f e false a d)
def Zbqh (N:ByteArray) (e:Heap) (j:Value->Heap->Prop):Prop:=
 NewW e (Obj.cells ⟨[(vI vU 0),(vI vU 0),(vI wI 0),(vI wI 0),(vI wI 0),(vS none 0 0),(vS none 0 0)]⟩ Zz) fun a w=>
 FnW wP Ztl ⟨[(Value.string N)]⟩ w fun O i=>
 ∃f h g,∃v:Int,∃d:Int,O=(vT ⟨[(vS f h g),(vI wI v),(vI wI d)]⟩)∧
 IfB (d !=0)
 (Za i ⟨a,0,none⟩ (vI vU 0) fun G=>
 Za G ⟨a,1,none⟩ (vI vU 0) fun H=>
 Za H ⟨a,2,none⟩ (vI wI 0) fun I=>
 Za I ⟨a,3,none⟩ (vI wI 0) fun J=>
 Za J ⟨a,4,none⟩ (vI wI 0) fun K=>
 Za K ⟨a,5,none⟩ (vS none 0 0) fun L=>
 Za L ⟨a,6,none⟩ (vS none 0 0) fun b=>
 ∃k,b.cell ⟨a,0,none⟩=some (vI vU k)∧∃l,b.cell ⟨a,1,none⟩=some (vI vU l)∧∃m,b.cell ⟨a,2,none⟩=some (vI wI m)∧∃n,b.cell ⟨a,3,none⟩=some (vI wI n)∧∃o,b.cell ⟨a,4,none⟩=some (vI wI o)∧∃p r q,b.cell ⟨a,5,none⟩=some (vS p r q)∧∃s u t,b.cell ⟨a,6,none⟩=some (vS s u t)∧j (vT ⟨[(vA ⟨[(vI vU k),(vI vU l),(vI wI m),(vI wI n),(vI wI o),(vS p r q),(vS s u t)]⟩),(vI wI v),(vI wI d)]⟩) b)
 (NewW i (Obj.cells ⟨[(vS f h g),(vI wI 0),(vI wI 0),(vB false)]⟩ Zg) fun P x=>
 NewW x (Obj.cells ⟨[(vI vU 0),(vI vU 0),(vI wI 0),(vI wI 0),(vI wI 0),(vS none 0 0),(vS none 0 0)]⟩ Zz) fun c y=>
 Za y ⟨c,0,none⟩ (vI vU 0) fun z=>
 Za z ⟨c,1,none⟩ (vI vU 0) fun A=>
 Za A ⟨c,2,none⟩ (vI wI 90) fun B=>
 Za B ⟨c,3,none⟩ (vI wI 30) fun C=>
 Za C ⟨c,4,none⟩ (vI wI 0) fun D=>
 Za D ⟨c,5,none⟩ (vS none 0 0) fun E=>
 Za E ⟨c,6,none⟩ (vS none 0 0) fun F=>
 Zbl (Unit) () F fun R e M=>∀Q:Env,Zbqg a f h g d P c e M j)
theorem Zchs (d:ByteArray) {a:Heap} {c:Value->Heap->Prop} (f:Zbqh d a fun g e=>∀b,Shut a e b->c g b):FnW wP Zmk ⟨[(Value.string d)]⟩ a c:=Zk Tryz.func7 ⟨[],[(6,[],[],[2,5,7,8,9])],[],[]⟩ (by kernel_rfl) (by kernel_rfl) f
def Zkd (d:Nat) (a:Heap) (c:Value->Heap->Prop):Prop:=
 FnW wP Zgm ⟨[(vP (some ⟨d,0,none⟩)),(Value.string (ByteArray.mk #[59]))]⟩ a fun e b=>
 e=vT ⟨[]⟩∧
 c (vT ⟨[]⟩) b
def Zbqw (a d:Nat) (R:Heap) (e:Value->Heap->Prop):Prop:=
 NewW R (Obj.cells ⟨[(Value.string (ByteArray.mk #[112,111,108,105,99,121])),(Value.string (ByteArray.mk #[112,101,101,114])),(Value.string (ByteArray.mk #[115,121,115,116,101,109])),(Value.string (ByteArray.mk #[114,111,117,116,101,114])),(Value.string (ByteArray.mk #[104,111,108,100])),(Value.string (ByteArray.mk #[114,101,116,114,121])),(Value.string (ByteArray.mk #[103,114,97,99,101,102,117,108]))]⟩ Zj) fun d2 S=>
 FnW wP Zkm ⟨[(vP (some ⟨a,0,none⟩)),(vS (some ⟨d2,0,none⟩) 7 7)]⟩ S fun d5 c=>
 ∃f,d5=vI wI f∧
 IfB (f==0)
 (FnW wP Zib ⟨[(vP (some ⟨a,0,none⟩)),(vI wI 1)]⟩ c fun c1 a9=>
 ∃b6,∃l:ByteArray,∃b7:Int,∃b8:Int,∃b9:Int,∃c0:Int,c1=(vA ⟨[(vI wI b6),(Value.string l),(vI wI b7),(vI vU b8),(vI wI b9),(vI wI c0)]⟩)∧
 NewW a9 (Obj.cells ⟨[(Value.string (ByteArray.mk #[])),(vS none 0 0)]⟩ Zbu) fun g b0=>
 Za b0 ⟨g,0,none⟩ (Value.string l) fun b1=>
 Za b1 ⟨g,1,none⟩ (vS none 0 0) fun b2=>
 FnW wP Zgm ⟨[(vP (some ⟨a,0,none⟩)),(Value.string (ByteArray.mk #[123]))]⟩ b2 fun c2 b3=>
 c2=vT ⟨[]⟩∧
 FnW wP Zpp ⟨[(vP (some ⟨a,0,none⟩))]⟩ b3 fun c3 b4=>
 ∃m o n,c3=vS m o n∧
 Za b4 ⟨g,1,none⟩ (vS m o n) fun h=>
 ∃p r q,h.cell ⟨d,5,none⟩=some (vS p r q)∧
 ∃s,h.cell ⟨g,0,none⟩=some (Value.string s)∧∃t v u,h.cell ⟨g,1,none⟩=some (vS t v u)∧NewW h (Obj.cells ⟨[(Value.string s),(vS t v u)]⟩ Zbu) fun c4 T=>
 AppW wP #[Zfv,Zfv] Zfv [(vS p r q),(vS (some ⟨c4,0,none⟩) 1 1)] T fun c5 U=>
 ∃w y x,c5=vS w y x∧
 Za U ⟨d,5,none⟩ (vS w y x) fun V=>
 e (vT ⟨[]⟩) V)
 (IfB (f==1)
 (∃i:List Nat,(∀b∈i,∃b5,c b=some b5)∧
 d∈i∧∃z B A,c.cell ⟨d,6,none⟩=some (vS z B A)∧
 FnW wP Zbap ⟨[(vP (some ⟨a,0,none⟩))]⟩ c fun c6 j=>
 ∃C,∃D:Int,∃E:Int,∃F:Bool,∃G:Int,∃H:ByteArray,∃I:ByteArray,c6=(vA ⟨[(Value.string C),(vI vU D),(vI vU E),(vB F),(vI wI G),(Value.string H),(Value.string I)]⟩)∧
 Zch i c j∧NewW j (Obj.cells ⟨[(Value.string C),(vI vU D),(vI vU E),(vB F),(vI wI G),(Value.string H),(Value.string I)]⟩ Zt) fun c7 W=>
 AppW wP #[Zfu,Zfu] Zfu [(vS z B A),(vS (some ⟨c7,0,none⟩) 1 1)] W fun c8 k=>
 ∃J L K,c8=vS J L K∧
 Zch i c k∧Za k ⟨d,6,none⟩ (vS J L K) fun X=>
 e (vT ⟨[]⟩) X)
 (IfB (f==2)
 (FnW wP Zcw ⟨[(vP (some ⟨a,0,none⟩)),(vI wI 2)]⟩ c fun c9 Y=>
 ∃M,c9=vI wI M∧
 Za Y ⟨d,0,none⟩ (vI vU (vW vU M)) fun Z=>
 Zkd a Z e)
 (IfB (f==3)
 (FnW wP Zcw ⟨[(vP (some ⟨a,0,none⟩)),(vI wI 3)]⟩ c fun d0 a0=>
 ∃N,d0=vI wI N∧
 Za a0 ⟨d,1,none⟩ (vI vU (vW vU N)) fun a1=>
 Zkd a a1 e)
 (IfB (f==4)
 (FnW wP Zcw ⟨[(vP (some ⟨a,0,none⟩)),(vI wI 2)]⟩ c fun d1 a2=>
 ∃O,d1=vI wI O∧
 Za a2 ⟨d,2,none⟩ (vI wI O) fun a3=>
 Zkd a a3 e)
 (IfB (f==5)
 (FnW wP Zcw ⟨[(vP (some ⟨a,0,none⟩)),(vI wI 2)]⟩ c fun d3 a4=>
 ∃P,d3=vI wI P∧
 Za a4 ⟨d,3,none⟩ (vI wI P) fun a5=>
 Zkd a a5 e)
 (IfB (f==6)
 (FnW wP Zcw ⟨[(vP (some ⟨a,0,none⟩)),(vI wI 2)]⟩ c fun d4 a6=>
 ∃Q,d4=vI wI Q∧
 Za a6 ⟨d,4,none⟩ (vI wI Q) fun a7=>
 Zkd a a7 e)
 (Za c ⟨a,3,none⟩ (vB true) fun a8=>
 Zkd a a8 e)))))))
theorem Zcib (d e:Nat) {a:Heap} {c:Value->Heap->Prop} (g:Zbqw d e a fun h f=>∀b,Shut a f b->c h b):FnW wP Zbaq ⟨[(vP (some ⟨d,0,none⟩)),(vP (some ⟨e,0,none⟩))]⟩ a c:=Zk Tryz.func15 ⟨[(8,[0,1,2,3,4,5,6,7,8,9,10,11],[38])],[],[],[]⟩ (by kernel_rfl) (by kernel_rfl) g
def Zbsr (b:Nat) (a:Heap) (c:Value->Heap->Prop):Prop:=
 ∃p j q,a.cell ⟨b,0,none⟩=some (vS p j q)∧
 IfB (((j:Int):Int)==0)
 (c (vI wI 1) a)
 (∃d e k,a.cell ⟨b,0,none⟩=some (vS d e k)∧
 ∃f,a.cell ⟨b,1,none⟩=some (vI wI f)∧
 ∃l g m,a.cell ⟨b,0,none⟩=some (vS l g m)∧
 NilP d fun o=>
 InB (min f (vW wI ((g:Int) - 1))) e fun n=>
 elemAt o n 6 fun h=>
 ∃i,a.cell ⟨h.block,h.off+5,none⟩=some (vI wI i)∧
 c (vI wI i) a)
theorem Zcjh (d:Nat) {a:Heap} {c:Value->Heap->Prop} (f:Zbsr d a fun g e=>∀b,Shut a e b->c g b):FnW wP Zbaw ⟨[(vP (some ⟨d,0,none⟩))]⟩ a c:=Zk Tryz.func16 ⟨[],[],[],[]⟩ (by kernel_rfl) (by kernel_rfl) f
def Zbrd (h:Nat) (e:Option Addr) (g f:Nat) (b:Heap) (d:Value->Heap->Prop):Prop:=
 FnW wP Zbid ⟨[(vS e g f),(vF (.func Zev) #[(vP (some ⟨h,0,none⟩))] #[])]⟩ b fun i c=>
 ∃a,i=vI wI a∧
 d (vI wI a) c
theorem Zcif (g:Nat) (d:Option Addr) (f e:Nat) {a:Heap} {c:Value->Heap->Prop} (i:Zbrd g d f e a fun j h=>∀b,Shut a h b->c j b):FnW wP Zkm ⟨[(vP (some ⟨g,0,none⟩)),(vS d f e)]⟩ a c:=Zk Tryz.func44 ⟨[],[],[],[]⟩ (by kernel_rfl) (by kernel_rfl) i
def Zog (f a:Nat) (P:Bool) (g:Heap) (h:Value->Heap->Prop):Prop:=
 IfB P
 (Za g ⟨f,3,none⟩ (vB true) fun J=>
 Za J ⟨a,0,none⟩ (vI wI 0) fun K=>
 Za K ⟨a,1,none⟩ (Value.string (ByteArray.mk #[])) fun L=>
 Za L ⟨a,2,none⟩ (vI wI 0) fun M=>
 Za M ⟨a,3,none⟩ (vI vU 0) fun N=>
 Za N ⟨a,4,none⟩ (vI wI 0) fun O=>
 Za O ⟨a,5,none⟩ (vI wI 0) fun e=>
 ∃i,e.cell ⟨a,0,none⟩=some (vI wI i)∧∃k,e.cell ⟨a,1,none⟩=some (Value.string k)∧∃m,e.cell ⟨a,2,none⟩=some (vI wI m)∧∃o,e.cell ⟨a,3,none⟩=some (vI vU o)∧∃q,e.cell ⟨a,4,none⟩=some (vI wI q)∧∃s,e.cell ⟨a,5,none⟩=some (vI wI s)∧h (vA ⟨[(vI wI i),(Value.string k),(vI wI m),(vI vU o),(vI wI q),(vI wI s)]⟩) e)
 (∃u,g.cell ⟨f,1,none⟩=some (vI wI u)∧
 Za g ⟨f,1,none⟩ (vI wI (vW wI (u+1))) fun c=>
 ∃v w Q,c.cell ⟨f,0,none⟩=some (vS v w Q)∧
 ∃x,c.cell ⟨f,1,none⟩=some (vI wI x)∧
 NilP v fun S=>
 InB (vW wI (x - 1)) w fun R=>
 elemAt S R 6 fun b=>
 ∃y,c.cell b=some (vI wI y)∧∃z,c.cell ⟨b.block,b.off+1,none⟩=some (Value.string z)∧∃A,c.cell ⟨b.block,b.off+2,none⟩=some (vI wI A)∧∃B,c.cell ⟨b.block,b.off+3,none⟩=some (vI vU B)∧∃C,c.cell ⟨b.block,b.off+4,none⟩=some (vI wI C)∧∃D,c.cell ⟨b.block,b.off+5,none⟩=some (vI wI D)∧Za c ⟨a,0,none⟩ (vI wI y) fun E=>
 Za E ⟨a,1,none⟩ (Value.string z) fun F=>
 Za F ⟨a,2,none⟩ (vI wI A) fun G=>
 Za G ⟨a,3,none⟩ (vI vU B) fun H=>
 Za H ⟨a,4,none⟩ (vI wI C) fun I=>
 Za I ⟨a,5,none⟩ (vI wI D) fun d=>
 ∃j,d.cell ⟨a,0,none⟩=some (vI wI j)∧∃l,d.cell ⟨a,1,none⟩=some (Value.string l)∧∃n,d.cell ⟨a,2,none⟩=some (vI wI n)∧∃p,d.cell ⟨a,3,none⟩=some (vI vU p)∧∃r,d.cell ⟨a,4,none⟩=some (vI wI r)∧∃t,d.cell ⟨a,5,none⟩=some (vI wI t)∧h (vA ⟨[(vI wI j),(Value.string l),(vI wI n),(vI vU p),(vI wI r),(vI wI t)]⟩) d)
def Zbpt (b:Nat) (m:Int) (l:Heap) (c:Value->Heap->Prop):Prop:=
 NewW l (Obj.cells ⟨[(vI wI 0),(Value.string (ByteArray.mk #[])),(vI wI 0),(vI vU 0),(vI wI 0),(vI wI 0)]⟩ Zbfv) fun d a=>
 ∃k,a.cell ⟨b,3,none⟩=some (vB k)∧
 IfB k
 (Zog b d true a c)
 (∃e,a.cell ⟨b,1,none⟩=some (vI wI e)∧
 ∃n f o,a.cell ⟨b,0,none⟩=some (vS n f o)∧
 IfB (e==(f:Int))
 (Zog b d true a c)
 (∃g h p,a.cell ⟨b,0,none⟩=some (vS g h p)∧
 ∃i,a.cell ⟨b,1,none⟩=some (vI wI i)∧
 NilP g fun s=>
 InB i h fun q=>
 elemAt s q 6 fun r=>
 ∃j,a.cell r=some (vI wI j)∧
 Zog b d (j !=m) a c))
theorem Zchm (e:Nat) (d:Int) {a:Heap} {c:Value->Heap->Prop} (g:Zbpt e d a fun h f=>∀b,Shut a f b->c h b):FnW wP Zib ⟨[(vP (some ⟨e,0,none⟩)),(vI wI d)]⟩ a c:=Zk Tryz.func45 ⟨[],[],[],[]⟩ (by kernel_rfl) (by kernel_rfl) g
def Zbqf (a:Nat) (i:ByteArray) (f:Heap) (c:Value->Heap->Prop):Prop:=
 FnW wP Zev ⟨[(vP (some ⟨a,0,none⟩)),(Value.string i)]⟩ f fun j b=>
 ∃e,j=vB e∧
 IfB (!e)
 (Za b ⟨a,3,none⟩ (vB true) fun g=>
 c (vT ⟨[]⟩) g)
 (∃d,b.cell ⟨a,3,none⟩=some (vB d)∧
 Za b ⟨a,3,none⟩ (vB d) fun h=>
 c (vT ⟨[]⟩) h)
theorem Zchr (d:Nat) (e:ByteArray) {a:Heap} {c:Value->Heap->Prop} (g:Zbqf d e a fun h f=>∀b,Shut a f b->c h b):FnW wP Zgm ⟨[(vP (some ⟨d,0,none⟩)),(Value.string e)]⟩ a c:=Zk Tryz.func46 ⟨[],[],[],[]⟩ (by kernel_rfl) (by kernel_rfl) g
def Zsg (e:Nat) (b:Option Addr) (d c:Nat) (D:((Option Addr×Nat×Nat)×Unit)->Heap->Prop) (E:Bool) (a:Heap) (C:Value->Heap->Prop):Prop:=
 IfB E
 (FnW wP Zmj ⟨[(vP (some ⟨e,0,none⟩))]⟩ a fun F y=>
 ∃f,∃g:Int,∃(h:Option Addr) (j i:Nat),∃k:Int,∃l:Int,∃m:Int,∃(n:Option Addr) (p o:Nat),∃(q:Option Addr) (s r:Nat),∃t:Int,∃u:Int,F=(vA ⟨[(vI wI f),(vI wI g),(vS h j i),(vI vU k),(vI wI l),(vI wI m),(vS n p o),(vS q s r),(vI wI t),(vI wI u)]⟩)∧
 NewW y (Obj.cells ⟨[(vI wI f),(vI wI g),(vS h j i),(vI vU k),(vI wI l),(vI wI m),(vS n p o),(vS q s r),(vI wI t),(vI wI u)]⟩ Zq) fun G z=>
 AppW wP #[Zdd,Zdd] Zdd [(vS b d c),(vS (some ⟨G,0,none⟩) 1 1)] z fun H A=>
 ∃v x w,H=vS v x w∧
 D ((v,x,w),()) A)
 (FnW wP Zgm ⟨[(vP (some ⟨e,0,none⟩)),(Value.string (ByteArray.mk #[125]))]⟩ a fun I B=>
 I=vT ⟨[]⟩∧
 C (vS b d c) B)
def Zbqt (a:Nat) (d:Option Addr) (f e:Nat) (b:Heap) (g:((Option Addr×Nat×Nat)×Unit)->Heap->Prop) (c:Value->Heap->Prop):Prop:=
 ∃i,b.cell ⟨a,3,none⟩=some (vB i)∧
 IfB (!i)
 (FnW wP Zps ⟨[(vP (some ⟨a,0,none⟩)),(Value.string (ByteArray.mk #[125]))]⟩ b fun k j=>
 ∃h,k=vB h∧
 Zsg a d f e g (!h) j c)
 (Zsg a d f e g false b c)
def Zbqu (e:Nat) (a:Heap) (c:Value->Heap->Prop):Prop:=
 Zbl ((Option Addr×Nat×Nat)×Unit) ((none,0,0),()) a fun b a d=>∀f:Env,Zbqt e b.1.1 b.1.2.1 b.1.2.2 a d c
theorem Zchz (d:Nat) {a:Heap} {c:Value->Heap->Prop} (f:Zbqu d a fun g e=>∀b,Shut a e b->c g b):FnW wP Zpp ⟨[(vP (some ⟨d,0,none⟩))]⟩ a c:=Zk Tryz.func47 ⟨[],[(2,[3],[.slice],[0])],[],[]⟩ (by kernel_rfl) (by kernel_rfl) f
def Zxx (e f h g:Nat) (c:Int) (b:(Int×Unit)->Heap->Prop) (a:Heap) (d:Value->Heap->Prop):Prop:=
 b ((vW wI (c+1)),()) a
def Zbqj (g a c j:Nat) (k:Int) (i:Heap) (p:(Int×Unit)->Heap->Prop) (l:Value->Heap->Prop):Prop:=
 IfB (decide (k<(2:Int)))
 (InB k 2 fun x=>
 ∃y,i.cell ⟨j,0+x*2,none⟩=some (Value.string y)∧∃z,i.cell ⟨j,0+x*2+1,none⟩=some (vP z)∧NewW i (Obj.cells ⟨[(Value.string (ByteArray.mk #[])),(vP none)]⟩ Zlw) fun h L=>
 Za L ⟨h,0,none⟩ (Value.string y) fun M=>
 Za M ⟨h,1,none⟩ (vP z) fun n=>
 ∃A,n.cell ⟨h,0,none⟩=some (Value.string A)∧
 FnW wP Zev ⟨[(vP (some ⟨g,0,none⟩)),(Value.string A)]⟩ n fun V f=>
 ∃B,V=vB B∧
 IfB B
 (∃m:List Nat,(∀b∈m,∃U,f b=some U)∧
 h∈m∧∃C,f.cell ⟨h,1,none⟩=some (vP C)∧
 FnW wP Zib ⟨[(vP (some ⟨g,0,none⟩)),(vI wI 1)]⟩ f fun a1 o=>
 ∃W,∃D:ByteArray,∃X:Int,∃Y:Int,∃Z:Int,∃a0:Int,a1=(vA ⟨[(vI wI W),(Value.string D),(vI wI X),(vI vU Y),(vI wI Z),(vI wI a0)]⟩)∧
 Zch m f o∧NilP C fun a2=>
 Za o a2 (Value.string D) fun N=>
 Zxx g a c j k p N l)
 (Zxx g a c j k p f l))
 (FnW wP Zgm ⟨[(vP (some ⟨g,0,none⟩)),(Value.string (ByteArray.mk #[59]))]⟩ i fun a3 d=>
 a3=vT ⟨[]⟩∧
 ∃E,d.cell ⟨c,0,none⟩=some (Value.string E)∧∃F,d.cell ⟨c,1,none⟩=some (vI vU F)∧∃G,d.cell ⟨c,2,none⟩=some (vI vU G)∧∃H,d.cell ⟨c,3,none⟩=some (vB H)∧∃I,d.cell ⟨c,4,none⟩=some (vI wI I)∧∃J,d.cell ⟨c,5,none⟩=some (Value.string J)∧∃K,d.cell ⟨c,6,none⟩=some (Value.string K)∧Za d ⟨a,0,none⟩ (Value.string E) fun O=>
 Za O ⟨a,1,none⟩ (vI vU F) fun P=>
 Za P ⟨a,2,none⟩ (vI vU G) fun Q=>
 Za Q ⟨a,3,none⟩ (vB H) fun R=>
 Za R ⟨a,4,none⟩ (vI wI I) fun S=>
 Za S ⟨a,5,none⟩ (Value.string J) fun T=>
 Za T ⟨a,6,none⟩ (Value.string K) fun e=>
 ∃q,e.cell ⟨a,0,none⟩=some (Value.string q)∧∃r,e.cell ⟨a,1,none⟩=some (vI vU r)∧∃s,e.cell ⟨a,2,none⟩=some (vI vU s)∧∃t,e.cell ⟨a,3,none⟩=some (vB t)∧∃u,e.cell ⟨a,4,none⟩=some (vI wI u)∧∃v,e.cell ⟨a,5,none⟩=some (Value.string v)∧∃w,e.cell ⟨a,6,none⟩=some (Value.string w)∧l (vA ⟨[(Value.string q),(vI vU r),(vI vU s),(vB t),(vI wI u),(Value.string v),(Value.string w)]⟩) e)
def Zxw (g i a:Nat) (c:Heap) (e:Value->Heap->Prop):Prop:=
 NewW c (Obj.cells ⟨[(Value.string (ByteArray.mk #[105,110])),(vP (some ⟨a,5,none⟩)),(Value.string (ByteArray.mk #[111,117,116])),(vP (some ⟨a,6,none⟩))]⟩ Zlw) fun j d=>
 Zbl (Int×Unit) (0,()) d fun h b f=>∀k:Env,Zbqj g i a j h.1 b f e
def Zbqk (b:Nat) (l:Heap) (d:Value->Heap->Prop):Prop:=
 NewW l (Obj.cells ⟨[(Value.string (ByteArray.mk #[])),(vI vU 0),(vI vU 0),(vB false),(vI wI 0),(Value.string (ByteArray.mk #[])),(Value.string (ByteArray.mk #[]))]⟩ Zt) fun j m=>
 FnW wP Zib ⟨[(vP (some ⟨b,0,none⟩)),(vI wI 1)]⟩ m fun Q w=>
 ∃L,∃k:ByteArray,∃M:Int,∃N:Int,∃O:Int,∃P:Int,Q=(vA ⟨[(vI wI L),(Value.string k),(vI wI M),(vI vU N),(vI wI O),(vI wI P)]⟩)∧
 NewW w (Obj.cells ⟨[(Value.string (ByteArray.mk #[])),(vI vU 0),(vI vU 0),(vB false),(vI wI 0),(Value.string (ByteArray.mk #[])),(Value.string (ByteArray.mk #[]))]⟩ Zt) fun a y=>
 Za y ⟨a,0,none⟩ (Value.string k) fun z=>
 Za z ⟨a,1,none⟩ (vI vU 0) fun A=>
 Za A ⟨a,2,none⟩ (vI vU 0) fun B=>
 Za B ⟨a,3,none⟩ (vB false) fun C=>
 Za C ⟨a,4,none⟩ (vI wI 0) fun D=>
 Za D ⟨a,5,none⟩ (Value.string (ByteArray.mk #[])) fun E=>
 Za E ⟨a,6,none⟩ (Value.string (ByteArray.mk #[])) fun n=>
 FnW wP Zcw ⟨[(vP (some ⟨b,0,none⟩)),(vI wI 3)]⟩ n fun F o=>
 ∃e,F=vI wI e∧
 Za o ⟨a,1,none⟩ (vI vU (vW vU e)) fun p=>
 FnW wP Zgm ⟨[(vP (some ⟨b,0,none⟩)),(Value.string (ByteArray.mk #[97,115]))]⟩ p fun G q=>
 G=vT ⟨[]⟩∧
 FnW wP Zcw ⟨[(vP (some ⟨b,0,none⟩)),(vI wI 2)]⟩ q fun H r=>
 ∃f,H=vI wI f∧
 Za r ⟨a,2,none⟩ (vI vU (vW vU f)) fun s=>
 FnW wP Zev ⟨[(vP (some ⟨b,0,none⟩)),(Value.string (ByteArray.mk #[119,97,105,116,115]))]⟩ s fun I t=>
 ∃g,I=vB g∧
 Za t ⟨a,3,none⟩ (vB g) fun u=>
 FnW wP Zev ⟨[(vP (some ⟨b,0,none⟩)),(Value.string (ByteArray.mk #[109,97,120]))]⟩ u fun J c=>
 ∃h,J=vB h∧
 IfB h
 (FnW wP Zcw ⟨[(vP (some ⟨b,0,none⟩)),(vI wI 2)]⟩ c fun K v=>
 ∃i,K=vI wI i∧
 Za v ⟨a,4,none⟩ (vI wI i) fun x=>
 Zxw b j a x d)
 (Zxw b j a c d)
theorem Zchu (d:Nat) {a:Heap} {c:Value->Heap->Prop} (f:Zbqk d a fun g e=>∀b,Shut a e b->c g b):FnW wP Zbap ⟨[(vP (some ⟨d,0,none⟩))]⟩ a c:=Zk Tryz.func48 ⟨[(12,[0,1,2,3,4,5,6],[43])],[(9,[34],[.int wI],[0,2,3,32,33])],[],[]⟩ (by kernel_rfl) (by kernel_rfl) f
def Zbpj (f:Nat) (e:Int) (b:Heap) (d:Value->Heap->Prop):Prop:=
 FnW wP Zib ⟨[(vP (some ⟨f,0,none⟩)),(vI wI e)]⟩ b fun l c=>
 ∃g,∃h:ByteArray,∃a:Int,∃i:Int,∃j:Int,∃k:Int,l=(vA ⟨[(vI wI g),(Value.string h),(vI wI a),(vI vU i),(vI wI j),(vI wI k)]⟩)∧
 d (vI wI a) c
theorem Zchb (e:Nat) (d:Int) {a:Heap} {c:Value->Heap->Prop} (g:Zbpj e d a fun h f=>∀b,Shut a f b->c h b):FnW wP Zcw ⟨[(vP (some ⟨e,0,none⟩)),(vI wI d)]⟩ a c:=Zk Tryz.func49 ⟨[],[],[],[]⟩ (by kernel_rfl) (by kernel_rfl) g
def Zbpq (c:Nat) (h:ByteArray) (f:Heap) (d:Value->Heap->Prop):Prop:=
 FnW wP Zps ⟨[(vP (some ⟨c,0,none⟩)),(Value.string h)]⟩ f fun i b=>
 ∃a,i=vB a∧
 IfB a
 (∃e,b.cell ⟨c,1,none⟩=some (vI wI e)∧
 Za b ⟨c,1,none⟩ (vI wI (vW wI (e+1))) fun g=>
 d (vB a) g)
 (d (vB a) b)
theorem Zchj (d:Nat) (e:ByteArray) {a:Heap} {c:Value->Heap->Prop} (g:Zbpq d e a fun h f=>∀b,Shut a f b->c h b):FnW wP Zev ⟨[(vP (some ⟨d,0,none⟩)),(Value.string e)]⟩ a c:=Zk Tryz.func85 ⟨[],[],[],[]⟩ (by kernel_rfl) (by kernel_rfl) g
def Zbrw (b:Nat) (l:ByteArray) (a:Heap) (c:Value->Heap->Prop):Prop:=
 ∃k,a.cell ⟨b,3,none⟩=some (vB k)∧
 IfB (!k)
 (∃d,a.cell ⟨b,1,none⟩=some (vI wI d)∧
 ∃m e n,a.cell ⟨b,0,none⟩=some (vS m e n)∧
 IfB (decide (d<(e:Int)))
 (∃f g o,a.cell ⟨b,0,none⟩=some (vS f g o)∧
 ∃h,a.cell ⟨b,1,none⟩=some (vI wI h)∧
 NilP f fun q=>
 InB h g fun p=>
 elemAt q p 6 fun i=>
 ∃j,a.cell ⟨i.block,i.off+1,none⟩=some (Value.string j)∧
 c (vB (j.toList==l.toList)) a)
 (c (vB false) a))
 (c (vB false) a)
theorem Zcis (d:Nat) (e:ByteArray) {a:Heap} {c:Value->Heap->Prop} (g:Zbrw d e a fun h f=>∀b,Shut a f b->c h b):FnW wP Zps ⟨[(vP (some ⟨d,0,none⟩)),(Value.string e)]⟩ a c:=Zk Tryz.func86 ⟨[],[],[],[]⟩ (by kernel_rfl) (by kernel_rfl) g
def Zxy (a d:Nat) (b:Heap) (T:Value->Heap->Prop):Prop:=
 ∃u,b.cell ⟨d,0,none⟩=some (vI wI u)∧∃v,b.cell ⟨d,1,none⟩=some (vI wI v)∧∃w y x,b.cell ⟨d,2,none⟩=some (vS w y x)∧∃z,b.cell ⟨d,3,none⟩=some (vI vU z)∧∃A,b.cell ⟨d,4,none⟩=some (vI wI A)∧∃B,b.cell ⟨d,5,none⟩=some (vI wI B)∧∃C E D,b.cell ⟨d,6,none⟩=some (vS C E D)∧∃F H G,b.cell ⟨d,7,none⟩=some (vS F H G)∧∃I,b.cell ⟨d,8,none⟩=some (vI wI I)∧∃J,b.cell ⟨d,9,none⟩=some (vI wI J)∧Za b ⟨a,0,none⟩ (vI wI u) fun K=>
 Za K ⟨a,1,none⟩ (vI wI v) fun L=>
 Za L ⟨a,2,none⟩ (vS w y x) fun M=>
 Za M ⟨a,3,none⟩ (vI vU z) fun N=>
 Za N ⟨a,4,none⟩ (vI wI A) fun O=>
 Za O ⟨a,5,none⟩ (vI wI B) fun P=>
 Za P ⟨a,6,none⟩ (vS C E D) fun Q=>
 Za Q ⟨a,7,none⟩ (vS F H G) fun R=>
 Za R ⟨a,8,none⟩ (vI wI I) fun S=>
 Za S ⟨a,9,none⟩ (vI wI J) fun c=>
 ∃e,c.cell ⟨a,0,none⟩=some (vI wI e)∧∃f,c.cell ⟨a,1,none⟩=some (vI wI f)∧∃g i h,c.cell ⟨a,2,none⟩=some (vS g i h)∧∃j,c.cell ⟨a,3,none⟩=some (vI vU j)∧∃k,c.cell ⟨a,4,none⟩=some (vI wI k)∧∃l,c.cell ⟨a,5,none⟩=some (vI wI l)∧∃m o n,c.cell ⟨a,6,none⟩=some (vS m o n)∧∃p r q,c.cell ⟨a,7,none⟩=some (vS p r q)∧∃s,c.cell ⟨a,8,none⟩=some (vI wI s)∧∃t,c.cell ⟨a,9,none⟩=some (vI wI t)∧T (vA ⟨[(vI wI e),(vI wI f),(vS g i h),(vI vU j),(vI wI k),(vI wI l),(vS m o n),(vS p r q),(vI wI s),(vI wI t)]⟩) c
def Zbql (a d:Nat) (b:Heap) (T:Value->Heap->Prop):Prop:=
 ∃u,b.cell ⟨d,0,none⟩=some (vI wI u)∧∃v,b.cell ⟨d,1,none⟩=some (vI wI v)∧∃w y x,b.cell ⟨d,2,none⟩=some (vS w y x)∧∃z,b.cell ⟨d,3,none⟩=some (vI vU z)∧∃A,b.cell ⟨d,4,none⟩=some (vI wI A)∧∃B,b.cell ⟨d,5,none⟩=some (vI wI B)∧∃C E D,b.cell ⟨d,6,none⟩=some (vS C E D)∧∃F H G,b.cell ⟨d,7,none⟩=some (vS F H G)∧∃I,b.cell ⟨d,8,none⟩=some (vI wI I)∧∃J,b.cell ⟨d,9,none⟩=some (vI wI J)∧Za b ⟨a,0,none⟩ (vI wI u) fun K=>
 Za K ⟨a,1,none⟩ (vI wI v) fun L=>
 Za L ⟨a,2,none⟩ (vS w y x) fun M=>
 Za M ⟨a,3,none⟩ (vI vU z) fun N=>
 Za N ⟨a,4,none⟩ (vI wI A) fun O=>
 Za O ⟨a,5,none⟩ (vI wI B) fun P=>
 Za P ⟨a,6,none⟩ (vS C E D) fun Q=>
 Za Q ⟨a,7,none⟩ (vS F H G) fun R=>
 Za R ⟨a,8,none⟩ (vI wI I) fun S=>
 Za S ⟨a,9,none⟩ (vI wI J) fun c=>
 ∃e,c.cell ⟨a,0,none⟩=some (vI wI e)∧∃f,c.cell ⟨a,1,none⟩=some (vI wI f)∧∃g i h,c.cell ⟨a,2,none⟩=some (vS g i h)∧∃j,c.cell ⟨a,3,none⟩=some (vI vU j)∧∃k,c.cell ⟨a,4,none⟩=some (vI wI k)∧∃l,c.cell ⟨a,5,none⟩=some (vI wI l)∧∃m o n,c.cell ⟨a,6,none⟩=some (vS m o n)∧∃p r q,c.cell ⟨a,7,none⟩=some (vS p r q)∧∃s,c.cell ⟨a,8,none⟩=some (vI wI s)∧∃t,c.cell ⟨a,9,none⟩=some (vI wI t)∧T (vA ⟨[(vI wI e),(vI wI f),(vS g i h),(vI vU j),(vI wI k),(vI wI l),(vS m o n),(vS p r q),(vI wI s),(vI wI t)]⟩) c
def Zka (d f e:Nat) (a:Heap) (c:Value->Heap->Prop):Prop:=
 FnW wP Zgm ⟨[(vP (some ⟨d,0,none⟩)),(Value.string (ByteArray.mk #[59]))]⟩ a fun g b=>
 g=vT ⟨[]⟩∧
 Zbql f e b c
def Zkb (a e b:Nat) (j:Int) (k:Bool) (c:Heap) (d:Value->Heap->Prop):Prop:=
 IfB k
 (FnW wP Zcw ⟨[(vP (some ⟨a,0,none⟩)),(vI wI 5)]⟩ c fun l g=>
 ∃f,l=vI wI f∧
 Za g ⟨b,8,none⟩ (vI wI f) fun h=>
 Zka a e b h d)
 (IfB (j==1)
 (Za c ⟨a,3,none⟩ (vB true) fun i=>
 Zka a e b i d)
 (Zka a e b c d))
def Zht (b f c:Nat) (a:Int) (j:Bool) (d:Heap) (e:Value->Heap->Prop):Prop:=
 IfB j
 (FnW wP Zcw ⟨[(vP (some ⟨b,0,none⟩)),(vI wI 2)]⟩ d fun k h=>
 ∃g,k=vI wI g∧
 Za h ⟨c,8,none⟩ (vI wI g) fun i=>
 Zka b f c i e)
 (IfB (a==7)
 (Zkb b f c a (a==7) d e)
 (Zkb b f c a (a==8) d e))
def Zbqm (c:Nat) (B:Heap) (e:Value->Heap->Prop):Prop:=
 NewW B (Obj.cells ⟨[(vI wI 0),(vI wI 0),(vS none 0 0),(vI vU 0),(vI wI 0),(vI wI 0),(vS none 0 0),(vS none 0 0),(vI wI 0),(vI wI 0)]⟩ Zq) fun f C=>
 FnW wP Zev ⟨[(vP (some ⟨c,0,none⟩)),(Value.string (ByteArray.mk #[105,102]))]⟩ C fun b6 i=>
 ∃t,b6=vB t∧
 IfB t
 (FnW wP Zmp ⟨[(vP (some ⟨c,0,none⟩))]⟩ i fun b7 M=>
 ∃u,∃(v:Option Addr) (x w:Nat),∃y:Int,∃z:Int,∃A:Int,b7=(vA ⟨[(vI wI u),(vS v x w),(vI vU y),(vI wI z),(vI wI A)]⟩)∧
 NewW M (Obj.cells ⟨[(vI wI 0),(vI wI 0),(vS none 0 0),(vI vU 0),(vI wI 0),(vI wI 0),(vS none 0 0),(vS none 0 0),(vI wI 0),(vI wI 0)]⟩ Zq) fun b W=>
 Za W ⟨b,0,none⟩ (vI wI 1) fun a4=>
 Za a4 ⟨b,1,none⟩ (vI wI u) fun a5=>
 Za a5 ⟨b,2,none⟩ (vS v x w) fun a6=>
 Za a6 ⟨b,3,none⟩ (vI vU y) fun a7=>
 Za a7 ⟨b,4,none⟩ (vI wI z) fun a8=>
 Za a8 ⟨b,5,none⟩ (vI wI A) fun D=>
 Za D ⟨b,6,none⟩ (vS none 0 0) fun E=>
 Za E ⟨b,7,none⟩ (vS none 0 0) fun F=>
 Za F ⟨b,8,none⟩ (vI wI 0) fun G=>
 Za G ⟨b,9,none⟩ (vI wI 0) fun H=>
 FnW wP Zpx ⟨[(vP (some ⟨c,0,none⟩))]⟩ H fun a9 I=>
 ∃j l k,a9=vS j l k∧
 Za I ⟨b,6,none⟩ (vS j l k) fun J=>
 FnW wP Zev ⟨[(vP (some ⟨c,0,none⟩)),(Value.string (ByteArray.mk #[101,108,115,101]))]⟩ J fun b0 h=>
 ∃m,b0=vB m∧
 IfB m
 (FnW wP Zpx ⟨[(vP (some ⟨c,0,none⟩))]⟩ h fun b1 K=>
 ∃n p o,b1=vS n p o∧
 Za K ⟨b,7,none⟩ (vS n p o) fun L=>
 Zxy f b L e)
 (Zxy f b h e))
 (NewW i (Obj.cells ⟨[(Value.string (ByteArray.mk #[97,99,99,101,112,116])),(Value.string (ByteArray.mk #[114,101,106,101,99,116])),(Value.string (ByteArray.mk #[112,114,101,112,101,110,100])),(Value.string (ByteArray.mk #[108,111,99,97,108])),(Value.string (ByteArray.mk #[109,101,100])),(Value.string (ByteArray.mk #[97,100,100])),(Value.string (ByteArray.mk #[100,114,111,112])),(Value.string (ByteArray.mk #[99,108,101,97,114]))]⟩ Zj) fun b2 N=>
 FnW wP Zkm ⟨[(vP (some ⟨c,0,none⟩)),(vS (some ⟨b2,0,none⟩) 8 8)]⟩ N fun b3 O=>
 ∃q,b3=vI wI q∧
 NewW O (Obj.cells ⟨[(vI wI 0),(vI wI 0),(vS none 0 0),(vI vU 0),(vI wI 0),(vI wI 0),(vS none 0 0),(vS none 0 0),(vI wI 0),(vI wI 0)]⟩ Zq) fun a P=>
 Za P ⟨a,0,none⟩ (vI wI (vW wI (2+q))) fun Q=>
 Za Q ⟨a,1,none⟩ (vI wI 0) fun R=>
 Za R ⟨a,2,none⟩ (vS none 0 0) fun S=>
 Za S ⟨a,3,none⟩ (vI vU 0) fun T=>
 Za T ⟨a,4,none⟩ (vI wI 0) fun U=>
 Za U ⟨a,5,none⟩ (vI wI 0) fun V=>
 Za V ⟨a,6,none⟩ (vS none 0 0) fun X=>
 Za X ⟨a,7,none⟩ (vS none 0 0) fun Y=>
 Za Y ⟨a,8,none⟩ (vI wI 0) fun Z=>
 Za Z ⟨a,9,none⟩ (vI wI 0) fun g=>
 ∃d,g.cell ⟨a,0,none⟩=some (vI wI d)∧
 IfB (d==4)
 (FnW wP Zcw ⟨[(vP (some ⟨c,0,none⟩)),(vI wI 2)]⟩ g fun b4 a0=>
 ∃r,b4=vI wI r∧
 Za a0 ⟨a,8,none⟩ (vI wI r) fun a1=>
 FnW wP Zcw ⟨[(vP (some ⟨c,0,none⟩)),(vI wI 2)]⟩ a1 fun b5 a2=>
 ∃s,b5=vI wI s∧
 Za a2 ⟨a,9,none⟩ (vI wI s) fun a3=>
 Zka c f a a3 e)
 (IfB (d==5)
 (Zht c f a d (d==5) g e)
 (Zht c f a d (d==6) g e)))
theorem Zchw (d:Nat) {a:Heap} {c:Value->Heap->Prop} (f:Zbqm d a fun g e=>∀b,Shut a e b->c g b):FnW wP Zmj ⟨[(vP (some ⟨d,0,none⟩))]⟩ a c:=Zk Tryz.func87 ⟨[],[],[],[]⟩ (by kernel_rfl) (by kernel_rfl) f
def Zbrm (c:Nat) (r:Heap) (y:Value->Heap->Prop):Prop:=
 NewW r (Obj.cells ⟨[(vI wI 0),(vS none 0 0),(vI vU 0),(vI wI 0),(vI wI 0)]⟩ Zl) fun a s=>
 FnW wP Zua ⟨[(vP (some ⟨c,0,none⟩)),(vI wI 2),(Value.string (ByteArray.mk #[111,114])),(vF (.func Zbay) #[(vP (some ⟨c,0,none⟩))] #[])]⟩ s fun z t=>
 ∃k,∃(l:Option Addr) (n m:Nat),∃o:Int,∃p:Int,∃q:Int,z=(vA ⟨[(vI wI k),(vS l n m),(vI vU o),(vI wI p),(vI wI q)]⟩)∧
 Za t ⟨a,0,none⟩ (vI wI k) fun u=>
 Za u ⟨a,1,none⟩ (vS l n m) fun v=>
 Za v ⟨a,2,none⟩ (vI vU o) fun w=>
 Za w ⟨a,3,none⟩ (vI wI p) fun x=>
 Za x ⟨a,4,none⟩ (vI wI q) fun b=>
 ∃d,b.cell ⟨a,0,none⟩=some (vI wI d)∧∃e g f,b.cell ⟨a,1,none⟩=some (vS e g f)∧∃h,b.cell ⟨a,2,none⟩=some (vI vU h)∧∃i,b.cell ⟨a,3,none⟩=some (vI wI i)∧∃j,b.cell ⟨a,4,none⟩=some (vI wI j)∧y (vA ⟨[(vI wI d),(vS e g f),(vI vU h),(vI wI i),(vI wI j)]⟩) b
theorem Zcil (d:Nat) {a:Heap} {c:Value->Heap->Prop} (f:Zbrm d a fun g e=>∀b,Shut a e b->c g b):FnW wP Zmp ⟨[(vP (some ⟨d,0,none⟩))]⟩ a c:=Zk Tryz.func123 ⟨[],[],[],[]⟩ (by kernel_rfl) (by kernel_rfl) f
def Zbsf (a:Nat) (j:Heap) (d:Value->Heap->Prop):Prop:=
 FnW wP Zpr ⟨[(vP (some ⟨a,0,none⟩)),(Value.string (ByteArray.mk #[123]))]⟩ j fun n b=>
 ∃i,n=vB i∧
 IfB (!i)
 (Za b ⟨a,3,none⟩ (vB true) fun k=>
 d (vS none 0 0) k)
 (FnW wP Zpp ⟨[(vP (some ⟨a,0,none⟩))]⟩ b fun m c=>
 ∃e g f,m=vS e g f∧
 ∃h,c.cell ⟨a,2,none⟩=some (vI wI h)∧
 Za c ⟨a,2,none⟩ (vI wI (vW wI (h - 1))) fun l=>
 d (vS e g f) l)
theorem Zcix (d:Nat) {a:Heap} {c:Value->Heap->Prop} (f:Zbsf d a fun g e=>∀b,Shut a e b->c g b):FnW wP Zpx ⟨[(vP (some ⟨d,0,none⟩))]⟩ a c:=Zk Tryz.func124 ⟨[],[],[],[]⟩ (by kernel_rfl) (by kernel_rfl) f
def Zbrp (a5:Nat) (a4:Int) (a1:ByteArray) (a2:FuncId) (a6:Value) (a:Nat) (g:Option Addr) (f i:Nat) (W:Heap) (a3:((Option Addr×Nat×Nat)×Unit)->Heap->Prop) (h:Value->Heap->Prop):Prop:=
 FnW wP Zev ⟨[(vP (some ⟨a5,0,none⟩)),(Value.string a1)]⟩ W fun a7 c=>
 ∃x,a7=vB x∧
 IfB x
 (FnW wP a2 ⟨[a6]⟩ c fun a8 X=>
 ∃y,∃(z:Option Addr) (B A:Nat),∃C:Int,∃D:Int,∃E:Int,a8=(vA ⟨[(vI wI y),(vS z B A),(vI vU C),(vI wI D),(vI wI E)]⟩)∧
 NewW X (Obj.cells ⟨[(vI wI y),(vS z B A),(vI vU C),(vI wI D),(vI wI E)]⟩ Zl) fun a9 Y=>
 AppW wP #[Zeg,Zeg] Zeg [(vS g f i),(vS (some ⟨a9,0,none⟩) 1 1)] Y fun b0 Z=>
 ∃F H G,b0=vS F H G∧
 a3 ((F,H,G),()) Z)
 (IfB (((f:Int):Int)==1)
 (NilP g fun b2=>
 InB 0 f fun b1=>
 elemAt b2 b1 5 fun b=>
 ∃I,c.cell b=some (vI wI I)∧∃J L K,c.cell ⟨b.block,b.off+1,none⟩=some (vS J L K)∧∃M,c.cell ⟨b.block,b.off+2,none⟩=some (vI vU M)∧∃N,c.cell ⟨b.block,b.off+3,none⟩=some (vI wI N)∧∃O,c.cell ⟨b.block,b.off+4,none⟩=some (vI wI O)∧Za c ⟨a,0,none⟩ (vI wI I) fun a0=>
 Za a0 ⟨a,1,none⟩ (vS J L K) fun P=>
 Za P ⟨a,2,none⟩ (vI vU M) fun Q=>
 Za Q ⟨a,3,none⟩ (vI wI N) fun R=>
 Za R ⟨a,4,none⟩ (vI wI O) fun d=>
 ∃j,d.cell ⟨a,0,none⟩=some (vI wI j)∧∃l p n,d.cell ⟨a,1,none⟩=some (vS l p n)∧∃r,d.cell ⟨a,2,none⟩=some (vI vU r)∧∃t,d.cell ⟨a,3,none⟩=some (vI wI t)∧∃v,d.cell ⟨a,4,none⟩=some (vI wI v)∧h (vA ⟨[(vI wI j),(vS l p n),(vI vU r),(vI wI t),(vI wI v)]⟩) d)
 (Za c ⟨a,0,none⟩ (vI wI a4) fun S=>
 Za S ⟨a,1,none⟩ (vS g f i) fun T=>
 Za T ⟨a,2,none⟩ (vI vU 0) fun U=>
 Za U ⟨a,3,none⟩ (vI wI 0) fun V=>
 Za V ⟨a,4,none⟩ (vI wI 0) fun e=>
 ∃k,e.cell ⟨a,0,none⟩=some (vI wI k)∧∃m q o,e.cell ⟨a,1,none⟩=some (vS m q o)∧∃s,e.cell ⟨a,2,none⟩=some (vI vU s)∧∃u,e.cell ⟨a,3,none⟩=some (vI wI u)∧∃w,e.cell ⟨a,4,none⟩=some (vI wI w)∧h (vA ⟨[(vI wI k),(vS m q o),(vI vU s),(vI wI u),(vI wI w)]⟩) e))
def Zbrq (s:Nat) (r:Int) (p:ByteArray) (c:FuncId) (d:Value) (a:Heap) (o:Value->Heap->Prop):Prop:=
 NewW a (Obj.cells ⟨[(vI wI 0),(vS none 0 0),(vI vU 0),(vI wI 0),(vI wI 0)]⟩ Zl) fun v l=>
 FnW wP c ⟨[d]⟩ l fun t m=>
 ∃e,∃(f:Option Addr) (h g:Nat),∃i:Int,∃j:Int,∃k:Int,t=(vA ⟨[(vI wI e),(vS f h g),(vI vU i),(vI wI j),(vI wI k)]⟩)∧
 NewW m (Obj.cells ⟨[(vI wI e),(vS f h g),(vI vU i),(vI wI j),(vI wI k)]⟩ Zl) fun u n=>
 Zbl ((Option Addr×Nat×Nat)×Unit) (((some ⟨u,0,none⟩),1,1),()) n fun b a q=>∀w:Env,Zbrp s r p c d v b.1.1 b.1.2.1 b.1.2.2 a q o
theorem Zcim (g:Nat) (f:Int) (d:ByteArray) (e:FuncId) (h:Value) {a:Heap} {c:Value->Heap->Prop} (j:Zbrq g f d e h a fun k i=>∀b,Shut a i b->c k b):FnW wP Zua ⟨[(vP (some ⟨g,0,none⟩)),(vI wI f),(Value.string d),(vF (.func e) #[h] #[])]⟩ a c:=Zk Tryz.func148 ⟨[],[(2,[9],[.slice],[0,1,2,3,8])],[],[]⟩ (by kernel_rfl) (by kernel_rfl) j
def Zbtb (c:Nat) (r:Heap) (y:Value->Heap->Prop):Prop:=
 NewW r (Obj.cells ⟨[(vI wI 0),(vS none 0 0),(vI vU 0),(vI wI 0),(vI wI 0)]⟩ Zl) fun a s=>
 FnW wP Zua ⟨[(vP (some ⟨c,0,none⟩)),(vI wI 1),(Value.string (ByteArray.mk #[97,110,100])),(vF (.func Zmm) #[(vP (some ⟨c,0,none⟩))] #[])]⟩ s fun z t=>
 ∃k,∃(l:Option Addr) (n m:Nat),∃o:Int,∃p:Int,∃q:Int,z=(vA ⟨[(vI wI k),(vS l n m),(vI vU o),(vI wI p),(vI wI q)]⟩)∧
 Za t ⟨a,0,none⟩ (vI wI k) fun u=>
 Za u ⟨a,1,none⟩ (vS l n m) fun v=>
 Za v ⟨a,2,none⟩ (vI vU o) fun w=>
 Za w ⟨a,3,none⟩ (vI wI p) fun x=>
 Za x ⟨a,4,none⟩ (vI wI q) fun b=>
 ∃d,b.cell ⟨a,0,none⟩=some (vI wI d)∧∃e g f,b.cell ⟨a,1,none⟩=some (vS e g f)∧∃h,b.cell ⟨a,2,none⟩=some (vI vU h)∧∃i,b.cell ⟨a,3,none⟩=some (vI wI i)∧∃j,b.cell ⟨a,4,none⟩=some (vI wI j)∧y (vA ⟨[(vI wI d),(vS e g f),(vI vU h),(vI wI i),(vI wI j)]⟩) b
theorem Zcjp (d:Nat) {a:Heap} {c:Value->Heap->Prop} (f:Zbtb d a fun g e=>∀b,Shut a e b->c g b):FnW wP Zbay ⟨[(vP (some ⟨d,0,none⟩))]⟩ a c:=Zk Tryz.func149 ⟨[],[],[],[]⟩ (by kernel_rfl) (by kernel_rfl) f
def Zbrr (a:Nat) (l:ByteArray) (i:Heap) (c:Value->Heap->Prop):Prop:=
 FnW wP Zps ⟨[(vP (some ⟨a,0,none⟩)),(Value.string l)]⟩ i fun m b=>
 ∃h,m=vB h∧
 IfB (!h)
 (c (vB false) b)
 (∃e,b.cell ⟨a,2,none⟩=some (vI wI e)∧
 IfB (e==24)
 (Za b ⟨a,3,none⟩ (vB true) fun j=>
 c (vB false) j)
 (∃f,b.cell ⟨a,1,none⟩=some (vI wI f)∧
 Za b ⟨a,1,none⟩ (vI wI (vW wI (f+1))) fun d=>
 ∃g,d.cell ⟨a,2,none⟩=some (vI wI g)∧
 Za d ⟨a,2,none⟩ (vI wI (vW wI (g+1))) fun k=>
 c (vB true) k))
theorem Zcin (d:Nat) (e:ByteArray) {a:Heap} {c:Value->Heap->Prop} (g:Zbrr d e a fun h f=>∀b,Shut a f b->c h b):FnW wP Zpr ⟨[(vP (some ⟨d,0,none⟩)),(Value.string e)]⟩ a c:=Zk Tryz.func150 ⟨[],[],[],[]⟩ (by kernel_rfl) (by kernel_rfl) g
def Zxz (f a d:Nat) (e:Heap) (z:Value->Heap->Prop):Prop:=
 ∃n,e.cell ⟨f,2,none⟩=some (vI wI n)∧
 Za e ⟨f,2,none⟩ (vI wI (vW wI (n - 1))) fun b=>
 ∃o,b.cell ⟨d,0,none⟩=some (vI wI o)∧∃p r q,b.cell ⟨d,1,none⟩=some (vS p r q)∧∃s,b.cell ⟨d,2,none⟩=some (vI vU s)∧∃t,b.cell ⟨d,3,none⟩=some (vI wI t)∧∃u,b.cell ⟨d,4,none⟩=some (vI wI u)∧Za b ⟨a,0,none⟩ (vI wI o) fun v=>
 Za v ⟨a,1,none⟩ (vS p r q) fun w=>
 Za w ⟨a,2,none⟩ (vI vU s) fun x=>
 Za x ⟨a,3,none⟩ (vI wI t) fun y=>
 Za y ⟨a,4,none⟩ (vI wI u) fun c=>
 ∃g,c.cell ⟨a,0,none⟩=some (vI wI g)∧∃h j i,c.cell ⟨a,1,none⟩=some (vS h j i)∧∃k,c.cell ⟨a,2,none⟩=some (vI vU k)∧∃l,c.cell ⟨a,3,none⟩=some (vI wI l)∧∃m,c.cell ⟨a,4,none⟩=some (vI wI m)∧z (vA ⟨[(vI wI g),(vS h j i),(vI vU k),(vI wI l),(vI wI m)]⟩) c
def Zbra (c:Nat) (L:Heap) (e:Value->Heap->Prop):Prop:=
 NewW L (Obj.cells ⟨[(vI wI 0),(vS none 0 0),(vI vU 0),(vI wI 0),(vI wI 0)]⟩ Zl) fun b M=>
 NewW M (Obj.cells ⟨[(vI wI 0),(vS none 0 0),(vI vU 0),(vI wI 0),(vI wI 0)]⟩ Zl) fun a P=>
 FnW wP Zpr ⟨[(vP (some ⟨c,0,none⟩)),(Value.string (ByteArray.mk #[110,111,116]))]⟩ P fun b1 g=>
 ∃D,b1=vB D∧
 IfB D
 (FnW wP Zmm ⟨[(vP (some ⟨c,0,none⟩))]⟩ g fun b2 a1=>
 ∃E,∃(F:Option Addr) (H G:Nat),∃I:Int,∃J:Int,∃K:Int,b2=(vA ⟨[(vI wI E),(vS F H G),(vI vU I),(vI wI J),(vI wI K)]⟩)∧
 NewW a1 (Obj.cells ⟨[(vI wI E),(vS F H G),(vI vU I),(vI wI J),(vI wI K)]⟩ Zl) fun b3 a2=>
 Za a2 ⟨a,0,none⟩ (vI wI 3) fun a3=>
 Za a3 ⟨a,1,none⟩ (vS (some ⟨b3,0,none⟩) 1 1) fun a4=>
 Za a4 ⟨a,2,none⟩ (vI vU 0) fun a5=>
 Za a5 ⟨a,3,none⟩ (vI wI 0) fun a6=>
 Za a6 ⟨a,4,none⟩ (vI wI 0) fun N=>
 Zxz c b a N e)
 (FnW wP Zpr ⟨[(vP (some ⟨c,0,none⟩)),(Value.string (ByteArray.mk #[40]))]⟩ g fun a7 f=>
 ∃o,a7=vB o∧
 IfB o
 (FnW wP Zmp ⟨[(vP (some ⟨c,0,none⟩))]⟩ f fun a8 O=>
 ∃p,∃(q:Option Addr) (s r:Nat),∃t:Int,∃u:Int,∃v:Int,a8=(vA ⟨[(vI wI p),(vS q s r),(vI vU t),(vI wI u),(vI wI v)]⟩)∧
 Za O ⟨a,0,none⟩ (vI wI p) fun Q=>
 Za Q ⟨a,1,none⟩ (vS q s r) fun R=>
 Za R ⟨a,2,none⟩ (vI vU t) fun S=>
 Za S ⟨a,3,none⟩ (vI wI u) fun T=>
 Za T ⟨a,4,none⟩ (vI wI v) fun U=>
 FnW wP Zgm ⟨[(vP (some ⟨c,0,none⟩)),(Value.string (ByteArray.mk #[41]))]⟩ U fun a9 V=>
 a9=vT ⟨[]⟩∧
 Zxz c b a V e)
 (FnW wP Zbar ⟨[(vP (some ⟨c,0,none⟩))]⟩ f fun b0 W=>
 ∃w,∃(x:Option Addr) (z y:Nat),∃A:Int,∃B:Int,∃C:Int,b0=(vA ⟨[(vI wI w),(vS x z y),(vI vU A),(vI wI B),(vI wI C)]⟩)∧
 Za W ⟨b,0,none⟩ (vI wI w) fun X=>
 Za X ⟨b,1,none⟩ (vS x z y) fun Y=>
 Za Y ⟨b,2,none⟩ (vI vU A) fun Z=>
 Za Z ⟨b,3,none⟩ (vI wI B) fun a0=>
 Za a0 ⟨b,4,none⟩ (vI wI C) fun d=>
 ∃h,d.cell ⟨b,0,none⟩=some (vI wI h)∧∃i k j,d.cell ⟨b,1,none⟩=some (vS i k j)∧∃l,d.cell ⟨b,2,none⟩=some (vI vU l)∧∃m,d.cell ⟨b,3,none⟩=some (vI wI m)∧∃n,d.cell ⟨b,4,none⟩=some (vI wI n)∧e (vA ⟨[(vI wI h),(vS i k j),(vI vU l),(vI wI m),(vI wI n)]⟩) d))
theorem Zcid (d:Nat) {a:Heap} {c:Value->Heap->Prop} (f:Zbra d a fun g e=>∀b,Shut a e b->c g b):FnW wP Zmm ⟨[(vP (some ⟨d,0,none⟩))]⟩ a c:=Zk Tryz.func174 ⟨[],[],[],[]⟩ (by kernel_rfl) (by kernel_rfl) f
def Zsj (q a:Nat) (j:Heap) (p:Value->Heap->Prop):Prop:=
 Za j ⟨q,3,none⟩ (vB true) fun k=>
 Za k ⟨a,0,none⟩ (vI wI 0) fun l=>
 Za l ⟨a,1,none⟩ (vS none 0 0) fun m=>
 Za m ⟨a,2,none⟩ (vI vU 0) fun n=>
 Za n ⟨a,3,none⟩ (vI wI 0) fun o=>
 Za o ⟨a,4,none⟩ (vI wI 0) fun b=>
 ∃c,b.cell ⟨a,0,none⟩=some (vI wI c)∧∃d f e,b.cell ⟨a,1,none⟩=some (vS d f e)∧∃g,b.cell ⟨a,2,none⟩=some (vI vU g)∧∃h,b.cell ⟨a,3,none⟩=some (vI wI h)∧∃i,b.cell ⟨a,4,none⟩=some (vI wI i)∧p (vA ⟨[(vI wI c),(vS d f e),(vI vU g),(vI wI h),(vI wI i)]⟩) b
def Zbre (b:Nat) (a7:Heap) (c:Value->Heap->Prop):Prop:=
 NewW a7 (Obj.cells ⟨[(vI wI 0),(vS none 0 0),(vI vU 0),(vI wI 0),(vI wI 0)]⟩ Zl) fun a a8=>
 NewW a8 (Obj.cells ⟨[(Value.string (ByteArray.mk #[112,114,101,102,105,120])),(Value.string (ByteArray.mk #[112,97,116,104])),(Value.string (ByteArray.mk #[99,111,109,109,117,110,105,116,121])),(Value.string (ByteArray.mk #[111,114,105,103,105,110])),(Value.string (ByteArray.mk #[109,101,100]))]⟩ Zj) fun e6 b5=>
 FnW wP Zkm ⟨[(vP (some ⟨b,0,none⟩)),(vS (some ⟨e6,0,none⟩) 5 5)]⟩ b5 fun e7 e=>
 ∃j,e7=vI wI j∧
 IfB (j==0)
 (FnW wP Zbas ⟨[(vP (some ⟨b,0,none⟩))]⟩ e fun d7 c8=>
 ∃X,∃(Y:Option Addr) (a0 Z:Nat),∃a1:Int,∃a2:Int,∃a3:Int,d7=(vA ⟨[(vI wI X),(vS Y a0 Z),(vI vU a1),(vI wI a2),(vI wI a3)]⟩)∧
 Za c8 ⟨a,0,none⟩ (vI wI X) fun d3=>
 Za d3 ⟨a,1,none⟩ (vS Y a0 Z) fun d4=>
 Za d4 ⟨a,2,none⟩ (vI vU a1) fun d5=>
 Za d5 ⟨a,3,none⟩ (vI wI a2) fun d6=>
 Za d6 ⟨a,4,none⟩ (vI wI a3) fun i=>
 ∃o,i.cell ⟨a,0,none⟩=some (vI wI o)∧∃t D y,i.cell ⟨a,1,none⟩=some (vS t D y)∧∃I,i.cell ⟨a,2,none⟩=some (vI vU I)∧∃N,i.cell ⟨a,3,none⟩=some (vI wI N)∧∃S,i.cell ⟨a,4,none⟩=some (vI wI S)∧c (vA ⟨[(vI wI o),(vS t D y),(vI vU I),(vI wI N),(vI wI S)]⟩) i)
 (IfB (j==1)
 (NewW e (Obj.cells ⟨[(Value.string (ByteArray.mk #[104,97,115])),(Value.string (ByteArray.mk #[102,114,111,109])),(Value.string (ByteArray.mk #[111,114,105,103,105,110])),(Value.string (ByteArray.mk #[108,111,110,103,101,114]))]⟩ Zj) fun d8 a9=>
 FnW wP Zkm ⟨[(vP (some ⟨b,0,none⟩)),(vS (some ⟨d8,0,none⟩) 4 4)]⟩ a9 fun d9 m=>
 ∃k,d9=vI wI k∧
 IfB (decide (k≥0))
 (FnW wP Zcw ⟨[(vP (some ⟨b,0,none⟩)),(vI wI 2)]⟩ m fun e0 b0=>
 ∃a4,e0=vI wI a4∧
 Za b0 ⟨a,0,none⟩ (vI wI (vW wI (6+k))) fun b1=>
 Za b1 ⟨a,1,none⟩ (vS none 0 0) fun b2=>
 Za b2 ⟨a,2,none⟩ (vI vU 0) fun b3=>
 Za b3 ⟨a,3,none⟩ (vI wI 0) fun b4=>
 Za b4 ⟨a,4,none⟩ (vI wI a4) fun d=>
 ∃p,d.cell ⟨a,0,none⟩=some (vI wI p)∧∃u E z,d.cell ⟨a,1,none⟩=some (vS u E z)∧∃J,d.cell ⟨a,2,none⟩=some (vI vU J)∧∃O,d.cell ⟨a,3,none⟩=some (vI wI O)∧∃T,d.cell ⟨a,4,none⟩=some (vI wI T)∧c (vA ⟨[(vI wI p),(vS u E z),(vI vU J),(vI wI O),(vI wI T)]⟩) d)
 (Zsj b a m c))
 (IfB (j==2)
 (FnW wP Zcw ⟨[(vP (some ⟨b,0,none⟩)),(vI wI 5)]⟩ e fun e1 b6=>
 ∃a5,e1=vI wI a5∧
 Za b6 ⟨a,0,none⟩ (vI wI 10) fun b7=>
 Za b7 ⟨a,1,none⟩ (vS none 0 0) fun b8=>
 Za b8 ⟨a,2,none⟩ (vI vU 0) fun b9=>
 Za b9 ⟨a,3,none⟩ (vI wI 0) fun c0=>
 Za c0 ⟨a,4,none⟩ (vI wI a5) fun f=>
 ∃q,f.cell ⟨a,0,none⟩=some (vI wI q)∧∃v F A,f.cell ⟨a,1,none⟩=some (vS v F A)∧∃K,f.cell ⟨a,2,none⟩=some (vI vU K)∧∃P,f.cell ⟨a,3,none⟩=some (vI wI P)∧∃U,f.cell ⟨a,4,none⟩=some (vI wI U)∧c (vA ⟨[(vI wI q),(vS v F A),(vI vU K),(vI wI P),(vI wI U)]⟩) f)
 (IfB (j==3)
 (NewW e (Obj.cells ⟨[(Value.string (ByteArray.mk #[105,110,110,101,114])),(Value.string (ByteArray.mk #[111,117,116,101,114])),(Value.string (ByteArray.mk #[117,110,107,110,111,119,110]))]⟩ Zj) fun e2 c1=>
 FnW wP Zkm ⟨[(vP (some ⟨b,0,none⟩)),(vS (some ⟨e2,0,none⟩) 3 3)]⟩ c1 fun e3 n=>
 ∃l,e3=vI wI l∧
 IfB (decide (l≥0))
 (Za n ⟨a,0,none⟩ (vI wI 11) fun c2=>
 Za c2 ⟨a,1,none⟩ (vS none 0 0) fun c3=>
 Za c3 ⟨a,2,none⟩ (vI vU 0) fun c4=>
 Za c4 ⟨a,3,none⟩ (vI wI 0) fun c5=>
 Za c5 ⟨a,4,none⟩ (vI wI l) fun g=>
 ∃r,g.cell ⟨a,0,none⟩=some (vI wI r)∧∃w G B,g.cell ⟨a,1,none⟩=some (vS w G B)∧∃L,g.cell ⟨a,2,none⟩=some (vI vU L)∧∃Q,g.cell ⟨a,3,none⟩=some (vI wI Q)∧∃V,g.cell ⟨a,4,none⟩=some (vI wI V)∧c (vA ⟨[(vI wI r),(vS w G B),(vI vU L),(vI wI Q),(vI wI V)]⟩) g)
 (Zsj b a n c))
 (IfB (j==4)
 (FnW wP Zgm ⟨[(vP (some ⟨b,0,none⟩)),(Value.string (ByteArray.mk #[97,98,111,118,101]))]⟩ e fun e4 c6=>
 e4=vT ⟨[]⟩∧
 FnW wP Zcw ⟨[(vP (some ⟨b,0,none⟩)),(vI wI 2)]⟩ c6 fun e5 c7=>
 ∃a6,e5=vI wI a6∧
 Za c7 ⟨a,0,none⟩ (vI wI 12) fun c9=>
 Za c9 ⟨a,1,none⟩ (vS none 0 0) fun d0=>
 Za d0 ⟨a,2,none⟩ (vI vU 0) fun d1=>
 Za d1 ⟨a,3,none⟩ (vI wI 0) fun d2=>
 Za d2 ⟨a,4,none⟩ (vI wI a6) fun h=>
 ∃s,h.cell ⟨a,0,none⟩=some (vI wI s)∧∃x H C,h.cell ⟨a,1,none⟩=some (vS x H C)∧∃M,h.cell ⟨a,2,none⟩=some (vI vU M)∧∃R,h.cell ⟨a,3,none⟩=some (vI wI R)∧∃W,h.cell ⟨a,4,none⟩=some (vI wI W)∧c (vA ⟨[(vI wI s),(vS x H C),(vI vU M),(vI wI R),(vI wI W)]⟩) h)
 (Zsj b a e c)))))
theorem Zcig (d:Nat) {a:Heap} {c:Value->Heap->Prop} (f:Zbre d a fun g e=>∀b,Shut a e b->c g b):FnW wP Zbar ⟨[(vP (some ⟨d,0,none⟩))]⟩ a c:=Zk Tryz.func185 ⟨[],[],[],[]⟩ (by kernel_rfl) (by kernel_rfl) f
def Zyi (a d:Nat) (b:Heap) (w:Value->Heap->Prop):Prop:=
 ∃l,b.cell ⟨d,0,none⟩=some (vI wI l)∧∃m o n,b.cell ⟨d,1,none⟩=some (vS m o n)∧∃p,b.cell ⟨d,2,none⟩=some (vI vU p)∧∃q,b.cell ⟨d,3,none⟩=some (vI wI q)∧∃r,b.cell ⟨d,4,none⟩=some (vI wI r)∧Za b ⟨a,0,none⟩ (vI wI l) fun s=>
 Za s ⟨a,1,none⟩ (vS m o n) fun t=>
 Za t ⟨a,2,none⟩ (vI vU p) fun u=>
 Za u ⟨a,3,none⟩ (vI wI q) fun v=>
 Za v ⟨a,4,none⟩ (vI wI r) fun c=>
 ∃e,c.cell ⟨a,0,none⟩=some (vI wI e)∧∃f h g,c.cell ⟨a,1,none⟩=some (vS f h g)∧∃i,c.cell ⟨a,2,none⟩=some (vI vU i)∧∃j,c.cell ⟨a,3,none⟩=some (vI wI j)∧∃k,c.cell ⟨a,4,none⟩=some (vI wI k)∧w (vA ⟨[(vI wI e),(vS f h g),(vI vU i),(vI wI j),(vI wI k)]⟩) c
def Zbrs (e:Nat) (D:Heap) (f:Value->Heap->Prop):Prop:=
 NewW D (Obj.cells ⟨[(vI wI 0),(vS none 0 0),(vI vU 0),(vI wI 0),(vI wI 0)]⟩ Zl) fun b E=>
 NewW E (Obj.cells ⟨[(vI wI 0),(vS none 0 0),(vI vU 0),(vI wI 0),(vI wI 0)]⟩ Zl) fun a N=>
 Za N ⟨a,0,none⟩ (vI wI 5) fun U=>
 Za U ⟨a,1,none⟩ (vS none 0 0) fun V=>
 Za V ⟨a,2,none⟩ (vI vU 0) fun W=>
 Za W ⟨a,3,none⟩ (vI wI 0) fun X=>
 Za X ⟨a,4,none⟩ (vI wI 0) fun Y=>
 FnW wP Zev ⟨[(vP (some ⟨e,0,none⟩)),(Value.string (ByteArray.mk #[105,115]))]⟩ Y fun a8 h=>
 ∃A,a8=vB A∧
 IfB A
 (FnW wP Zib ⟨[(vP (some ⟨e,0,none⟩)),(vI wI 4)]⟩ h fun b3 Z=>
 ∃a9,∃b0:ByteArray,∃b1:Int,∃B:Int,∃C:Int,∃b2:Int,b3=(vA ⟨[(vI wI a9),(Value.string b0),(vI wI b1),(vI vU B),(vI wI C),(vI wI b2)]⟩)∧
 Za Z ⟨a,2,none⟩ (vI vU B) fun F=>
 Za F ⟨a,3,none⟩ (vI wI C) fun c=>
 ∃p,c.cell ⟨a,0,none⟩=some (vI wI p)∧∃q s r,c.cell ⟨a,1,none⟩=some (vS q s r)∧∃t,c.cell ⟨a,2,none⟩=some (vI vU t)∧∃u,c.cell ⟨a,3,none⟩=some (vI wI u)∧∃v,c.cell ⟨a,4,none⟩=some (vI wI v)∧Za c ⟨b,0,none⟩ (vI wI p) fun G=>
 Za G ⟨b,1,none⟩ (vS q s r) fun H=>
 Za H ⟨b,2,none⟩ (vI vU t) fun I=>
 Za I ⟨b,3,none⟩ (vI wI u) fun J=>
 Za J ⟨b,4,none⟩ (vI wI v) fun d=>
 ∃i,d.cell ⟨b,0,none⟩=some (vI wI i)∧∃j l k,d.cell ⟨b,1,none⟩=some (vS j l k)∧∃m,d.cell ⟨b,2,none⟩=some (vI vU m)∧∃n,d.cell ⟨b,3,none⟩=some (vI wI n)∧∃o,d.cell ⟨b,4,none⟩=some (vI wI o)∧f (vA ⟨[(vI wI i),(vS j l k),(vI vU m),(vI wI n),(vI wI o)]⟩) d)
 (FnW wP Zgm ⟨[(vP (some ⟨e,0,none⟩)),(Value.string (ByteArray.mk #[105,110]))]⟩ h fun a0 K=>
 a0=vT ⟨[]⟩∧
 FnW wP Zib ⟨[(vP (some ⟨e,0,none⟩)),(vI wI 4)]⟩ K fun a5 L=>
 ∃a1,∃a2:ByteArray,∃a3:Int,∃w:Int,∃x:Int,∃a4:Int,a5=(vA ⟨[(vI wI a1),(Value.string a2),(vI wI a3),(vI vU w),(vI wI x),(vI wI a4)]⟩)∧
 Za L ⟨a,0,none⟩ (vI wI 4) fun M=>
 Za M ⟨a,1,none⟩ (vS none 0 0) fun O=>
 Za O ⟨a,2,none⟩ (vI vU w) fun P=>
 Za P ⟨a,3,none⟩ (vI wI x) fun Q=>
 Za Q ⟨a,4,none⟩ (vI wI 32) fun R=>
 FnW wP Zev ⟨[(vP (some ⟨e,0,none⟩)),(Value.string (ByteArray.mk #[108,101]))]⟩ R fun a6 g=>
 ∃y,a6=vB y∧
 IfB y
 (FnW wP Zcw ⟨[(vP (some ⟨e,0,none⟩)),(vI wI 2)]⟩ g fun a7 S=>
 ∃z,a7=vI wI z∧
 Za S ⟨a,4,none⟩ (vI wI z) fun T=>
 Zyi b a T f)
 (Zyi b a g f))
theorem Zcip (d:Nat) {a:Heap} {c:Value->Heap->Prop} (f:Zbrs d a fun g e=>∀b,Shut a e b->c g b):FnW wP Zbas ⟨[(vP (some ⟨d,0,none⟩))]⟩ a c:=Zk Tryz.func189 ⟨[],[],[],[]⟩ (by kernel_rfl) (by kernel_rfl) f
end Go.Proofs.YtlkdgfolbllngaaGreatDoor
end
section
set_option maxRecDepth 100000
namespace Go.Proofs.YtlkdgfolbllngaaGreatDoor
open Go.Sh
open Value renaming int -> vI, slice -> vS, pointer -> vP, bool -> vB, tuple -> vT, agg -> vA, func -> vF
open IntKind renaming wrap -> vW, i64 -> wI, u32 -> vU
open Go.Proofs.Tryz renaming prog -> wP
def Zbex (f g:Nat) (c:Int) (d:(Int×Unit)->Heap->Prop) (e:Bool) (a:Heap) (b:Value->Heap->Prop):Prop:=
 IfB e
 (b (vB false) a)
 (d ((vW wI (c+1)),()) a)
def Zbpy (f z:Nat) (J:(Int×Unit)->Heap->Prop) (d:Int) (a:Heap) (A:(Int×Unit)->Heap->Prop) (e:Value->Heap->Prop):Prop:=
 ∃H y I,a.cell ⟨f,6,none⟩=some (vS H y I)∧
 IfB (decide (d<(y:Int)))
 (∃g h B,a.cell ⟨f,6,none⟩=some (vS g h B)∧
 NilP g fun D=>
 InB d h fun C=>
 elemAt D C 7 fun b=>
 ∃i,a.cell b=some (Value.string i)∧∃j,a.cell ⟨b.block,b.off+1,none⟩=some (vI vU j)∧∃k,a.cell ⟨b.block,b.off+2,none⟩=some (vI vU k)∧∃l,a.cell ⟨b.block,b.off+3,none⟩=some (vB l)∧∃m,a.cell ⟨b.block,b.off+4,none⟩=some (vI wI m)∧∃n,a.cell ⟨b.block,b.off+5,none⟩=some (Value.string n)∧∃o,a.cell ⟨b.block,b.off+6,none⟩=some (Value.string o)∧∃p q E,a.cell ⟨z,6,none⟩=some (vS p q E)∧
 NilP p fun G=>
 InB d q fun F=>
 elemAt G F 7 fun c=>
 ∃r,a.cell c=some (Value.string r)∧∃s,a.cell ⟨c.block,c.off+1,none⟩=some (vI vU s)∧∃t,a.cell ⟨c.block,c.off+2,none⟩=some (vI vU t)∧∃u,a.cell ⟨c.block,c.off+3,none⟩=some (vB u)∧∃v,a.cell ⟨c.block,c.off+4,none⟩=some (vI wI v)∧∃w,a.cell ⟨c.block,c.off+5,none⟩=some (Value.string w)∧∃x,a.cell ⟨c.block,c.off+6,none⟩=some (Value.string x)∧Program.eqGuardType wP (Program.depth wP) Zt=false∧
 IfB (!((i==r)&&((j==s)&&((k==t)&&((l==u)&&((m==v)&&((n==w)&&((o==x)&&true))))))))
 (e (vB false) a)
 (A ((vW wI (d+1)),()) a))
 (e (vB true) a)
def Zbpx (c d:Nat) (b:Int) (a:Heap) (f:(Int×Unit)->Heap->Prop) (e:Value->Heap->Prop):Prop:=
 ∃E g F,a.cell ⟨c,5,none⟩=some (vS E g F)∧
 IfB (decide (b<(g:Int)))
 (∃h i G,a.cell ⟨c,5,none⟩=some (vS h i G)∧
 NilP h fun J=>
 InB b i fun H=>
 elemAt J H 2 fun I=>
 ∃j,a.cell I=some (Value.string j)∧
 ∃k l K,a.cell ⟨d,5,none⟩=some (vS k l K)∧
 NilP k fun N=>
 InB b l fun L=>
 elemAt N L 2 fun M=>
 ∃m,a.cell M=some (Value.string m)∧
 IfB (!(j.toList==m.toList))
 (Zbex c d b f true a e)
 (∃n o O,a.cell ⟨c,5,none⟩=some (vS n o O)∧
 NilP n fun Q=>
 InB b o fun P=>
 elemAt Q P 2 fun p=>
 ∃q s r,a.cell ⟨p.block,p.off+1,none⟩=some (vS q s r)∧
 ∃t u R,a.cell ⟨d,5,none⟩=some (vS t u R)∧
 NilP t fun T=>
 InB b u fun S=>
 elemAt T S 2 fun v=>
 ∃w y x,a.cell ⟨v.block,v.off+1,none⟩=some (vS w y x)∧
 FnW wP Zml ⟨[(vS q s r),(vS w y x)]⟩ a fun U B=>
 ∃z,U=vB z∧
 Zbex c d b f (!z) B e))
 (Zbl (Int×Unit) (0,()) a fun D A C=>∀V:Env,Zbpy c d f D.1 A C e)
def Zjz (d e:Nat) (h:Bool) (a:Heap) (b:Value->Heap->Prop):Prop:=
 IfB h
 (b (vB false) a)
 (Zbl (Int×Unit) (0,()) a fun g c f=>∀i:Env,Zbpx d e g.1 c f b)
def Zbpz (u v w x y:Int) (z:Option Addr) (B A:Nat) (C:Option Addr) (E D:Nat) (F G H I J:Int) (K:Option Addr) (M L:Nat) (N:Option Addr) (P O:Nat) (s:Heap) (d:Value->Heap->Prop):Prop:=
 NewW s (Obj.cells ⟨[(vI vU u),(vI vU v),(vI wI w),(vI wI x),(vI wI y),(vS z B A),(vS C E D)]⟩ Zz) fun b t=>
 NewW t (Obj.cells ⟨[(vI vU F),(vI vU G),(vI wI H),(vI wI I),(vI wI J),(vS K M L),(vS N P O)]⟩ Zz) fun c a=>
 ∃r,a.cell ⟨b,0,none⟩=some (vI vU r)∧
 ∃e,a.cell ⟨c,0,none⟩=some (vI vU e)∧
 IfB (r !=e)
 (Zjz b c true a d)
 (∃f,a.cell ⟨b,1,none⟩=some (vI vU f)∧
 ∃g,a.cell ⟨c,1,none⟩=some (vI vU g)∧
 IfB (f !=g)
 (Zjz b c true a d)
 (∃h,a.cell ⟨b,2,none⟩=some (vI wI h)∧
 ∃i,a.cell ⟨c,2,none⟩=some (vI wI i)∧
 IfB (h !=i)
 (Zjz b c true a d)
 (∃j,a.cell ⟨b,3,none⟩=some (vI wI j)∧
 ∃k,a.cell ⟨c,3,none⟩=some (vI wI k)∧
 IfB (j !=k)
 (Zjz b c true a d)
 (∃l,a.cell ⟨b,4,none⟩=some (vI wI l)∧
 ∃m,a.cell ⟨c,4,none⟩=some (vI wI m)∧
 IfB (l !=m)
 (Zjz b c true a d)
 (∃Q n R,a.cell ⟨b,5,none⟩=some (vS Q n R)∧
 ∃S o T,a.cell ⟨c,5,none⟩=some (vS S o T)∧
 IfB (((n:Int):Int) !=(o:Int))
 (Zjz b c true a d)
 (∃U p V,a.cell ⟨b,6,none⟩=some (vS U p V)∧
 ∃W q X,a.cell ⟨c,6,none⟩=some (vS W q X)∧
 Zjz b c (((p:Int):Int) !=(q:Int)) a d))))))
theorem Zcho (d e f g h:Int) (i:Option Addr) (k j:Nat) (l:Option Addr) (n m:Nat) (o p q r s:Int) (t:Option Addr) (v u:Nat) (w:Option Addr) (y x:Nat) {a:Heap} {c:Value->Heap->Prop} (A:Zbpz d e f g h i k j l n m o p q r s t v u w y x a fun B z=>∀b,Shut a z b->c B b):FnW wP Zbam ⟨[(vA ⟨[(vI vU d),(vI vU e),(vI wI f),(vI wI g),(vI wI h),(vS i k j),(vS l n m)]⟩),(vA ⟨[(vI vU o),(vI vU p),(vI wI q),(vI wI r),(vI wI s),(vS t v u),(vS w y x)]⟩)]⟩ a c:=Zk Tryz.func9 ⟨[],[(4,[5],[.int wI],[2,3]),(9,[6],[.int wI],[2,3])],[],[]⟩ (by kernel_rfl) (by kernel_rfl) A
def Zlr (f:Option Addr) (h g:Nat) (i:Option Addr) (k j:Nat) (c:Int) (d:(Int×Unit)->Heap->Prop) (e:Bool) (a:Heap) (b:Value->Heap->Prop):Prop:=
 IfB e
 (b (vB false) a)
 (d ((vW wI (c+1)),()) a)
def Zbqq (k:Option Addr) (i n:Nat) (l:Option Addr) (m o:Nat) (h:Int) (a:Heap) (p:(Int×Unit)->Heap->Prop) (j:Value->Heap->Prop):Prop:=
 IfB (decide (h<(i:Int)))
 (∃s:List Nat,(∀b∈s,∃f6,a b=some f6)∧
 NilP k fun f8=>
 InB h i fun f7=>
 elemAt f8 f7 10 fun g=>
 ∃u,a.cell g=some (vI wI u)∧∃v,a.cell ⟨g.block,g.off+1,none⟩=some (vI wI v)∧∃w y x,a.cell ⟨g.block,g.off+2,none⟩=some (vS w y x)∧∃z,a.cell ⟨g.block,g.off+3,none⟩=some (vI vU z)∧∃A,a.cell ⟨g.block,g.off+4,none⟩=some (vI wI A)∧∃B,a.cell ⟨g.block,g.off+5,none⟩=some (vI wI B)∧∃C E D,a.cell ⟨g.block,g.off+6,none⟩=some (vS C E D)∧∃F H G,a.cell ⟨g.block,g.off+7,none⟩=some (vS F H G)∧∃I,a.cell ⟨g.block,g.off+8,none⟩=some (vI wI I)∧∃J,a.cell ⟨g.block,g.off+9,none⟩=some (vI wI J)∧NilP l fun g0=>
 InB h m fun f9=>
 elemAt g0 f9 10 fun d=>
 d.block∈s∧∃K,a.cell d=some (vI wI K)∧∃L,a.cell ⟨d.block,d.off+1,none⟩=some (vI wI L)∧∃M O N,a.cell ⟨d.block,d.off+2,none⟩=some (vS M O N)∧∃P,a.cell ⟨d.block,d.off+3,none⟩=some (vI vU P)∧∃Q,a.cell ⟨d.block,d.off+4,none⟩=some (vI wI Q)∧∃R,a.cell ⟨d.block,d.off+5,none⟩=some (vI wI R)∧∃S U T,a.cell ⟨d.block,d.off+6,none⟩=some (vS S U T)∧∃V X W,a.cell ⟨d.block,d.off+7,none⟩=some (vS V X W)∧∃Y,a.cell ⟨d.block,d.off+8,none⟩=some (vI wI Y)∧∃Z,a.cell ⟨d.block,d.off+9,none⟩=some (vI wI Z)∧NewW a (Obj.cells ⟨[(vI wI 0),(vI wI 0),(vS none 0 0),(vI vU 0),(vI wI 0),(vI wI 0),(vS none 0 0),(vS none 0 0),(vI wI 0),(vI wI 0)]⟩ Zq) fun e e4=>
 NewW e4 (Obj.cells ⟨[(vI wI 0),(vI wI 0),(vS none 0 0),(vI vU 0),(vI wI 0),(vI wI 0),(vS none 0 0),(vS none 0 0),(vI wI 0),(vI wI 0)]⟩ Zq) fun f e9=>
 Za e9 ⟨e,0,none⟩ (vI wI u) fun f0=>
 Za f0 ⟨e,1,none⟩ (vI wI v) fun f1=>
 Za f1 ⟨e,2,none⟩ (vS w y x) fun f2=>
 Za f2 ⟨e,3,none⟩ (vI vU z) fun f3=>
 Za f3 ⟨e,4,none⟩ (vI wI A) fun f4=>
 Za f4 ⟨e,5,none⟩ (vI wI B) fun f5=>
 Za f5 ⟨e,6,none⟩ (vS C E D) fun d5=>
 Za d5 ⟨e,7,none⟩ (vS F H G) fun d6=>
 Za d6 ⟨e,8,none⟩ (vI wI I) fun d7=>
 Za d7 ⟨e,9,none⟩ (vI wI J) fun t=>
 Zch s a t∧Za t ⟨f,0,none⟩ (vI wI K) fun d8=>
 Za d8 ⟨f,1,none⟩ (vI wI L) fun d9=>
 Za d9 ⟨f,2,none⟩ (vS M O N) fun e0=>
 Za e0 ⟨f,3,none⟩ (vI vU P) fun e1=>
 Za e1 ⟨f,4,none⟩ (vI wI Q) fun e2=>
 Za e2 ⟨f,5,none⟩ (vI wI R) fun e3=>
 Za e3 ⟨f,6,none⟩ (vS S U T) fun e5=>
 Za e5 ⟨f,7,none⟩ (vS V X W) fun e6=>
 Za e6 ⟨f,8,none⟩ (vI wI Y) fun e7=>
 Za e7 ⟨f,9,none⟩ (vI wI Z) fun c=>
 ∃a0,c.cell ⟨e,0,none⟩=some (vI wI a0)∧
 ∃a1,c.cell ⟨f,0,none⟩=some (vI wI a1)∧
 IfB (a0 !=a1)
 (Zlr k i n l m o h p true c j)
 (∃a2,c.cell ⟨e,8,none⟩=some (vI wI a2)∧
 ∃a3,c.cell ⟨f,8,none⟩=some (vI wI a3)∧
 IfB (a2 !=a3)
 (Zlr k i n l m o h p true c j)
 (∃a4,c.cell ⟨e,9,none⟩=some (vI wI a4)∧
 ∃a5,c.cell ⟨f,9,none⟩=some (vI wI a5)∧
 IfB (a4 !=a5)
 (Zlr k i n l m o h p true c j)
 (∃a6,c.cell ⟨e,1,none⟩=some (vI wI a6)∧∃a7 a9 a8,c.cell ⟨e,2,none⟩=some (vS a7 a9 a8)∧∃b0,c.cell ⟨e,3,none⟩=some (vI vU b0)∧∃b1,c.cell ⟨e,4,none⟩=some (vI wI b1)∧∃b2,c.cell ⟨e,5,none⟩=some (vI wI b2)∧∃b3,c.cell ⟨f,1,none⟩=some (vI wI b3)∧∃b4 b6 b5,c.cell ⟨f,2,none⟩=some (vS b4 b6 b5)∧∃b7,c.cell ⟨f,3,none⟩=some (vI vU b7)∧∃b8,c.cell ⟨f,4,none⟩=some (vI wI b8)∧∃b9,c.cell ⟨f,5,none⟩=some (vI wI b9)∧FnW wP Zpq ⟨[(vA ⟨[(vI wI a6),(vS a7 a9 a8),(vI vU b0),(vI wI b1),(vI wI b2)]⟩),(vA ⟨[(vI wI b3),(vS b4 b6 b5),(vI vU b7),(vI wI b8),(vI wI b9)]⟩)]⟩ c fun g1 q=>
 ∃c0,g1=vB c0∧
 IfB (!c0)
 (Zlr k i n l m o h p true q j)
 (∃c1 c3 c2,q.cell ⟨e,6,none⟩=some (vS c1 c3 c2)∧
 ∃c4 c6 c5,q.cell ⟨f,6,none⟩=some (vS c4 c6 c5)∧
 FnW wP Zml ⟨[(vS c1 c3 c2),(vS c4 c6 c5)]⟩ q fun g2 r=>
 ∃c7,g2=vB c7∧
 IfB (!c7)
 (Zlr k i n l m o h p true r j)
 (∃c8 d0 c9,r.cell ⟨e,7,none⟩=some (vS c8 d0 c9)∧
 ∃d1 d3 d2,r.cell ⟨f,7,none⟩=some (vS d1 d3 d2)∧
 FnW wP Zml ⟨[(vS c8 d0 c9),(vS d1 d3 d2)]⟩ r fun g3 e8=>
 ∃d4,g3=vB d4∧
 Zlr k i n l m o h p (!d4) e8 j))))))
 (j (vB true) a)
def Zbqr (e:Option Addr) (c f:Nat) (g:Option Addr) (d h:Nat) (a:Heap) (b:Value->Heap->Prop):Prop:=
 IfB (((c:Int):Int) !=(d:Int))
 (b (vB false) a)
 (Zbl (Int×Unit) (0,()) a fun j a i=>∀k:Env,Zbqq e c f g d h j.1 a i b)
theorem Zchy (d:Option Addr) (f e:Nat) (g:Option Addr) (i h:Nat) {a:Heap} {c:Value->Heap->Prop} (k:Zbqr d f e g i h a fun l j=>∀b,Shut a j b->c l b):FnW wP Zml ⟨[(vS d f e),(vS g i h)]⟩ a c:=Zk Tryz.func19 ⟨[(6,[0,1,2,3,4,5,6,7,8,9,10,11],[26])],[(4,[5],[.int wI],[0,1])],[],[]⟩ (by kernel_rfl) (by kernel_rfl) k
def Zbqx (g B:Nat) (d:Int) (a:Heap) (C:(Int×Unit)->Heap->Prop) (f:Value->Heap->Prop):Prop:=
 ∃D h E,a.cell ⟨g,1,none⟩=some (vS D h E)∧
 IfB (decide (d<(h:Int)))
 (∃i j F,a.cell ⟨g,1,none⟩=some (vS i j F)∧
 NilP i fun H=>
 InB d j fun G=>
 elemAt H G 5 fun b=>
 ∃k,a.cell b=some (vI wI k)∧∃l n m,a.cell ⟨b.block,b.off+1,none⟩=some (vS l n m)∧∃o,a.cell ⟨b.block,b.off+2,none⟩=some (vI vU o)∧∃p,a.cell ⟨b.block,b.off+3,none⟩=some (vI wI p)∧∃q,a.cell ⟨b.block,b.off+4,none⟩=some (vI wI q)∧∃r s I,a.cell ⟨B,1,none⟩=some (vS r s I)∧
 NilP r fun K=>
 InB d s fun J=>
 elemAt K J 5 fun c=>
 ∃t,a.cell c=some (vI wI t)∧∃u w v,a.cell ⟨c.block,c.off+1,none⟩=some (vS u w v)∧∃x,a.cell ⟨c.block,c.off+2,none⟩=some (vI vU x)∧∃y,a.cell ⟨c.block,c.off+3,none⟩=some (vI wI y)∧∃z,a.cell ⟨c.block,c.off+4,none⟩=some (vI wI z)∧FnW wP Zpq ⟨[(vA ⟨[(vI wI k),(vS l n m),(vI vU o),(vI wI p),(vI wI q)]⟩),(vA ⟨[(vI wI t),(vS u w v),(vI vU x),(vI wI y),(vI wI z)]⟩)]⟩ a fun L e=>
 ∃A,L=vB A∧
 IfB (!A)
 (f (vB false) e)
 (C ((vW wI (d+1)),()) e))
 (f (vB true) a)
def Zsh (d e:Nat) (h:Bool) (a:Heap) (b:Value->Heap->Prop):Prop:=
 IfB h
 (b (vB false) a)
 (Zbl (Int×Unit) (0,()) a fun g c f=>∀i:Env,Zbqx d e g.1 c f b)
def Zbqy (q:Int) (r:Option Addr) (t s:Nat) (u v w x:Int) (y:Option Addr) (A z:Nat) (B C D:Int) (o:Heap) (d:Value->Heap->Prop):Prop:=
 NewW o (Obj.cells ⟨[(vI wI q),(vS r t s),(vI vU u),(vI wI v),(vI wI w)]⟩ Zl) fun b p=>
 NewW p (Obj.cells ⟨[(vI wI x),(vS y A z),(vI vU B),(vI wI C),(vI wI D)]⟩ Zl) fun c a=>
 ∃m,a.cell ⟨b,0,none⟩=some (vI wI m)∧
 ∃n,a.cell ⟨c,0,none⟩=some (vI wI n)∧
 IfB (m !=n)
 (Zsh b c true a d)
 (∃e,a.cell ⟨b,2,none⟩=some (vI vU e)∧∃f,a.cell ⟨b,3,none⟩=some (vI wI f)∧∃g,a.cell ⟨c,2,none⟩=some (vI vU g)∧∃h,a.cell ⟨c,3,none⟩=some (vI wI h)∧Program.eqGuardType wP (Program.depth wP) Zkg=false∧
 IfB (!((e==g)&&((f==h)&&true)))
 (Zsh b c true a d)
 (∃i,a.cell ⟨b,4,none⟩=some (vI wI i)∧
 ∃j,a.cell ⟨c,4,none⟩=some (vI wI j)∧
 IfB (i !=j)
 (Zsh b c true a d)
 (∃E k F,a.cell ⟨b,1,none⟩=some (vS E k F)∧
 ∃G l H,a.cell ⟨c,1,none⟩=some (vS G l H)∧
 Zsh b c (((k:Int):Int) !=(l:Int)) a d)))
theorem Zcic (d:Int) (e:Option Addr) (g f:Nat) (h i j k:Int) (l:Option Addr) (n m:Nat) (o p q:Int) {a:Heap} {c:Value->Heap->Prop} (s:Zbqy d e g f h i j k l n m o p q a fun t r=>∀b,Shut a r b->c t b):FnW wP Zpq ⟨[(vA ⟨[(vI wI d),(vS e g f),(vI vU h),(vI wI i),(vI wI j)]⟩),(vA ⟨[(vI wI k),(vS l n m),(vI vU o),(vI wI p),(vI wI q)]⟩)]⟩ a c:=Zk Tryz.func58 ⟨[],[(4,[5],[.int wI],[2,3])],[],[]⟩ (by kernel_rfl) (by kernel_rfl) s
def Zbsu (j:Option Addr) (e p:Nat) (h:FuncId) (k:Value) (a:Int) (b:Heap) (i:(Int×Unit)->Heap->Prop) (d:Value->Heap->Prop):Prop:=
 IfB (decide (a<(e:Int)))
 (NilP j fun n=>
 InB a e fun l=>
 elemAt n l 1 fun m=>
 ∃f,b.cell m=some (Value.string f)∧
 FnW wP h ⟨[k,(Value.string f)]⟩ b fun o c=>
 ∃g,o=vB g∧
 IfB g
 (d (vI wI a) c)
 (i ((vW wI (a+1)),()) c))
 (d (vI wI (-1)) b)
def Zbsv (e:Option Addr) (g f:Nat) (c:FuncId) (h:Value) (a:Heap) (b:Value->Heap->Prop):Prop:=
 Zbl (Int×Unit) (0,()) a fun i a d=>∀j:Env,Zbsu e g f c h i.1 a d b
theorem Zcjj (e:Option Addr) (g f:Nat) (d:FuncId) (h:Value) {a:Heap} {c:Value->Heap->Prop} (j:Zbsv e g f d h a fun k i=>∀b,Shut a i b->c k b):FnW wP Zbid ⟨[(vS e g f),(vF (.func d) #[h] #[])]⟩ a c:=Zk Tryz.func84 ⟨[],[(2,[8],[.int wI],[0,1,7])],[],[]⟩ (by kernel_rfl) (by kernel_rfl) j
end Go.Proofs.YtlkdgfolbllngaaGreatDoor
end
section
set_option maxRecDepth 100000
namespace Go.Proofs.YtlkdgfolbllngaaGreatDoor
open Go.Sh
open Value renaming int -> vI, slice -> vS, pointer -> vP, bool -> vB, tuple -> vT, agg -> vA, func -> vF
open IntKind renaming wrap -> vW, i64 -> wI, u32 -> vU
open Go.Proofs.Tryz renaming prog -> wP
def Zbte (P:Heap) (d:Value->Heap->Prop):Prop:=
 FnW wP Zmk ⟨[(Value.string (ByteArray.mk #[115,121,115,116,101,109,32,54,53,48,48,48,59,32,114,111,117,116,101,114,32,49,48,46,48,46,48,46,49,59,32,112,101,101,114,32,97,32,49,48,46,48,46,48,46,50,32,97,115,32,54,53,48,48,49,32,119,97,105,116,115,59]))]⟩ P fun a6 Q=>
 ∃D,∃E:Int,∃F:Int,∃G:Int,∃H:Int,∃(I:Option Addr) (K J:Nat),∃(L:Option Addr) (N M:Nat),∃a5:Int,∃O:Int,a6=(vT ⟨[(vA ⟨[(vI vU D),(vI vU E),(vI wI F),(vI wI G),(vI wI H),(vS I K J),(vS L N M)]⟩),(vI wI a5),(vI wI O)]⟩)∧
 NewW Q (Obj.cells ⟨[(vI vU 0),(vI vU 0),(vI wI 0),(vI wI 0),(vI wI 0),(vS none 0 0),(vS none 0 0)]⟩ Zz) fun b S=>
 Za S ⟨b,0,none⟩ (vI vU D) fun T=>
 Za T ⟨b,1,none⟩ (vI vU E) fun U=>
 Za U ⟨b,2,none⟩ (vI wI F) fun V=>
 Za V ⟨b,3,none⟩ (vI wI G) fun W=>
 Za W ⟨b,4,none⟩ (vI wI H) fun X=>
 Za X ⟨b,5,none⟩ (vS I K J) fun Y=>
 Za Y ⟨b,6,none⟩ (vS L N M) fun a=>
 IfB (O==0)
 (∃e,a.cell ⟨b,0,none⟩=some (vI vU e)∧
 IfB (e==65000)
 (∃f,a.cell ⟨b,1,none⟩=some (vI vU f)∧
 IfB (f==167772161)
 (∃g,a.cell ⟨b,2,none⟩=some (vI wI g)∧
 IfB (g==90)
 (∃Z h a0,a.cell ⟨b,6,none⟩=some (vS Z h a0)∧
 IfB (((h:Int):Int)==1)
 (∃i j a1,a.cell ⟨b,6,none⟩=some (vS i j a1)∧
 NilP i fun a3=>
 InB 0 j fun a2=>
 elemAt a3 a2 7 fun c=>
 ∃k,a.cell c=some (Value.string k)∧∃l,a.cell ⟨c.block,c.off+1,none⟩=some (vI vU l)∧∃m,a.cell ⟨c.block,c.off+2,none⟩=some (vI vU m)∧∃n,a.cell ⟨c.block,c.off+3,none⟩=some (vB n)∧∃o,a.cell ⟨c.block,c.off+4,none⟩=some (vI wI o)∧∃p,a.cell ⟨c.block,c.off+5,none⟩=some (Value.string p)∧∃q,a.cell ⟨c.block,c.off+6,none⟩=some (Value.string q)∧Program.eqGuardType wP (Program.depth wP) Zt=false∧
 IfB ((k==(ByteArray.mk #[97]))&&((l==167772162)&&((m==65001)&&((n==true)&&((o==0)&&((p==(ByteArray.mk #[]))&&((q==(ByteArray.mk #[]))&&true)))))))
 (∃r,a.cell ⟨b,0,none⟩=some (vI vU r)∧∃s,a.cell ⟨b,1,none⟩=some (vI vU s)∧∃t,a.cell ⟨b,2,none⟩=some (vI wI t)∧∃u,a.cell ⟨b,3,none⟩=some (vI wI u)∧∃v,a.cell ⟨b,4,none⟩=some (vI wI v)∧∃w y x,a.cell ⟨b,5,none⟩=some (vS w y x)∧∃z B A,a.cell ⟨b,6,none⟩=some (vS z B A)∧FnW wP Zmq ⟨[(vA ⟨[(vI vU r),(vI vU s),(vI wI t),(vI wI u),(vI wI v),(vS w y x),(vS z B A)]⟩)]⟩ a fun a4 R=>
 ∃C,a4=vI wI C∧
 d (vB (C==0)) R)
 (d (vB false) a))
 (d (vB false) a))
 (d (vB false) a))
 (d (vB false) a))
 (d (vB false) a))
 (d (vB false) a)
theorem Zcjs {a:Heap} {c:Value->Heap->Prop} (e:Zbte a fun f d=>∀b,Shut a d b->c f b):FnW wP Zbaz ⟨[]⟩ a c:=Zk Tryz.func10 ⟨[],[],[],[]⟩ (by kernel_rfl) (by kernel_rfl) e
def Zoo (d:Nat) (n:Bool) (b:Heap) (a:Value->Heap->Prop):Prop:=
 IfB n
 (a (vI wI 2) b)
 (∃f h g,b.cell ⟨d,5,none⟩=some (vS f h g)∧
 FnW wP Zmn ⟨[(vS f h g),(vF (.func 35) #[] #[])]⟩ b fun o c=>
 ∃i,o=vB i∧
 IfB i
 (a (vI wI 2) c)
 (∃j l k,c.cell ⟨d,6,none⟩=some (vS j l k)∧
 FnW wP Zbax ⟨[(vS j l k),(vF (.func Zmr) #[] #[(vP (some ⟨d,0,none⟩))])]⟩ c fun p e=>
 ∃m,p=vB m∧
 IfB m
 (a (vI wI 2) e)
 (a (vI wI 0) e)))
def Zsl (a:Nat) (s:Bool) (c:Heap) (b:Value->Heap->Prop):Prop:=
 IfB s
 (b (vI wI 2) c)
 (∃f h g,c.cell ⟨a,5,none⟩=some (vS f h g)∧
 FnW wP Ztz ⟨[(vS f h g),(vF (.func 29) #[] #[])]⟩ c fun t d=>
 ∃i,t=vB i∧
 IfB i
 (Zoo a true d b)
 (∃j l k,d.cell ⟨a,6,none⟩=some (vS j l k)∧
 FnW wP Ztx ⟨[(vS j l k),(vF (.func 31) #[] #[])]⟩ d fun u e=>
 ∃m,u=vB m∧
 IfB m
 (Zoo a true e b)
 (∃n p o,e.cell ⟨a,6,none⟩=some (vS n p o)∧
 FnW wP Zty ⟨[(vS n p o),(vF (.func 33) #[] #[])]⟩ e fun v r=>
 ∃q,v=vB q∧
 Zoo a q r b)))
def Zls (b:Nat) (f:Bool) (a:Heap) (c:Value->Heap->Prop):Prop:=
 IfB f
 (c (vI wI 2) a)
 (∃g d h,a.cell ⟨b,5,none⟩=some (vS g d h)∧
 IfB (decide (((d:Int):Int)>32))
 (Zsl b true a c)
 (∃i e j,a.cell ⟨b,6,none⟩=some (vS i e j)∧
 Zsl b (decide (((e:Int):Int)>16)) a c))
def Zim (b:Nat) (h:Bool) (a:Heap) (c:Value->Heap->Prop):Prop:=
 IfB h
 (c (vI wI 2) a)
 (∃d,a.cell ⟨b,3,none⟩=some (vI wI d)∧
 IfB (decide (d<1))
 (Zls b true a c)
 (∃e,a.cell ⟨b,3,none⟩=some (vI wI e)∧
 IfB (decide (e>100000))
 (Zls b true a c)
 (∃f,a.cell ⟨b,4,none⟩=some (vI wI f)∧
 IfB (decide (f<0))
 (Zls b true a c)
 (∃g,a.cell ⟨b,4,none⟩=some (vI wI g)∧
 Zls b (decide (g>4095)) a c))))
def Zbfp (k l m n o:Int) (p:Option Addr) (r q:Nat) (s:Option Addr) (u t:Nat) (j:Heap) (c:Value->Heap->Prop):Prop:=
 NewW j (Obj.cells ⟨[(vI vU k),(vI vU l),(vI wI m),(vI wI n),(vI wI o),(vS p r q),(vS s u t)]⟩ Zz) fun b a=>
 ∃h,a.cell ⟨b,0,none⟩=some (vI vU h)∧
 IfB (h==0)
 (Zim b true a c)
 (∃i,a.cell ⟨b,1,none⟩=some (vI vU i)∧
 IfB (i==0)
 (Zim b true a c)
 (∃d,a.cell ⟨b,2,none⟩=some (vI wI d)∧
 IfB (decide (d<0))
 (Zim b true a c)
 (∃e,a.cell ⟨b,2,none⟩=some (vI wI e)∧
 IfB (e==1)
 (Zim b true a c)
 (∃f,a.cell ⟨b,2,none⟩=some (vI wI f)∧
 IfB (f==2)
 (Zim b true a c)
 (∃g,a.cell ⟨b,2,none⟩=some (vI wI g)∧
 Zim b (decide (g>65535)) a c)))))
theorem Zbsh (d e f g h:Int) (i:Option Addr) (k j:Nat) (l:Option Addr) (n m:Nat) {a:Heap} {c:Value->Heap->Prop} (p:Zbfp d e f g h i k j l n m a fun q o=>∀b,Shut a o b->c q b):FnW wP Zmq ⟨[(vA ⟨[(vI vU d),(vI vU e),(vI wI f),(vI wI g),(vI wI h),(vS i k j),(vS l n m)]⟩)]⟩ a c:=Zk Tryz.func13 ⟨[],[],[],[]⟩ (by kernel_rfl) (by kernel_rfl) p
def Zbfj (k:FuncId) (h:Value) (G:Option Addr) (l O:Nat) (e:Int) (b:Heap) (H:(Int×Unit)->Heap->Prop) (j:Value->Heap->Prop):Prop:=
 IfB (decide (e<(l:Int)))
 (NilP G fun J=>
 InB e l fun I=>
 elemAt J I 2 fun f=>
 ∃m,b.cell f=some (Value.string m)∧∃n p o,b.cell ⟨f.block,f.off+1,none⟩=some (vS n p o)∧NewW b (Obj.cells ⟨[(Value.string (ByteArray.mk #[])),(vS none 0 0)]⟩ Zbu) fun a B=>
 Za B ⟨a,0,none⟩ (Value.string m) fun C=>
 Za C ⟨a,1,none⟩ (vS n p o) fun c=>
 ∃q,c.cell ⟨a,0,none⟩=some (Value.string q)∧∃r t s,c.cell ⟨a,1,none⟩=some (vS r t s)∧FnW wP k ⟨[(vA ⟨[(Value.string q),(vS r t s)]⟩)]⟩ c fun K D=>
 ∃g,K=Value.string g∧
 SemW wP (Instr.lookup Zhx h (Value.string g) false) D fun L E=>
 ∃u,L=vI wI u∧
 MuW wP Zhx h (Value.string g) (vI wI (vW wI (u+1))) E fun P d=>
 ∃v,d.cell ⟨a,0,none⟩=some (Value.string v)∧∃w y x,d.cell ⟨a,1,none⟩=some (vS w y x)∧FnW wP k ⟨[(vA ⟨[(Value.string v),(vS w y x)]⟩)]⟩ d fun M F=>
 ∃z,M=Value.string z∧
 SemW wP (Instr.lookup Zhx h (Value.string z) false) F fun N i=>
 ∃A,N=vI wI A∧
 IfB (decide (A>1))
 (j (vB true) i)
 (H ((vW wI (e+1)),()) i))
 (j (vB false) b)
def Zbfk (e:Option Addr) (g f:Nat) (d:FuncId) (a:Heap) (c:Value->Heap->Prop):Prop:=
 MkW wP Zhx a fun j b=>
 Zbl (Int×Unit) (0,()) b fun i a h=>∀k:Env,Zbfj d j e g f i.1 a h c
theorem Zbrn (e:Option Addr) (g f:Nat) (d:FuncId) {a:Heap} {c:Value->Heap->Prop} (i:Zbfk e g f d a fun j h=>∀b,Shut a h b->c j b):FnW wP Ztz ⟨[(vS e g f),(vF (.func d) #[] #[])]⟩ a c:=Zk Tryz.func28 ⟨[],[(3,[11],[.int wI],[1,5,9,10])],[],[]⟩ (by kernel_rfl) (by kernel_rfl) i
def Zbss (e:ByteArray) (f:Option Addr) (h g:Nat) (c:Heap) (d:Value->Heap->Prop):Prop:=
 NewW c (Obj.cells ⟨[(Value.string e),(vS f h g)]⟩ Zbu) fun i a=>
 ∃b,a.cell ⟨i,0,none⟩=some (Value.string b)∧
 d (Value.string b) a
theorem Zcji (d:ByteArray) (e:Option Addr) (g f:Nat) {a:Heap} {c:Value->Heap->Prop} (i:Zbss d e g f a fun j h=>∀b,Shut a h b->c j b):FnW wP Zpy ⟨[(vA ⟨[(Value.string d),(vS e g f)]⟩)]⟩ a c:=Zk Tryz.func29 ⟨[],[],[],[]⟩ (by kernel_rfl) (by kernel_rfl) i
def Zyf (k:FuncId) (h:Value) (U:Option Addr) (l a2:Nat) (f:Int) (c:Heap) (V:(Int×Unit)->Heap->Prop) (j:Value->Heap->Prop):Prop:=
 IfB (decide (f<(l:Int)))
 (NilP U fun X=>
 InB f l fun W=>
 elemAt X W 7 fun b=>
 ∃m,c.cell b=some (Value.string m)∧∃n,c.cell ⟨b.block,b.off+1,none⟩=some (vI vU n)∧∃o,c.cell ⟨b.block,b.off+2,none⟩=some (vI vU o)∧∃p,c.cell ⟨b.block,b.off+3,none⟩=some (vB p)∧∃q,c.cell ⟨b.block,b.off+4,none⟩=some (vI wI q)∧∃r,c.cell ⟨b.block,b.off+5,none⟩=some (Value.string r)∧∃s,c.cell ⟨b.block,b.off+6,none⟩=some (Value.string s)∧NewW c (Obj.cells ⟨[(Value.string (ByteArray.mk #[])),(vI vU 0),(vI vU 0),(vB false),(vI wI 0),(Value.string (ByteArray.mk #[])),(Value.string (ByteArray.mk #[]))]⟩ Zt) fun a N=>
 Za N ⟨a,0,none⟩ (Value.string m) fun O=>
 Za O ⟨a,1,none⟩ (vI vU n) fun P=>
 Za P ⟨a,2,none⟩ (vI vU o) fun Q=>
 Za Q ⟨a,3,none⟩ (vB p) fun R=>
 Za R ⟨a,4,none⟩ (vI wI q) fun S=>
 Za S ⟨a,5,none⟩ (Value.string r) fun T=>
 Za T ⟨a,6,none⟩ (Value.string s) fun d=>
 ∃t,d.cell ⟨a,0,none⟩=some (Value.string t)∧∃u,d.cell ⟨a,1,none⟩=some (vI vU u)∧∃v,d.cell ⟨a,2,none⟩=some (vI vU v)∧∃w,d.cell ⟨a,3,none⟩=some (vB w)∧∃x,d.cell ⟨a,4,none⟩=some (vI wI x)∧∃y,d.cell ⟨a,5,none⟩=some (Value.string y)∧∃z,d.cell ⟨a,6,none⟩=some (Value.string z)∧FnW wP k ⟨[(vA ⟨[(Value.string t),(vI vU u),(vI vU v),(vB w),(vI wI x),(Value.string y),(Value.string z)]⟩)]⟩ d fun Y K=>
 ∃g,Y=Value.string g∧
 SemW wP (Instr.lookup Zhx h (Value.string g) false) K fun Z L=>
 ∃A,Z=vI wI A∧
 MuW wP Zhx h (Value.string g) (vI wI (vW wI (A+1))) L fun a3 e=>
 ∃B,e.cell ⟨a,0,none⟩=some (Value.string B)∧∃C,e.cell ⟨a,1,none⟩=some (vI vU C)∧∃D,e.cell ⟨a,2,none⟩=some (vI vU D)∧∃E,e.cell ⟨a,3,none⟩=some (vB E)∧∃F,e.cell ⟨a,4,none⟩=some (vI wI F)∧∃G,e.cell ⟨a,5,none⟩=some (Value.string G)∧∃H,e.cell ⟨a,6,none⟩=some (Value.string H)∧FnW wP k ⟨[(vA ⟨[(Value.string B),(vI vU C),(vI vU D),(vB E),(vI wI F),(Value.string G),(Value.string H)]⟩)]⟩ e fun a0 M=>
 ∃I,a0=Value.string I∧
 SemW wP (Instr.lookup Zhx h (Value.string I) false) M fun a1 i=>
 ∃J,a1=vI wI J∧
 IfB (decide (J>1))
 (j (vB true) i)
 (V ((vW wI (f+1)),()) i))
 (j (vB false) c)
def Zbfh (e:Option Addr) (g f:Nat) (d:FuncId) (a:Heap) (c:Value->Heap->Prop):Prop:=
 MkW wP Zhx a fun j b=>
 Zbl (Int×Unit) (0,()) b fun i a h=>∀k:Env,Zyf d j e g f i.1 a h c
theorem Zbri (e:Option Addr) (g f:Nat) (d:FuncId) {a:Heap} {c:Value->Heap->Prop} (i:Zbfh e g f d a fun j h=>∀b,Shut a h b->c j b):FnW wP Ztx ⟨[(vS e g f),(vF (.func d) #[] #[])]⟩ a c:=Zk Tryz.func30 ⟨[],[(3,[11],[.int wI],[1,5,9,10])],[],[]⟩ (by kernel_rfl) (by kernel_rfl) i
def Zbsi (e:ByteArray) (f g:Int) (h:Bool) (i:Int) (j k:ByteArray) (c:Heap) (d:Value->Heap->Prop):Prop:=
 NewW c (Obj.cells ⟨[(Value.string e),(vI vU f),(vI vU g),(vB h),(vI wI i),(Value.string j),(Value.string k)]⟩ Zt) fun l a=>
 ∃b,a.cell ⟨l,0,none⟩=some (Value.string b)∧
 d (Value.string b) a
theorem Zcja (d:ByteArray) (e f:Int) (g:Bool) (h:Int) (i j:ByteArray) {a:Heap} {c:Value->Heap->Prop} (l:Zbsi d e f g h i j a fun m k=>∀b,Shut a k b->c m b):FnW wP Zms ⟨[(vA ⟨[(Value.string d),(vI vU e),(vI vU f),(vB g),(vI wI h),(Value.string i),(Value.string j)]⟩)]⟩ a c:=Zk Tryz.func31 ⟨[],[],[],[]⟩ (by kernel_rfl) (by kernel_rfl) l
def Zyg (k:FuncId) (h:Value) (U:Option Addr) (l a2:Nat) (f:Int) (c:Heap) (V:(Int×Unit)->Heap->Prop) (j:Value->Heap->Prop):Prop:=
 IfB (decide (f<(l:Int)))
 (NilP U fun X=>
 InB f l fun W=>
 elemAt X W 7 fun b=>
 ∃m,c.cell b=some (Value.string m)∧∃n,c.cell ⟨b.block,b.off+1,none⟩=some (vI vU n)∧∃o,c.cell ⟨b.block,b.off+2,none⟩=some (vI vU o)∧∃p,c.cell ⟨b.block,b.off+3,none⟩=some (vB p)∧∃q,c.cell ⟨b.block,b.off+4,none⟩=some (vI wI q)∧∃r,c.cell ⟨b.block,b.off+5,none⟩=some (Value.string r)∧∃s,c.cell ⟨b.block,b.off+6,none⟩=some (Value.string s)∧NewW c (Obj.cells ⟨[(Value.string (ByteArray.mk #[])),(vI vU 0),(vI vU 0),(vB false),(vI wI 0),(Value.string (ByteArray.mk #[])),(Value.string (ByteArray.mk #[]))]⟩ Zt) fun a N=>
 Za N ⟨a,0,none⟩ (Value.string m) fun O=>
 Za O ⟨a,1,none⟩ (vI vU n) fun P=>
 Za P ⟨a,2,none⟩ (vI vU o) fun Q=>
 Za Q ⟨a,3,none⟩ (vB p) fun R=>
 Za R ⟨a,4,none⟩ (vI wI q) fun S=>
 Za S ⟨a,5,none⟩ (Value.string r) fun T=>
 Za T ⟨a,6,none⟩ (Value.string s) fun d=>
 ∃t,d.cell ⟨a,0,none⟩=some (Value.string t)∧∃u,d.cell ⟨a,1,none⟩=some (vI vU u)∧∃v,d.cell ⟨a,2,none⟩=some (vI vU v)∧∃w,d.cell ⟨a,3,none⟩=some (vB w)∧∃x,d.cell ⟨a,4,none⟩=some (vI wI x)∧∃y,d.cell ⟨a,5,none⟩=some (Value.string y)∧∃z,d.cell ⟨a,6,none⟩=some (Value.string z)∧FnW wP k ⟨[(vA ⟨[(Value.string t),(vI vU u),(vI vU v),(vB w),(vI wI x),(Value.string y),(Value.string z)]⟩)]⟩ d fun Y K=>
 ∃g,Y=vI vU g∧
 SemW wP (Instr.lookup Zow h (vI vU g) false) K fun Z L=>
 ∃A,Z=vI wI A∧
 MuW wP Zow h (vI vU g) (vI wI (vW wI (A+1))) L fun a3 e=>
 ∃B,e.cell ⟨a,0,none⟩=some (Value.string B)∧∃C,e.cell ⟨a,1,none⟩=some (vI vU C)∧∃D,e.cell ⟨a,2,none⟩=some (vI vU D)∧∃E,e.cell ⟨a,3,none⟩=some (vB E)∧∃F,e.cell ⟨a,4,none⟩=some (vI wI F)∧∃G,e.cell ⟨a,5,none⟩=some (Value.string G)∧∃H,e.cell ⟨a,6,none⟩=some (Value.string H)∧FnW wP k ⟨[(vA ⟨[(Value.string B),(vI vU C),(vI vU D),(vB E),(vI wI F),(Value.string G),(Value.string H)]⟩)]⟩ e fun a0 M=>
 ∃I,a0=vI vU I∧
 SemW wP (Instr.lookup Zow h (vI vU I) false) M fun a1 i=>
 ∃J,a1=vI wI J∧
 IfB (decide (J>1))
 (j (vB true) i)
 (V ((vW wI (f+1)),()) i))
 (j (vB false) c)
def Zbfi (e:Option Addr) (g f:Nat) (d:FuncId) (a:Heap) (c:Value->Heap->Prop):Prop:=
 MkW wP Zow a fun j b=>
 Zbl (Int×Unit) (0,()) b fun i a h=>∀k:Env,Zyg d j e g f i.1 a h c
theorem Zbrj (e:Option Addr) (g f:Nat) (d:FuncId) {a:Heap} {c:Value->Heap->Prop} (i:Zbfi e g f d a fun j h=>∀b,Shut a h b->c j b):FnW wP Zty ⟨[(vS e g f),(vF (.func d) #[] #[])]⟩ a c:=Zk Tryz.func32 ⟨[],[(3,[11],[.int wI],[1,5,9,10])],[],[]⟩ (by kernel_rfl) (by kernel_rfl) i
def Zbsj (e:ByteArray) (f g:Int) (h:Bool) (i:Int) (j k:ByteArray) (c:Heap) (d:Value->Heap->Prop):Prop:=
 NewW c (Obj.cells ⟨[(Value.string e),(vI vU f),(vI vU g),(vB h),(vI wI i),(Value.string j),(Value.string k)]⟩ Zt) fun l a=>
 ∃b,a.cell ⟨l,1,none⟩=some (vI vU b)∧
 d (vI vU b) a
theorem Zcjb (d:ByteArray) (e f:Int) (g:Bool) (h:Int) (i j:ByteArray) {a:Heap} {c:Value->Heap->Prop} (l:Zbsj d e f g h i j a fun m k=>∀b,Shut a k b->c m b):FnW wP Zmt ⟨[(vA ⟨[(Value.string d),(vI vU e),(vI vU f),(vB g),(vI wI h),(Value.string i),(Value.string j)]⟩)]⟩ a c:=Zk Tryz.func33 ⟨[],[],[],[]⟩ (by kernel_rfl) (by kernel_rfl) l
def Zbff (f:Option Addr) (h g:Nat) (e:FuncId) (b:Heap) (d:Value->Heap->Prop):Prop:=
 FnW wP Ztt ⟨[(vS f h g),(vF (.func e) #[] #[])]⟩ b fun i c=>
 ∃a,i=vI wI a∧
 d (vB (decide (a≥0))) c
theorem Zbrc (e:Option Addr) (g f:Nat) (d:FuncId) {a:Heap} {c:Value->Heap->Prop} (i:Zbff e g f d a fun j h=>∀b,Shut a h b->c j b):FnW wP Zmn ⟨[(vS e g f),(vF (.func d) #[] #[])]⟩ a c:=Zk Tryz.func34 ⟨[],[],[],[]⟩ (by kernel_rfl) (by kernel_rfl) i
def Zbtf (i:ByteArray) (j:Option Addr) (l k:Nat) (f:Heap) (h:Value->Heap->Prop):Prop:=
 NewW f (Obj.cells ⟨[(Value.string i),(vS j l k)]⟩ Zbu) fun m a=>
 ∃b d c,a.cell ⟨m,1,none⟩=some (vS b d c)∧
 FnW wP Zmu ⟨[(vS b d c)]⟩ a fun n g=>
 ∃e,n=vB e∧
 h (vB (!e)) g
theorem Zcjt (d:ByteArray) (e:Option Addr) (g f:Nat) {a:Heap} {c:Value->Heap->Prop} (i:Zbtf d e g f a fun j h=>∀b,Shut a h b->c j b):FnW wP Zbba ⟨[(vA ⟨[(Value.string d),(vS e g f)]⟩)]⟩ a c:=Zk Tryz.func35 ⟨[],[],[],[]⟩ (by kernel_rfl) (by kernel_rfl) i
def Zbsk (e:Option Addr) (g f:Nat) (b:Heap) (d:Value->Heap->Prop):Prop:=
 FnW wP Zbbb ⟨[(vS e g f),(vF (.func 71) #[] #[])]⟩ b fun h c=>
 ∃a,h=vB a∧
 d (vB (!a)) c
theorem Zcjc (d:Option Addr) (f e:Nat) {a:Heap} {c:Value->Heap->Prop} (h:Zbsk d f e a fun i g=>∀b,Shut a g b->c i b):FnW wP Zmu ⟨[(vS d f e)]⟩ a c:=Zk Tryz.func36 ⟨[],[],[],[]⟩ (by kernel_rfl) (by kernel_rfl) h
def Zbfq (f:Option Addr) (h g:Nat) (e:FuncId) (i:Value) (b:Heap) (d:Value->Heap->Prop):Prop:=
 FnW wP Zbic ⟨[(vS f h g),(vF (.func e) #[] #[i])]⟩ b fun j c=>
 ∃a,j=vI wI a∧
 d (vB (decide (a≥0))) c
theorem Zbst (e:Option Addr) (g f:Nat) (d:FuncId) (h:Value) {a:Heap} {c:Value->Heap->Prop} (j:Zbfq e g f d h a fun k i=>∀b,Shut a i b->c k b):FnW wP Zbax ⟨[(vS e g f),(vF (.func d) #[] #[h])]⟩ a c:=Zk Tryz.func37 ⟨[],[],[],[]⟩ (by kernel_rfl) (by kernel_rfl) j
def Zbfn (A:ByteArray) (B C:Int) (D:Bool) (E:Int) (F G:ByteArray) (b c:Nat) (x:Heap) (z:Value->Heap->Prop):Prop:=
 NewW x (Obj.cells ⟨[(Value.string A),(vI vU B),(vI vU C),(vB D),(vI wI E),(Value.string F),(Value.string G)]⟩ Zt) fun d a=>
 ∃e,a.cell ⟨b,c,none⟩=some (vI vU e)∧∃f,a.cell ⟨b,c+1,none⟩=some (vI vU f)∧∃g,a.cell ⟨b,c+2,none⟩=some (vI wI g)∧∃h,a.cell ⟨b,c+3,none⟩=some (vI wI h)∧∃i,a.cell ⟨b,c+4,none⟩=some (vI wI i)∧∃j l k,a.cell ⟨b,c+5,none⟩=some (vS j l k)∧∃m o n,a.cell ⟨b,c+6,none⟩=some (vS m o n)∧∃p,a.cell ⟨d,0,none⟩=some (Value.string p)∧∃q,a.cell ⟨d,1,none⟩=some (vI vU q)∧∃r,a.cell ⟨d,2,none⟩=some (vI vU r)∧∃s,a.cell ⟨d,3,none⟩=some (vB s)∧∃t,a.cell ⟨d,4,none⟩=some (vI wI t)∧∃u,a.cell ⟨d,5,none⟩=some (Value.string u)∧∃v,a.cell ⟨d,6,none⟩=some (Value.string v)∧FnW wP Ztu ⟨[(vA ⟨[(vI vU e),(vI vU f),(vI wI g),(vI wI h),(vI wI i),(vS j l k),(vS m o n)]⟩),(vA ⟨[(Value.string p),(vI vU q),(vI vU r),(vB s),(vI wI t),(Value.string u),(Value.string v)]⟩)]⟩ a fun H y=>
 ∃w,H=vB w∧
 z (vB (!w)) y
theorem Zbrz (f:ByteArray) (g h:Int) (i:Bool) (j:Int) (k l:ByteArray) (d e:Nat) {a:Heap} {c:Value->Heap->Prop} (n:Zbfn f g h i j k l d e a fun o m=>∀b,Shut a m b->c o b):FnW wP Zmr ⟨[(vA ⟨[(Value.string f),(vI vU g),(vI vU h),(vB i),(vI wI j),(Value.string k),(Value.string l)]⟩),(vP (some ⟨d,e,none⟩))]⟩ a c:=Zk Tryz.func38 ⟨[],[],[],[]⟩ (by kernel_rfl) (by kernel_rfl) n
def Zkc (d e:Nat) (k:Bool) (a:Heap) (c:Value->Heap->Prop):Prop:=
 IfB k
 (c (vB false) a)
 (∃f,a.cell ⟨d,5,none⟩=some (Value.string f)∧
 FnW wP Zpw ⟨[(Value.string f),(vP (some ⟨e,0,none⟩))]⟩ a fun l b=>
 ∃g,l=vB g∧
 IfB g
 (∃h,b.cell ⟨d,6,none⟩=some (Value.string h)∧
 FnW wP Zpw ⟨[(Value.string h),(vP (some ⟨e,0,none⟩))]⟩ b fun m j=>
 ∃i,m=vB i∧
 c (vB i) j)
 (c (vB false) b))
def Zbfe (t u v w x:Int) (y:Option Addr) (A z:Nat) (B:Option Addr) (D C:Nat) (m:ByteArray) (n o:Int) (p:Bool) (q:Int) (r s:ByteArray) (k:Heap) (d:Value->Heap->Prop):Prop:=
 NewW k (Obj.cells ⟨[(vI vU t),(vI vU u),(vI wI v),(vI wI w),(vI wI x),(vS y A z),(vS B D C)]⟩ Zz) fun c l=>
 NewW l (Obj.cells ⟨[(Value.string m),(vI vU n),(vI vU o),(vB p),(vI wI q),(Value.string r),(Value.string s)]⟩ Zt) fun b a=>
 ∃j,a.cell ⟨b,1,none⟩=some (vI vU j)∧
 IfB (j==0)
 (Zkc b c true a d)
 (∃e,a.cell ⟨b,1,none⟩=some (vI vU e)∧
 ∃f,a.cell ⟨c,1,none⟩=some (vI vU f)∧
 IfB (e==f)
 (Zkc b c true a d)
 (∃g,a.cell ⟨b,2,none⟩=some (vI vU g)∧
 IfB (g==0)
 (Zkc b c true a d)
 (∃h,a.cell ⟨b,4,none⟩=some (vI wI h)∧
 IfB (decide (h<0))
 (Zkc b c true a d)
 (∃i,a.cell ⟨b,4,none⟩=some (vI wI i)∧
 Zkc b c (decide (i>4096)) a d))))
theorem Zbqv (k l m n o:Int) (p:Option Addr) (r q:Nat) (s:Option Addr) (u t:Nat) (d:ByteArray) (e f:Int) (g:Bool) (h:Int) (i j:ByteArray) {a:Heap} {c:Value->Heap->Prop} (w:Zbfe k l m n o p r q s u t d e f g h i j a fun x v=>∀b,Shut a v b->c x b):FnW wP Ztu ⟨[(vA ⟨[(vI vU k),(vI vU l),(vI wI m),(vI wI n),(vI wI o),(vS p r q),(vS s u t)]⟩),(vA ⟨[(Value.string d),(vI vU e),(vI vU f),(vB g),(vI wI h),(Value.string i),(Value.string j)]⟩)]⟩ a c:=Zk Tryz.func39 ⟨[],[],[],[]⟩ (by kernel_rfl) (by kernel_rfl) w
def Zbfc (n:Option Addr) (f r:Nat) (l:FuncId) (b:Int) (a:Heap) (m:(Int×Unit)->Heap->Prop) (e:Value->Heap->Prop):Prop:=
 IfB (decide (b<(f:Int)))
 (NilP n fun p=>
 InB b f fun o=>
 elemAt p o 2 fun c=>
 ∃g,a.cell c=some (Value.string g)∧∃h j i,a.cell ⟨c.block,c.off+1,none⟩=some (vS h j i)∧FnW wP l ⟨[(vA ⟨[(Value.string g),(vS h j i)]⟩)]⟩ a fun q d=>
 ∃k,q=vB k∧
 IfB k
 (e (vI wI b) d)
 (m ((vW wI (b+1)),()) d))
 (e (vI wI (-1)) a)
def Zbfd (e:Option Addr) (g f:Nat) (c:FuncId) (a:Heap) (b:Value->Heap->Prop):Prop:=
 Zbl (Int×Unit) (0,()) a fun h a d=>∀i:Env,Zbfc e g f c h.1 a d b
theorem Zbqp (e:Option Addr) (g f:Nat) (d:FuncId) {a:Heap} {c:Value->Heap->Prop} (i:Zbfd e g f d a fun j h=>∀b,Shut a h b->c j b):FnW wP Ztt ⟨[(vS e g f),(vF (.func d) #[] #[])]⟩ a c:=Zk Tryz.func69 ⟨[],[(2,[8],[.int wI],[0,1,7])],[],[]⟩ (by kernel_rfl) (by kernel_rfl) i
def Zbtg (f:Option Addr) (h g:Nat) (e:FuncId) (b:Heap) (d:Value->Heap->Prop):Prop:=
 FnW wP Zbie ⟨[(vS f h g),(vF (.func e) #[] #[])]⟩ b fun i c=>
 ∃a,i=vI wI a∧
 d (vB (decide (a≥0))) c
theorem Zcju (e:Option Addr) (g f:Nat) (d:FuncId) {a:Heap} {c:Value->Heap->Prop} (i:Zbtg e g f d a fun j h=>∀b,Shut a h b->c j b):FnW wP Zbbb ⟨[(vS e g f),(vF (.func d) #[] #[])]⟩ a c:=Zk Tryz.func70 ⟨[],[],[],[]⟩ (by kernel_rfl) (by kernel_rfl) i
def Zon (b:Nat) (w:Bool) (a:Heap) (c:Value->Heap->Prop):Prop:=
 IfB w
 (c (vB true) a)
 (∃f,a.cell ⟨b,1,none⟩=some (vI wI f)∧∃g i h,a.cell ⟨b,2,none⟩=some (vS g i h)∧∃j,a.cell ⟨b,3,none⟩=some (vI vU j)∧∃k,a.cell ⟨b,4,none⟩=some (vI wI k)∧∃l,a.cell ⟨b,5,none⟩=some (vI wI l)∧FnW wP Zmo ⟨[(vA ⟨[(vI wI f),(vS g i h),(vI vU j),(vI wI k),(vI wI l)]⟩)]⟩ a fun x d=>
 ∃m,x=vB m∧
 IfB (!m)
 (c (vB true) d)
 (∃n p o,d.cell ⟨b,6,none⟩=some (vS n p o)∧
 FnW wP Zmu ⟨[(vS n p o)]⟩ d fun y e=>
 ∃q,y=vB q∧
 IfB (!q)
 (c (vB true) e)
 (∃r t s,e.cell ⟨b,7,none⟩=some (vS r t s)∧
 FnW wP Zmu ⟨[(vS r t s)]⟩ e fun z v=>
 ∃u,z=vB u∧
 c (vB (!u)) v)))
def Zbru (i j:Int) (k:Option Addr) (m l:Nat) (n o p:Int) (q:Option Addr) (s r:Nat) (t:Option Addr) (v u:Nat) (w x:Int) (h:Heap) (c:Value->Heap->Prop):Prop:=
 NewW h (Obj.cells ⟨[(vI wI i),(vI wI j),(vS k m l),(vI vU n),(vI wI o),(vI wI p),(vS q s r),(vS t v u),(vI wI w),(vI wI x)]⟩ Zq) fun b a=>
 ∃f,a.cell ⟨b,0,none⟩=some (vI wI f)∧
 IfB (f==4)
 (∃g,a.cell ⟨b,8,none⟩=some (vI wI g)∧
 IfB (g==0)
 (Zon b true a c)
 (∃d,a.cell ⟨b,9,none⟩=some (vI wI d)∧
 IfB (decide (d<1))
 (Zon b true a c)
 (∃e,a.cell ⟨b,9,none⟩=some (vI wI e)∧
 Zon b (decide (e>10)) a c)))
 (Zon b false a c)
theorem Zcir (d e:Int) (f:Option Addr) (h g:Nat) (i j k:Int) (l:Option Addr) (n m:Nat) (o:Option Addr) (q p:Nat) (r s:Int) {a:Heap} {c:Value->Heap->Prop} (u:Zbru d e f h g i j k l n m o q p r s a fun v t=>∀b,Shut a t b->c v b):FnW wP Zbib ⟨[(vA ⟨[(vI wI d),(vI wI e),(vS f h g),(vI vU i),(vI wI j),(vI wI k),(vS l n m),(vS o q p),(vI wI r),(vI wI s)]⟩)]⟩ a c:=Zk Tryz.func71 ⟨[],[],[],[]⟩ (by kernel_rfl) (by kernel_rfl) u
def Zsk (h:Nat) (i:Bool) (a:Heap) (b:Value->Heap->Prop):Prop:=
 IfB i
 (b (vB false) a)
 (∃c e d,a.cell ⟨h,1,none⟩=some (vS c e d)∧
 FnW wP Zbbd ⟨[(vS c e d),(vF (.func 107) #[] #[])]⟩ a fun j g=>
 ∃f,j=vB f∧
 b (vB (!f)) g)
def Zbrg (i:Int) (j:Option Addr) (l k:Nat) (m n o:Int) (h:Heap) (c:Value->Heap->Prop):Prop:=
 NewW h (Obj.cells ⟨[(vI wI i),(vS j l k),(vI vU m),(vI wI n),(vI wI o)]⟩ Zl) fun b a=>
 ∃f,a.cell ⟨b,0,none⟩=some (vI wI f)∧
 IfB (f==4)
 (∃g,a.cell ⟨b,4,none⟩=some (vI wI g)∧
 ∃d,a.cell ⟨b,3,none⟩=some (vI wI d)∧
 IfB (decide (g<d))
 (Zsk b true a c)
 (∃e,a.cell ⟨b,4,none⟩=some (vI wI e)∧
 Zsk b (decide (e>32)) a c))
 (Zsk b false a c)
theorem Zcii (d:Int) (e:Option Addr) (g f:Nat) (h i j:Int) {a:Heap} {c:Value->Heap->Prop} (l:Zbrg d e g f h i j a fun m k=>∀b,Shut a k b->c m b):FnW wP Zmo ⟨[(vA ⟨[(vI wI d),(vS e g f),(vI vU h),(vI wI i),(vI wI j)]⟩)]⟩ a c:=Zk Tryz.func72 ⟨[],[],[],[]⟩ (by kernel_rfl) (by kernel_rfl) l
def Zyk (q:Option Addr) (f v:Nat) (o:FuncId) (r:Value) (c:Int) (b:Heap) (p:(Int×Unit)->Heap->Prop) (e:Value->Heap->Prop):Prop:=
 IfB (decide (c<(f:Int)))
 (NilP q fun t=>
 InB c f fun s=>
 elemAt t s 7 fun a=>
 ∃g,b.cell a=some (Value.string g)∧∃h,b.cell ⟨a.block,a.off+1,none⟩=some (vI vU h)∧∃i,b.cell ⟨a.block,a.off+2,none⟩=some (vI vU i)∧∃j,b.cell ⟨a.block,a.off+3,none⟩=some (vB j)∧∃k,b.cell ⟨a.block,a.off+4,none⟩=some (vI wI k)∧∃l,b.cell ⟨a.block,a.off+5,none⟩=some (Value.string l)∧∃m,b.cell ⟨a.block,a.off+6,none⟩=some (Value.string m)∧FnW wP o ⟨[(vA ⟨[(Value.string g),(vI vU h),(vI vU i),(vB j),(vI wI k),(Value.string l),(Value.string m)]⟩),r]⟩ b fun u d=>
 ∃n,u=vB n∧
 IfB n
 (e (vI wI c) d)
 (p ((vW wI (c+1)),()) d))
 (e (vI wI (-1)) b)
def Zbfl (e:Option Addr) (g f:Nat) (c:FuncId) (h:Value) (a:Heap) (b:Value->Heap->Prop):Prop:=
 Zbl (Int×Unit) (0,()) a fun i a d=>∀j:Env,Zyk e g f c h i.1 a d b
theorem Zbrv (e:Option Addr) (g f:Nat) (d:FuncId) (h:Value) {a:Heap} {c:Value->Heap->Prop} (j:Zbfl e g f d h a fun k i=>∀b,Shut a i b->c k b):FnW wP Zbic ⟨[(vS e g f),(vF (.func d) #[] #[h])]⟩ a c:=Zk Tryz.func73 ⟨[],[(2,[8],[.int wI],[0,1,7])],[],[]⟩ (by kernel_rfl) (by kernel_rfl) j
def Zbfo (l:ByteArray) (k m:Nat) (i:Heap) (b:Value->Heap->Prop):Prop:=
 NewW i (Obj.cells ⟨[(Value.string l)]⟩ Zj) fun c a=>
 ∃e,a.cell ⟨c,0,none⟩=some (Value.string e)∧
 IfB (e.toList==(ByteArray.mk #[]).toList)
 (b (vB true) a)
 (∃f h g,a.cell ⟨k,m+5,none⟩=some (vS f h g)∧
 FnW wP Zmn ⟨[(vS f h g),(vF (.func Zbbc) #[] #[(vP (some ⟨c,0,none⟩))])]⟩ a fun n j=>
 ∃d,n=vB d∧
 b (vB d) j)
theorem Zbse (e:ByteArray) (d f:Nat) {a:Heap} {c:Value->Heap->Prop} (h:Zbfo e d f a fun i g=>∀b,Shut a g b->c i b):FnW wP Zpw ⟨[(Value.string e),(vP (some ⟨d,f,none⟩))]⟩ a c:=Zk Tryz.func74 ⟨[],[],[],[]⟩ (by kernel_rfl) (by kernel_rfl) h
def Zbth (h:ByteArray) (i:Option Addr) (k j f g:Nat) (d:Heap) (e:Value->Heap->Prop):Prop:=
 NewW d (Obj.cells ⟨[(Value.string h),(vS i k j)]⟩ Zbu) fun l a=>
 ∃b,a.cell ⟨l,0,none⟩=some (Value.string b)∧
 ∃c,a.cell ⟨f,g,none⟩=some (Value.string c)∧
 e (vB (b.toList==c.toList)) a
theorem Zcjv (f:ByteArray) (g:Option Addr) (i h d e:Nat) {a:Heap} {c:Value->Heap->Prop} (k:Zbth f g i h d e a fun l j=>∀b,Shut a j b->c l b):FnW wP Zbbc ⟨[(vA ⟨[(Value.string f),(vS g i h)]⟩),(vP (some ⟨d,e,none⟩))]⟩ a c:=Zk Tryz.func75 ⟨[],[],[],[]⟩ (by kernel_rfl) (by kernel_rfl) k
def Zbsw (z:Option Addr) (f D:Nat) (x:FuncId) (c:Int) (b:Heap) (y:(Int×Unit)->Heap->Prop) (e:Value->Heap->Prop):Prop:=
 IfB (decide (c<(f:Int)))
 (NilP z fun B=>
 InB c f fun A=>
 elemAt B A 10 fun a=>
 ∃g,b.cell a=some (vI wI g)∧∃h,b.cell ⟨a.block,a.off+1,none⟩=some (vI wI h)∧∃i k j,b.cell ⟨a.block,a.off+2,none⟩=some (vS i k j)∧∃l,b.cell ⟨a.block,a.off+3,none⟩=some (vI vU l)∧∃m,b.cell ⟨a.block,a.off+4,none⟩=some (vI wI m)∧∃n,b.cell ⟨a.block,a.off+5,none⟩=some (vI wI n)∧∃o q p,b.cell ⟨a.block,a.off+6,none⟩=some (vS o q p)∧∃r t s,b.cell ⟨a.block,a.off+7,none⟩=some (vS r t s)∧∃u,b.cell ⟨a.block,a.off+8,none⟩=some (vI wI u)∧∃v,b.cell ⟨a.block,a.off+9,none⟩=some (vI wI v)∧FnW wP x ⟨[(vA ⟨[(vI wI g),(vI wI h),(vS i k j),(vI vU l),(vI wI m),(vI wI n),(vS o q p),(vS r t s),(vI wI u),(vI wI v)]⟩)]⟩ b fun C d=>
 ∃w,C=vB w∧
 IfB w
 (e (vI wI c) d)
 (y ((vW wI (c+1)),()) d))
 (e (vI wI (-1)) b)
def Zbsx (e:Option Addr) (g f:Nat) (c:FuncId) (a:Heap) (b:Value->Heap->Prop):Prop:=
 Zbl (Int×Unit) (0,()) a fun h a d=>∀i:Env,Zbsw e g f c h.1 a d b
theorem Zcjl (e:Option Addr) (g f:Nat) (d:FuncId) {a:Heap} {c:Value->Heap->Prop} (i:Zbsx e g f d a fun j h=>∀b,Shut a h b->c j b):FnW wP Zbie ⟨[(vS e g f),(vF (.func d) #[] #[])]⟩ a c:=Zk Tryz.func105 ⟨[],[(2,[8],[.int wI],[0,1,7])],[],[]⟩ (by kernel_rfl) (by kernel_rfl) i
def Zbtj (f:Option Addr) (h g:Nat) (e:FuncId) (b:Heap) (d:Value->Heap->Prop):Prop:=
 FnW wP Zbif ⟨[(vS f h g),(vF (.func e) #[] #[])]⟩ b fun i c=>
 ∃a,i=vI wI a∧
 d (vB (decide (a≥0))) c
theorem Zcjx (e:Option Addr) (g f:Nat) (d:FuncId) {a:Heap} {c:Value->Heap->Prop} (i:Zbtj e g f d a fun j h=>∀b,Shut a h b->c j b):FnW wP Zbbd ⟨[(vS e g f),(vF (.func d) #[] #[])]⟩ a c:=Zk Tryz.func106 ⟨[],[],[],[]⟩ (by kernel_rfl) (by kernel_rfl) i
def Zbtm (n:Int) (o:Option Addr) (q p:Nat) (r s t:Int) (k:Heap) (m:Value->Heap->Prop):Prop:=
 NewW k (Obj.cells ⟨[(vI wI n),(vS o q p),(vI vU r),(vI wI s),(vI wI t)]⟩ Zl) fun b a=>
 ∃c,a.cell ⟨b,0,none⟩=some (vI wI c)∧∃d f e,a.cell ⟨b,1,none⟩=some (vS d f e)∧∃g,a.cell ⟨b,2,none⟩=some (vI vU g)∧∃h,a.cell ⟨b,3,none⟩=some (vI wI h)∧∃i,a.cell ⟨b,4,none⟩=some (vI wI i)∧FnW wP Zmo ⟨[(vA ⟨[(vI wI c),(vS d f e),(vI vU g),(vI wI h),(vI wI i)]⟩)]⟩ a fun u l=>
 ∃j,u=vB j∧
 m (vB (!j)) l
theorem Zcka (d:Int) (e:Option Addr) (g f:Nat) (h i j:Int) {a:Heap} {c:Value->Heap->Prop} (l:Zbtm d e g f h i j a fun m k=>∀b,Shut a k b->c m b):FnW wP Zbwd ⟨[(vA ⟨[(vI wI d),(vS e g f),(vI vU h),(vI wI i),(vI wI j)]⟩)]⟩ a c:=Zk Tryz.func107 ⟨[],[],[],[]⟩ (by kernel_rfl) (by kernel_rfl) l
def Zbsz (q:Option Addr) (f u:Nat) (o:FuncId) (c:Int) (b:Heap) (p:(Int×Unit)->Heap->Prop) (e:Value->Heap->Prop):Prop:=
 IfB (decide (c<(f:Int)))
 (NilP q fun s=>
 InB c f fun r=>
 elemAt s r 5 fun a=>
 ∃g,b.cell a=some (vI wI g)∧∃h j i,b.cell ⟨a.block,a.off+1,none⟩=some (vS h j i)∧∃k,b.cell ⟨a.block,a.off+2,none⟩=some (vI vU k)∧∃l,b.cell ⟨a.block,a.off+3,none⟩=some (vI wI l)∧∃m,b.cell ⟨a.block,a.off+4,none⟩=some (vI wI m)∧FnW wP o ⟨[(vA ⟨[(vI wI g),(vS h j i),(vI vU k),(vI wI l),(vI wI m)]⟩)]⟩ b fun t d=>
 ∃n,t=vB n∧
 IfB n
 (e (vI wI c) d)
 (p ((vW wI (c+1)),()) d))
 (e (vI wI (-1)) b)
def Zbta (e:Option Addr) (g f:Nat) (c:FuncId) (a:Heap) (b:Value->Heap->Prop):Prop:=
 Zbl (Int×Unit) (0,()) a fun h a d=>∀i:Env,Zbsz e g f c h.1 a d b
theorem Zcjn (e:Option Addr) (g f:Nat) (d:FuncId) {a:Heap} {c:Value->Heap->Prop} (i:Zbta e g f d a fun j h=>∀b,Shut a h b->c j b):FnW wP Zbif ⟨[(vS e g f),(vF (.func d) #[] #[])]⟩ a c:=Zk Tryz.func137 ⟨[],[(2,[8],[.int wI],[0,1,7])],[],[]⟩ (by kernel_rfl) (by kernel_rfl) i
end Go.Proofs.YtlkdgfolbllngaaGreatDoor
end
section
set_option maxRecDepth 100000
namespace Go.Proofs.YtlkdgfolbllngaaGreatDoor
open Go.Sh
open Value renaming int -> vI, slice -> vS, pointer -> vP, bool -> vB, tuple -> vT, agg -> vA, func -> vF
open IntKind renaming wrap -> vW, i64 -> wI, u32 -> vU
open Go.Proofs.Tryz renaming prog -> wP
def Zbrb (f:Option Addr) (h g:Nat) (e:FuncId) (i:Value) (b:Heap) (d:Value->Heap->Prop):Prop:=
 FnW wP Ztt ⟨[(vS f h g),(vF (.func e) #[] #[i])]⟩ b fun j c=>
 ∃a,j=vI wI a∧
 d (vB (decide (a≥0))) c
theorem Zcie (e:Option Addr) (g f:Nat) (d:FuncId) (h:Value) {a:Heap} {c:Value->Heap->Prop} (j:Zbrb e g f d h a fun k i=>∀b,Shut a i b->c k b):FnW wP Zmn ⟨[(vS e g f),(vF (.func d) #[] #[h])]⟩ a c:=Zk Tryz.func34 ⟨[],[],[],[]⟩ (by kernel_rfl) (by kernel_rfl) j
def Zbqn (n:Option Addr) (f s:Nat) (l:FuncId) (o:Value) (b:Int) (a:Heap) (m:(Int×Unit)->Heap->Prop) (e:Value->Heap->Prop):Prop:=
 IfB (decide (b<(f:Int)))
 (NilP n fun q=>
 InB b f fun p=>
 elemAt q p 2 fun c=>
 ∃g,a.cell c=some (Value.string g)∧∃h j i,a.cell ⟨c.block,c.off+1,none⟩=some (vS h j i)∧FnW wP l ⟨[(vA ⟨[(Value.string g),(vS h j i)]⟩),o]⟩ a fun r d=>
 ∃k,r=vB k∧
 IfB k
 (e (vI wI b) d)
 (m ((vW wI (b+1)),()) d))
 (e (vI wI (-1)) a)
def Zbqo (e:Option Addr) (g f:Nat) (c:FuncId) (h:Value) (a:Heap) (b:Value->Heap->Prop):Prop:=
 Zbl (Int×Unit) (0,()) a fun i a d=>∀j:Env,Zbqn e g f c h i.1 a d b
theorem Zchx (e:Option Addr) (g f:Nat) (d:FuncId) (h:Value) {a:Heap} {c:Value->Heap->Prop} (j:Zbqo e g f d h a fun k i=>∀b,Shut a i b->c k b):FnW wP Ztt ⟨[(vS e g f),(vF (.func d) #[] #[h])]⟩ a c:=Zk Tryz.func69 ⟨[],[(2,[8],[.int wI],[0,1,7])],[],[]⟩ (by kernel_rfl) (by kernel_rfl) j
end Go.Proofs.YtlkdgfolbllngaaGreatDoor
end
section
set_option maxRecDepth 100000
namespace Go.Proofs.YtlkdgfolbllngaaGreatDoor
open Go.Sh
open Value renaming int -> vI, slice -> vS, pointer -> vP, bool -> vB, tuple -> vT, agg -> vA, func -> vF
open IntKind renaming wrap -> vW, i64 -> wI, u32 -> vU
open Go.Proofs.Tryz renaming prog -> wP
def Zoi (c:ByteArray) (d:Int) (e:Bool) (a:Heap) (b:Value->Heap->Prop):Prop:=
 IfB e
 (b (vT ⟨[(Value.string (ByteArray.mk #[])),(vI wI 2)]⟩) a)
 (b (vT ⟨[(Value.string c),(vI wI d)]⟩) a)
def Zbey (g l:Nat) (d1:Option Addr) (m e0:Nat) (d9:(Int×Unit)->Heap->Prop) (j:Int) (e:Heap) (d0:(Int×Unit)->Heap->Prop) (k:Value->Heap->Prop):Prop:=
 IfB (decide (j<(m:Int)))
 (NilP d1 fun d3=>
 InB j m fun d2=>
 elemAt d3 d2 7 fun d=>
 ∃n,e.cell d=some (Value.string n)∧∃o,e.cell ⟨d.block,d.off+1,none⟩=some (vI vU o)∧∃p,e.cell ⟨d.block,d.off+2,none⟩=some (vI vU p)∧∃q,e.cell ⟨d.block,d.off+3,none⟩=some (vB q)∧∃r,e.cell ⟨d.block,d.off+4,none⟩=some (vI wI r)∧∃s,e.cell ⟨d.block,d.off+5,none⟩=some (Value.string s)∧∃t,e.cell ⟨d.block,d.off+6,none⟩=some (Value.string t)∧NewW e (Obj.cells ⟨[(Value.string (ByteArray.mk #[])),(vI vU 0),(vI vU 0),(vB false),(vI wI 0),(Value.string (ByteArray.mk #[])),(Value.string (ByteArray.mk #[]))]⟩ Zt) fun c b2=>
 Za b2 ⟨c,0,none⟩ (Value.string n) fun b3=>
 Za b3 ⟨c,1,none⟩ (vI vU o) fun b4=>
 Za b4 ⟨c,2,none⟩ (vI vU p) fun b5=>
 Za b5 ⟨c,3,none⟩ (vB q) fun b6=>
 Za b6 ⟨c,4,none⟩ (vI wI r) fun b7=>
 Za b7 ⟨c,5,none⟩ (Value.string s) fun b8=>
 Za b8 ⟨c,6,none⟩ (Value.string t) fun f=>
 ∃u,f.cell ⟨c,0,none⟩=some (Value.string u)∧∃v,f.cell ⟨c,1,none⟩=some (vI vU v)∧∃w,f.cell ⟨c,2,none⟩=some (vI vU w)∧∃x,f.cell ⟨c,3,none⟩=some (vB x)∧∃y,f.cell ⟨c,4,none⟩=some (vI wI y)∧∃z,f.cell ⟨c,5,none⟩=some (Value.string z)∧∃A,f.cell ⟨c,6,none⟩=some (Value.string A)∧FnW wP Zbak ⟨[(vP (some ⟨l,0,none⟩)),(vA ⟨[(Value.string u),(vI vU v),(vI vU w),(vB x),(vI wI y),(Value.string z),(Value.string A)]⟩)]⟩ f fun d4 b9=>
 d4=vT ⟨[]⟩∧
 d0 ((vW wI (j+1)),()) b9)
 (∃B D C,e.cell ⟨l,0,none⟩=some (vS B D C)∧
 FnW wP Zit ⟨[(vS B D C),(Value.string (ByteArray.mk #[32]))]⟩ e fun d5 c0=>
 ∃h,d5=Value.string h∧
 FnW wP Zmk ⟨[(Value.string h)]⟩ c0 fun d7 c1=>
 ∃E,∃F:Int,∃G:Int,∃H:Int,∃I:Int,∃(J:Option Addr) (L K:Nat),∃(M:Option Addr) (O N:Nat),∃d6:Int,∃i:Int,d7=(vT ⟨[(vA ⟨[(vI vU E),(vI vU F),(vI wI G),(vI wI H),(vI wI I),(vS J L K),(vS M O N)]⟩),(vI wI d6),(vI wI i)]⟩)∧
 NewW c1 (Obj.cells ⟨[(vI vU 0),(vI vU 0),(vI wI 0),(vI wI 0),(vI wI 0),(vS none 0 0),(vS none 0 0)]⟩ Zz) fun b c2=>
 Za c2 ⟨b,0,none⟩ (vI vU E) fun c3=>
 Za c3 ⟨b,1,none⟩ (vI vU F) fun c4=>
 Za c4 ⟨b,2,none⟩ (vI wI G) fun c5=>
 Za c5 ⟨b,3,none⟩ (vI wI H) fun c6=>
 Za c6 ⟨b,4,none⟩ (vI wI I) fun c7=>
 Za c7 ⟨b,5,none⟩ (vS J L K) fun c8=>
 Za c8 ⟨b,6,none⟩ (vS M O N) fun a=>
 IfB (i !=0)
 (Zoi h i true a k)
 (∃P,a.cell ⟨b,0,none⟩=some (vI vU P)∧∃Q,a.cell ⟨b,1,none⟩=some (vI vU Q)∧∃R,a.cell ⟨b,2,none⟩=some (vI wI R)∧∃S,a.cell ⟨b,3,none⟩=some (vI wI S)∧∃T,a.cell ⟨b,4,none⟩=some (vI wI T)∧∃U W V,a.cell ⟨b,5,none⟩=some (vS U W V)∧∃X Z Y,a.cell ⟨b,6,none⟩=some (vS X Z Y)∧∃a0,a.cell ⟨g,0,none⟩=some (vI vU a0)∧∃a1,a.cell ⟨g,1,none⟩=some (vI vU a1)∧∃a2,a.cell ⟨g,2,none⟩=some (vI wI a2)∧∃a3,a.cell ⟨g,3,none⟩=some (vI wI a3)∧∃a4,a.cell ⟨g,4,none⟩=some (vI wI a4)∧∃a5 a7 a6,a.cell ⟨g,5,none⟩=some (vS a5 a7 a6)∧∃a8 b0 a9,a.cell ⟨g,6,none⟩=some (vS a8 b0 a9)∧FnW wP Zub ⟨[(vA ⟨[(vI vU P),(vI vU Q),(vI wI R),(vI wI S),(vI wI T),(vS U W V),(vS X Z Y)]⟩),(vA ⟨[(vI vU a0),(vI vU a1),(vI wI a2),(vI wI a3),(vI wI a4),(vS a5 a7 a6),(vS a8 b0 a9)]⟩)]⟩ a fun d8 c9=>
 ∃b1,d8=vB b1∧
 Zoi h i (!b1) c9 k))
def Zbqa (i c:Nat) (D:Option Addr) (j K:Nat) (d:Int) (a:Heap) (h:(Int×Unit)->Heap->Prop) (A:Value->Heap->Prop):Prop:=
 IfB (decide (d<(j:Int)))
 (NilP D fun F=>
 InB d j fun E=>
 elemAt F E 2 fun e=>
 ∃k,a.cell e=some (Value.string k)∧∃l n m,a.cell ⟨e.block,e.off+1,none⟩=some (vS l n m)∧NewW a (Obj.cells ⟨[(Value.string (ByteArray.mk #[])),(vS none 0 0)]⟩ Zbu) fun b w=>
 Za w ⟨b,0,none⟩ (Value.string k) fun x=>
 Za x ⟨b,1,none⟩ (vS l n m) fun f=>
 ∃o,f.cell ⟨b,0,none⟩=some (Value.string o)∧
 NewW f (Obj.cells ⟨[(Value.string (ByteArray.mk #[112,111,108,105,99,121])),(Value.string o)]⟩ Zj) fun G y=>
 FnW wP Zbi ⟨[(vP (some ⟨c,0,none⟩)),(vS (some ⟨G,0,none⟩) 2 2)]⟩ y fun H g=>
 H=vT ⟨[]⟩∧
 ∃p r q,g.cell ⟨b,1,none⟩=some (vS p r q)∧
 FnW wP Zpt ⟨[(vP (some ⟨c,0,none⟩)),(vS p r q)]⟩ g fun I z=>
 I=vT ⟨[]⟩∧
 h ((vW wI (d+1)),()) z)
 (∃s u t,a.cell ⟨i,6,none⟩=some (vS s u t)∧
 Zbl (Int×Unit) (0,()) a fun C v B=>∀J:Env,Zbey i c s u t h C.1 v B A)
def Zxv (b j:Nat) (a:Heap) (g:Value->Heap->Prop):Prop:=
 ∃c e d,a.cell ⟨b,5,none⟩=some (vS c e d)∧
 Zbl (Int×Unit) (0,()) a fun i f h=>∀k:Env,Zbqa b j c e d i.1 f h g
def Zbqb (Q R S T U:Int) (V:Option Addr) (X W:Nat) (Y:Option Addr) (a0 Z:Nat) (K:Heap) (h:Value->Heap->Prop):Prop:=
 NewW K (Obj.cells ⟨[(vI vU Q),(vI vU R),(vI wI S),(vI wI T),(vI wI U),(vS V X W),(vS Y a0 Z)]⟩ Zz) fun a d=>
 ∃o,d.cell ⟨a,0,none⟩=some (vI vU o)∧∃p,d.cell ⟨a,1,none⟩=some (vI vU p)∧∃q,d.cell ⟨a,2,none⟩=some (vI wI q)∧∃r,d.cell ⟨a,3,none⟩=some (vI wI r)∧∃s,d.cell ⟨a,4,none⟩=some (vI wI s)∧∃t v u,d.cell ⟨a,5,none⟩=some (vS t v u)∧∃w y x,d.cell ⟨a,6,none⟩=some (vS w y x)∧FnW wP Zmq ⟨[(vA ⟨[(vI vU o),(vI vU p),(vI wI q),(vI wI r),(vI wI s),(vS t v u),(vS w y x)]⟩)]⟩ d fun a1 j=>
 ∃i,a1=vI wI i∧
 IfB (i !=0)
 (h (vT ⟨[(Value.string (ByteArray.mk #[])),(vI wI i)]⟩) j)
 (NewW j (Obj.cells ⟨[(vS none 0 0)]⟩ Zbfy) fun g c=>
 ∃e:List Nat,(∀b∈e,∃P,c b=some P)∧
 ∃z,c.cell ⟨a,0,none⟩=some (vI vU z)∧
 a∈e∧∃B,c.cell ⟨a,1,none⟩=some (vI vU B)∧
 a∈e∧∃D,c.cell ⟨a,2,none⟩=some (vI wI D)∧
 a∈e∧∃F,c.cell ⟨a,3,none⟩=some (vI wI F)∧
 FnW wP Zek ⟨[(vI wI (vW wI z))]⟩ c fun a2 k=>
 ∃A,a2=Value.string A∧
 Zch e c k∧FnW wP Zpk ⟨[(vI vU B)]⟩ k fun a3 l=>
 ∃C,a3=Value.string C∧
 Zch e c l∧FnW wP Zek ⟨[(vI wI D)]⟩ l fun a4 m=>
 ∃E,a4=Value.string E∧
 Zch e c m∧FnW wP Zek ⟨[(vI wI F)]⟩ m fun a5 n=>
 ∃G,a5=Value.string G∧
 Zch e c n∧NewW n (Obj.cells ⟨[(Value.string (ByteArray.mk #[115,121,115,116,101,109])),(Value.string A),(Value.string (ByteArray.mk #[59])),(Value.string (ByteArray.mk #[114,111,117,116,101,114])),(Value.string C),(Value.string (ByteArray.mk #[59])),(Value.string (ByteArray.mk #[104,111,108,100])),(Value.string E),(Value.string (ByteArray.mk #[59])),(Value.string (ByteArray.mk #[114,101,116,114,121])),(Value.string G),(Value.string (ByteArray.mk #[59]))]⟩ Zj) fun a6 O=>
 FnW wP Zbi ⟨[(vP (some ⟨g,0,none⟩)),(vS (some ⟨a6,0,none⟩) 12 12)]⟩ O fun a7 f=>
 a7=vT ⟨[]⟩∧
 ∃H,f.cell ⟨a,4,none⟩=some (vI wI H)∧
 IfB (decide (H>0))
 (∃I,f.cell ⟨a,4,none⟩=some (vI wI I)∧
 FnW wP Zek ⟨[(vI wI I)]⟩ f fun a8 L=>
 ∃J,a8=Value.string J∧
 NewW L (Obj.cells ⟨[(Value.string (ByteArray.mk #[103,114,97,99,101,102,117,108])),(Value.string J),(Value.string (ByteArray.mk #[59]))]⟩ Zj) fun a9 M=>
 FnW wP Zbi ⟨[(vP (some ⟨g,0,none⟩)),(vS (some ⟨a9,0,none⟩) 3 3)]⟩ M fun b0 N=>
 b0=vT ⟨[]⟩∧
 Zxv a g N h)
 (Zxv a g f h))
theorem Zchp (d e f g h:Int) (i:Option Addr) (k j:Nat) (l:Option Addr) (n m:Nat) {a:Heap} {c:Value->Heap->Prop} (p:Zbqb d e f g h i k j l n m a fun q o=>∀b,Shut a o b->c q b):FnW wP Zban ⟨[(vA ⟨[(vI vU d),(vI vU e),(vI wI f),(vI wI g),(vI wI h),(vS i k j),(vS l n m)]⟩)]⟩ a c:=Zk Tryz.func12 ⟨[(5,[0,1,2,3,5,6,8,9,11,12,4,7,10,13,14,15],[27,30,33])],[(9,[49],[.int wI],[1,5,47,48]),(15,[66],[.int wI],[1,5,64,65])],[],[]⟩ (by kernel_rfl) (by kernel_rfl) p
def Zbfr (b:Nat) (l:Option Addr) (n m:Nat) (a:Heap) (k:Value->Heap->Prop):Prop:=
 ∃f h g,a.cell ⟨b,0,none⟩=some (vS f h g)∧
 AppW wP #[Zsv,Zsv] Zsv [(vS f h g),(vS l n m)] a fun o i=>
 ∃c e d,o=vS c e d∧
 Za i ⟨b,0,none⟩ (vS c e d) fun j=>
 k (vT ⟨[]⟩) j
theorem Zcjk (g:Nat) (d:Option Addr) (f e:Nat) {a:Heap} {c:Value->Heap->Prop} (i:Zbfr g d f e a fun j h=>∀b,Shut a h b->c j b):FnW wP Zbi ⟨[(vP (some ⟨g,0,none⟩)),(vS d f e)]⟩ a c:=Zk Tryz.func21 ⟨[],[],[],[]⟩ (by kernel_rfl) (by kernel_rfl) i
def Zbrx (g:Nat) (a1:Option Addr) (f a8:Nat) (e:Int) (c:Heap) (a2:(Int×Unit)->Heap->Prop) (a0:Value->Heap->Prop):Prop:=
 IfB (decide (e<(f:Int)))
 (NilP a1 fun a4=>
 InB e f fun a3=>
 elemAt a4 a3 10 fun b=>
 ∃h,c.cell b=some (vI wI h)∧∃i,c.cell ⟨b.block,b.off+1,none⟩=some (vI wI i)∧∃j l k,c.cell ⟨b.block,b.off+2,none⟩=some (vS j l k)∧∃m,c.cell ⟨b.block,b.off+3,none⟩=some (vI vU m)∧∃n,c.cell ⟨b.block,b.off+4,none⟩=some (vI wI n)∧∃o,c.cell ⟨b.block,b.off+5,none⟩=some (vI wI o)∧∃p r q,c.cell ⟨b.block,b.off+6,none⟩=some (vS p r q)∧∃s u t,c.cell ⟨b.block,b.off+7,none⟩=some (vS s u t)∧∃v,c.cell ⟨b.block,b.off+8,none⟩=some (vI wI v)∧∃w,c.cell ⟨b.block,b.off+9,none⟩=some (vI wI w)∧NewW c (Obj.cells ⟨[(vI wI 0),(vI wI 0),(vS none 0 0),(vI vU 0),(vI wI 0),(vI wI 0),(vS none 0 0),(vS none 0 0),(vI wI 0),(vI wI 0)]⟩ Zq) fun a U=>
 Za U ⟨a,0,none⟩ (vI wI h) fun V=>
 Za V ⟨a,1,none⟩ (vI wI i) fun W=>
 Za W ⟨a,2,none⟩ (vS j l k) fun X=>
 Za X ⟨a,3,none⟩ (vI vU m) fun Y=>
 Za Y ⟨a,4,none⟩ (vI wI n) fun Z=>
 Za Z ⟨a,5,none⟩ (vI wI o) fun N=>
 Za N ⟨a,6,none⟩ (vS p r q) fun O=>
 Za O ⟨a,7,none⟩ (vS s u t) fun P=>
 Za P ⟨a,8,none⟩ (vI wI v) fun Q=>
 Za Q ⟨a,9,none⟩ (vI wI w) fun d=>
 ∃x,d.cell ⟨a,0,none⟩=some (vI wI x)∧∃y,d.cell ⟨a,1,none⟩=some (vI wI y)∧∃z B A,d.cell ⟨a,2,none⟩=some (vS z B A)∧∃C,d.cell ⟨a,3,none⟩=some (vI vU C)∧∃D,d.cell ⟨a,4,none⟩=some (vI wI D)∧∃E,d.cell ⟨a,5,none⟩=some (vI wI E)∧∃F H G,d.cell ⟨a,6,none⟩=some (vS F H G)∧∃I K J,d.cell ⟨a,7,none⟩=some (vS I K J)∧∃L,d.cell ⟨a,8,none⟩=some (vI wI L)∧∃M,d.cell ⟨a,9,none⟩=some (vI wI M)∧FnW wP Zbaj ⟨[(vP (some ⟨g,0,none⟩)),(vA ⟨[(vI wI x),(vI wI y),(vS z B A),(vI vU C),(vI wI D),(vI wI E),(vS F H G),(vS I K J),(vI wI L),(vI wI M)]⟩)]⟩ d fun a5 R=>
 a5=vT ⟨[]⟩∧
 a2 ((vW wI (e+1)),()) R)
 (NewW c (Obj.cells ⟨[(Value.string (ByteArray.mk #[125]))]⟩ Zj) fun a6 S=>
 FnW wP Zbi ⟨[(vP (some ⟨g,0,none⟩)),(vS (some ⟨a6,0,none⟩) 1 1)]⟩ S fun a7 T=>
 a7=vT ⟨[]⟩∧
 a0 (vT ⟨[]⟩) T)
def Zbry (b:Nat) (f:Option Addr) (h g:Nat) (a:Heap) (e:Value->Heap->Prop):Prop:=
 NewW a (Obj.cells ⟨[(Value.string (ByteArray.mk #[123]))]⟩ Zj) fun k c=>
 FnW wP Zbi ⟨[(vP (some ⟨b,0,none⟩)),(vS (some ⟨k,0,none⟩) 1 1)]⟩ c fun l d=>
 l=vT ⟨[]⟩∧
 Zbl (Int×Unit) (0,()) d fun j a i=>∀m:Env,Zbrx b f h g j.1 a i e
theorem Zcit (g:Nat) (d:Option Addr) (f e:Nat) {a:Heap} {c:Value->Heap->Prop} (i:Zbry g d f e a fun j h=>∀b,Shut a h b->c j b):FnW wP Zpt ⟨[(vP (some ⟨g,0,none⟩)),(vS d f e)]⟩ a c:=Zk Tryz.func24 ⟨[],[(2,[11],[.int wI],[0,9,10])],[],[]⟩ (by kernel_rfl) (by kernel_rfl) i
def Zxr (e:Nat) (a:Heap) (d:Value->Heap->Prop):Prop:=
 NewW a (Obj.cells ⟨[(Value.string (ByteArray.mk #[59]))]⟩ Zj) fun f b=>
 FnW wP Zbi ⟨[(vP (some ⟨e,0,none⟩)),(vS (some ⟨f,0,none⟩) 1 1)]⟩ b fun g c=>
 g=vT ⟨[]⟩∧
 d (vT ⟨[]⟩) c
def Zxq (b d:Nat) (a:Heap) (c:Value->Heap->Prop):Prop:=
 ∃e,a.cell ⟨d,6,none⟩=some (Value.string e)∧
 IfB (!(e.toList==(ByteArray.mk #[]).toList))
 (∃f,a.cell ⟨d,6,none⟩=some (Value.string f)∧
 NewW a (Obj.cells ⟨[(Value.string (ByteArray.mk #[111,117,116])),(Value.string f)]⟩ Zj) fun i g=>
 FnW wP Zbi ⟨[(vP (some ⟨b,0,none⟩)),(vS (some ⟨i,0,none⟩) 2 2)]⟩ g fun j h=>
 j=vT ⟨[]⟩∧
 Zxr b h c)
 (Zxr b a c)
def Zxp (c b:Nat) (a:Heap) (d:Value->Heap->Prop):Prop:=
 ∃e,a.cell ⟨b,5,none⟩=some (Value.string e)∧
 IfB (!(e.toList==(ByteArray.mk #[]).toList))
 (∃f,a.cell ⟨b,5,none⟩=some (Value.string f)∧
 NewW a (Obj.cells ⟨[(Value.string (ByteArray.mk #[105,110])),(Value.string f)]⟩ Zj) fun i g=>
 FnW wP Zbi ⟨[(vP (some ⟨c,0,none⟩)),(vS (some ⟨i,0,none⟩) 2 2)]⟩ g fun j h=>
 j=vT ⟨[]⟩∧
 Zxq c b h d)
 (Zxq c b a d)
def Zxo (b a:Nat) (c:Heap) (e:Value->Heap->Prop):Prop:=
 ∃f,c.cell ⟨a,4,none⟩=some (vI wI f)∧
 IfB (decide (f>0))
 (NewW c (Obj.cells ⟨[(Value.string (ByteArray.mk #[109,97,120]))]⟩ Zj) fun j i=>
 FnW wP Zbi ⟨[(vP (some ⟨b,0,none⟩)),(vS (some ⟨j,0,none⟩) 1 1)]⟩ i fun k d=>
 k=vT ⟨[]⟩∧
 ∃g,d.cell ⟨a,4,none⟩=some (vI wI g)∧
 FnW wP Zgn ⟨[(vP (some ⟨b,0,none⟩)),(vI wI g)]⟩ d fun l h=>
 l=vT ⟨[]⟩∧
 Zxp b a h e)
 (Zxp b a c e)
def Zbpr (d:Nat) (t:ByteArray) (u v:Int) (w:Bool) (x:Int) (y z:ByteArray) (o:Heap) (i:Value->Heap->Prop):Prop:=
 NewW o (Obj.cells ⟨[(Value.string t),(vI vU u),(vI vU v),(vB w),(vI wI x),(Value.string y),(Value.string z)]⟩ Zt) fun a c=>
 ∃f:List Nat,(∀b∈f,∃s,c b=some s)∧
 a∈f∧∃l,c.cell ⟨a,0,none⟩=some (Value.string l)∧
 ∃m,c.cell ⟨a,1,none⟩=some (vI vU m)∧
 FnW wP Zpk ⟨[(vI vU m)]⟩ c fun F g=>
 ∃n,F=Value.string n∧
 Zch f c g∧NewW g (Obj.cells ⟨[(Value.string (ByteArray.mk #[112,101,101,114])),(Value.string l),(Value.string n),(Value.string (ByteArray.mk #[97,115]))]⟩ Zj) fun A p=>
 FnW wP Zbi ⟨[(vP (some ⟨d,0,none⟩)),(vS (some ⟨A,0,none⟩) 4 4)]⟩ p fun B h=>
 B=vT ⟨[]⟩∧
 ∃j,h.cell ⟨a,2,none⟩=some (vI vU j)∧
 FnW wP Zgn ⟨[(vP (some ⟨d,0,none⟩)),(vI wI (vW wI j))]⟩ h fun C e=>
 C=vT ⟨[]⟩∧
 ∃k,e.cell ⟨a,3,none⟩=some (vB k)∧
 IfB k
 (NewW e (Obj.cells ⟨[(Value.string (ByteArray.mk #[119,97,105,116,115]))]⟩ Zj) fun D q=>
 FnW wP Zbi ⟨[(vP (some ⟨d,0,none⟩)),(vS (some ⟨D,0,none⟩) 1 1)]⟩ q fun E r=>
 E=vT ⟨[]⟩∧
 Zxo d a r i)
 (Zxo d a e i)
theorem Zchk (k:Nat) (d:ByteArray) (e f:Int) (g:Bool) (h:Int) (i j:ByteArray) {a:Heap} {c:Value->Heap->Prop} (m:Zbpr k d e f g h i j a fun n l=>∀b,Shut a l b->c n b):FnW wP Zbak ⟨[(vP (some ⟨k,0,none⟩)),(vA ⟨[(Value.string d),(vI vU e),(vI vU f),(vB g),(vI wI h),(Value.string i),(Value.string j)]⟩)]⟩ a c:=Zk Tryz.func25 ⟨[(1,[0,1,2,3,4,5,6,7],[6])],[],[],[]⟩ (by kernel_rfl) (by kernel_rfl) m
def Zoe (e:Nat) (a:Heap) (d:Value->Heap->Prop):Prop:=
 NewW a (Obj.cells ⟨[(Value.string (ByteArray.mk #[59]))]⟩ Zj) fun f b=>
 FnW wP Zbi ⟨[(vP (some ⟨e,0,none⟩)),(vS (some ⟨f,0,none⟩) 1 1)]⟩ b fun g c=>
 g=vT ⟨[]⟩∧
 d (vT ⟨[]⟩) c
def Zxn (b f:Nat) (g:Bool) (a:Heap) (c:Value->Heap->Prop):Prop:=
 IfB g
 (∃d,a.cell ⟨f,8,none⟩=some (vI wI d)∧
 FnW wP Zuc ⟨[(vP (some ⟨b,0,none⟩)),(vI wI d)]⟩ a fun h e=>
 h=vT ⟨[]⟩∧
 Zoe b e c)
 (Zoe b a c)
def Zxm (b d:Nat) (e:Int) (h:Bool) (a:Heap) (c:Value->Heap->Prop):Prop:=
 IfB h
 (∃f,a.cell ⟨d,8,none⟩=some (vI wI f)∧
 FnW wP Zgn ⟨[(vP (some ⟨b,0,none⟩)),(vI wI f)]⟩ a fun i g=>
 i=vT ⟨[]⟩∧
 Zoe b g c)
 (IfB (e==7)
 (Zxn b d (e==7) a c)
 (Zxn b d (e==8) a c))
def Zxl (a c w:Nat) (p:Bool) (e:Heap) (f:Value->Heap->Prop):Prop:=
 IfB p
 (NewW e (Obj.cells ⟨[(Value.string (ByteArray.mk #[63])),(Value.string (ByteArray.mk #[59]))]⟩ Zj) fun q l=>
 FnW wP Zbi ⟨[(vP (some ⟨a,0,none⟩)),(vS (some ⟨q,0,none⟩) 2 2)]⟩ l fun r m=>
 r=vT ⟨[]⟩∧
 f (vT ⟨[]⟩) m)
 (∃h,e.cell ⟨c,0,none⟩=some (vI wI h)∧
 InB (vW wI (h - 2)) 8 fun s=>
 ∃i,e.cell ⟨w,0+s*1,none⟩=some (Value.string i)∧
 NewW e (Obj.cells ⟨[(Value.string i)]⟩ Zj) fun t n=>
 FnW wP Zbi ⟨[(vP (some ⟨a,0,none⟩)),(vS (some ⟨t,0,none⟩) 1 1)]⟩ n fun u d=>
 u=vT ⟨[]⟩∧
 ∃b,d.cell ⟨c,0,none⟩=some (vI wI b)∧
 IfB (b==4)
 (∃j,d.cell ⟨c,8,none⟩=some (vI wI j)∧
 FnW wP Zgn ⟨[(vP (some ⟨a,0,none⟩)),(vI wI j)]⟩ d fun v g=>
 v=vT ⟨[]⟩∧
 ∃k,g.cell ⟨c,9,none⟩=some (vI wI k)∧
 FnW wP Zgn ⟨[(vP (some ⟨a,0,none⟩)),(vI wI k)]⟩ g fun x o=>
 x=vT ⟨[]⟩∧
 Zoe a o f)
 (IfB (b==5)
 (Zxm a c b (b==5) d f)
 (Zxm a c b (b==6) d f)))
def Zbpp (b:Nat) (F G:Int) (H:Option Addr) (J I:Nat) (K L M:Int) (N:Option Addr) (P O:Nat) (Q:Option Addr) (S R:Nat) (T U:Int) (A:Heap) (e:Value->Heap->Prop):Prop:=
 NewW A (Obj.cells ⟨[(vI wI F),(vI wI G),(vS H J I),(vI vU K),(vI wI L),(vI wI M),(vS N P O),(vS Q S R),(vI wI T),(vI wI U)]⟩ Zq) fun a B=>
 NewW B (Obj.cells ⟨[(Value.string (ByteArray.mk #[97,99,99,101,112,116])),(Value.string (ByteArray.mk #[114,101,106,101,99,116])),(Value.string (ByteArray.mk #[112,114,101,112,101,110,100])),(Value.string (ByteArray.mk #[108,111,99,97,108])),(Value.string (ByteArray.mk #[109,101,100])),(Value.string (ByteArray.mk #[97,100,100])),(Value.string (ByteArray.mk #[100,114,111,112])),(Value.string (ByteArray.mk #[99,108,101,97,114]))]⟩ Zj) fun y c=>
 ∃z,c.cell ⟨a,0,none⟩=some (vI wI z)∧
 IfB (z==1)
 (NewW c (Obj.cells ⟨[(Value.string (ByteArray.mk #[105,102]))]⟩ Zj) fun V C=>
 FnW wP Zbi ⟨[(vP (some ⟨b,0,none⟩)),(vS (some ⟨V,0,none⟩) 1 1)]⟩ C fun W d=>
 W=vT ⟨[]⟩∧
 ∃i,d.cell ⟨a,1,none⟩=some (vI wI i)∧∃j l k,d.cell ⟨a,2,none⟩=some (vS j l k)∧∃m,d.cell ⟨a,3,none⟩=some (vI vU m)∧∃n,d.cell ⟨a,4,none⟩=some (vI wI n)∧∃o,d.cell ⟨a,5,none⟩=some (vI wI o)∧FnW wP Zpu ⟨[(vP (some ⟨b,0,none⟩)),(vA ⟨[(vI wI i),(vS j l k),(vI vU m),(vI wI n),(vI wI o)]⟩),(vI wI 0)]⟩ d fun X g=>
 X=vT ⟨[]⟩∧
 ∃p r q,g.cell ⟨a,6,none⟩=some (vS p r q)∧
 FnW wP Zpt ⟨[(vP (some ⟨b,0,none⟩)),(vS p r q)]⟩ g fun Y f=>
 Y=vT ⟨[]⟩∧
 ∃Z s a0,f.cell ⟨a,7,none⟩=some (vS Z s a0)∧
 IfB (decide (((s:Int):Int)>0))
 (NewW f (Obj.cells ⟨[(Value.string (ByteArray.mk #[101,108,115,101]))]⟩ Zj) fun a1 D=>
 FnW wP Zbi ⟨[(vP (some ⟨b,0,none⟩)),(vS (some ⟨a1,0,none⟩) 1 1)]⟩ D fun a2 h=>
 a2=vT ⟨[]⟩∧
 ∃t v u,h.cell ⟨a,7,none⟩=some (vS t v u)∧
 FnW wP Zpt ⟨[(vP (some ⟨b,0,none⟩)),(vS t v u)]⟩ h fun a3 E=>
 a3=vT ⟨[]⟩∧
 e (vT ⟨[]⟩) E)
 (e (vT ⟨[]⟩) f))
 (∃w,c.cell ⟨a,0,none⟩=some (vI wI w)∧
 IfB (decide (w<2))
 (Zxl b a y true c e)
 (∃x,c.cell ⟨a,0,none⟩=some (vI wI x)∧
 Zxl b a y (decide (x>9)) c e))
theorem Zchi (t:Nat) (d e:Int) (f:Option Addr) (h g:Nat) (i j k:Int) (l:Option Addr) (n m:Nat) (o:Option Addr) (q p:Nat) (r s:Int) {a:Heap} {c:Value->Heap->Prop} (v:Zbpp t d e f h g i j k l n m o q p r s a fun w u=>∀b,Shut a u b->c w b):FnW wP Zbaj ⟨[(vP (some ⟨t,0,none⟩)),(vA ⟨[(vI wI d),(vI wI e),(vS f h g),(vI vU i),(vI wI j),(vI wI k),(vS l n m),(vS o q p),(vI wI r),(vI wI s)]⟩)]⟩ a c:=Zk Tryz.func61 ⟨[],[],[],[]⟩ (by kernel_rfl) (by kernel_rfl) v
def Zbrk (h:Nat) (g:Int) (b:Heap) (f:Value->Heap->Prop):Prop:=
 FnW wP Zek ⟨[(vI wI g)]⟩ b fun i c=>
 ∃a,i=Value.string a∧
 NewW c (Obj.cells ⟨[(Value.string a)]⟩ Zj) fun j d=>
 FnW wP Zbi ⟨[(vP (some ⟨h,0,none⟩)),(vS (some ⟨j,0,none⟩) 1 1)]⟩ d fun k e=>
 k=vT ⟨[]⟩∧
 f (vT ⟨[]⟩) e
theorem Zcij (e:Nat) (d:Int) {a:Heap} {c:Value->Heap->Prop} (g:Zbrk e d a fun h f=>∀b,Shut a f b->c h b):FnW wP Zgn ⟨[(vP (some ⟨e,0,none⟩)),(vI wI d)]⟩ a c:=Zk Tryz.func62 ⟨[],[],[],[]⟩ (by kernel_rfl) (by kernel_rfl) g
def Zbsa (C:Nat) (D:Option Addr) (f H:Nat) (e:Int) (c:Heap) (B:(Int×Unit)->Heap->Prop) (A:Value->Heap->Prop):Prop:=
 IfB (decide (e<(f:Int)))
 (NilP D fun F=>
 InB e f fun E=>
 elemAt F E 5 fun b=>
 ∃g,c.cell b=some (vI wI g)∧∃h j i,c.cell ⟨b.block,b.off+1,none⟩=some (vS h j i)∧∃k,c.cell ⟨b.block,b.off+2,none⟩=some (vI vU k)∧∃l,c.cell ⟨b.block,b.off+3,none⟩=some (vI wI l)∧∃m,c.cell ⟨b.block,b.off+4,none⟩=some (vI wI m)∧NewW c (Obj.cells ⟨[(vI wI 0),(vS none 0 0),(vI vU 0),(vI wI 0),(vI wI 0)]⟩ Zl) fun a x=>
 Za x ⟨a,0,none⟩ (vI wI g) fun y=>
 Za y ⟨a,1,none⟩ (vS h j i) fun z=>
 Za z ⟨a,2,none⟩ (vI vU k) fun u=>
 Za u ⟨a,3,none⟩ (vI wI l) fun v=>
 Za v ⟨a,4,none⟩ (vI wI m) fun d=>
 ∃n,d.cell ⟨a,0,none⟩=some (vI wI n)∧∃o q p,d.cell ⟨a,1,none⟩=some (vS o q p)∧∃r,d.cell ⟨a,2,none⟩=some (vI vU r)∧∃s,d.cell ⟨a,3,none⟩=some (vI wI s)∧∃t,d.cell ⟨a,4,none⟩=some (vI wI t)∧FnW wP Zpu ⟨[(vP (some ⟨C,0,none⟩)),(vA ⟨[(vI wI n),(vS o q p),(vI vU r),(vI wI s),(vI wI t)]⟩),(vI wI 2)]⟩ d fun G w=>
 G=vT ⟨[]⟩∧
 B ((vW wI (e+1)),()) w)
 (A (vT ⟨[]⟩) c)
def Zbsb (c:Nat) (C:Int) (D:Option Addr) (F E:Nat) (G H I h:Int) (f:Heap) (d:Value->Heap->Prop):Prop:=
 NewW f (Obj.cells ⟨[(vI wI C),(vS D F E),(vI vU G),(vI wI H),(vI wI I)]⟩ Zl) fun b a=>
 ∃e,a.cell ⟨b,0,none⟩=some (vI wI e)∧
 IfB (e==1)
 (∃p r q,a.cell ⟨b,1,none⟩=some (vS p r q)∧
 FnW wP Ztw ⟨[(vP (some ⟨c,0,none⟩)),(vS p r q),(Value.string (ByteArray.mk #[97,110,100])),(vI wI h),(vI wI 2)]⟩ a fun M z=>
 M=vT ⟨[]⟩∧
 d (vT ⟨[]⟩) z)
 (IfB (e==2)
 (∃s u t,a.cell ⟨b,1,none⟩=some (vS s u t)∧
 FnW wP Ztw ⟨[(vP (some ⟨c,0,none⟩)),(vS s u t),(Value.string (ByteArray.mk #[111,114])),(vI wI h),(vI wI 1)]⟩ a fun N A=>
 N=vT ⟨[]⟩∧
 d (vT ⟨[]⟩) A)
 (IfB (e==3)
 (NewW a (Obj.cells ⟨[(Value.string (ByteArray.mk #[110,111,116]))]⟩ Zj) fun O B=>
 FnW wP Zbi ⟨[(vP (some ⟨c,0,none⟩)),(vS (some ⟨O,0,none⟩) 1 1)]⟩ B fun P g=>
 P=vT ⟨[]⟩∧
 ∃v x w,g.cell ⟨b,1,none⟩=some (vS v x w)∧
 Zbl (Int×Unit) (0,()) g fun K f J=>∀Q:Env,Zbsa c v x w K.1 f J d)
 (∃i,a.cell ⟨b,0,none⟩=some (vI wI i)∧∃j l k,a.cell ⟨b,1,none⟩=some (vS j l k)∧∃m,a.cell ⟨b,2,none⟩=some (vI vU m)∧∃n,a.cell ⟨b,3,none⟩=some (vI wI n)∧∃o,a.cell ⟨b,4,none⟩=some (vI wI o)∧FnW wP Zbal ⟨[(vP (some ⟨c,0,none⟩)),(vA ⟨[(vI wI i),(vS j l k),(vI vU m),(vI wI n),(vI wI o)]⟩)]⟩ a fun L y=>
 L=vT ⟨[]⟩∧
 d (vT ⟨[]⟩) y)))
theorem Zciu (l:Nat) (d:Int) (e:Option Addr) (g f:Nat) (h i j k:Int) {a:Heap} {c:Value->Heap->Prop} (n:Zbsb l d e g f h i j k a fun o m=>∀b,Shut a m b->c o b):FnW wP Zpu ⟨[(vP (some ⟨l,0,none⟩)),(vA ⟨[(vI wI d),(vS e g f),(vI vU h),(vI wI i),(vI wI j)]⟩),(vI wI k)]⟩ a c:=Zk Tryz.func99 ⟨[],[(10,[35],[.int wI],[0,33,34])],[],[]⟩ (by kernel_rfl) (by kernel_rfl) n
def Zbtc (j:Nat) (a:Int) (d:Heap) (i:Value->Heap->Prop):Prop:=
 (65536:Int)≠0∧
 FnW wP Zek ⟨[(vI wI (vW wI (Int.tdiv a 65536)))]⟩ d fun o e=>
 ∃c,o=Value.string c∧
 CatK c (ByteArray.mk #[58]) fun p=>
 (65536:Int)≠0∧
 FnW wP Zek ⟨[(vI wI (Int.tmod a 65536))]⟩ e fun k f=>
 ∃b,k=Value.string b∧
 CatK p b fun l=>
 NewW f (Obj.cells ⟨[(Value.string l)]⟩ Zj) fun m g=>
 FnW wP Zbi ⟨[(vP (some ⟨j,0,none⟩)),(vS (some ⟨m,0,none⟩) 1 1)]⟩ g fun n h=>
 n=vT ⟨[]⟩∧
 i (vT ⟨[]⟩) h
theorem Zcjq (e:Nat) (d:Int) {a:Heap} {c:Value->Heap->Prop} (g:Zbtc e d a fun h f=>∀b,Shut a f b->c h b):FnW wP Zuc ⟨[(vP (some ⟨e,0,none⟩)),(vI wI d)]⟩ a c:=Zk Tryz.func100 ⟨[],[],[],[]⟩ (by kernel_rfl) (by kernel_rfl) g
def Zye (m:Nat) (q:ByteArray) (k:Int) (b:Nat) (r:Option Addr) (t s:Nat) (n:Int) (l:(Int×Unit)->Heap->Prop) (a:Heap) (p:Value->Heap->Prop):Prop:=
 ∃c,a.cell ⟨b,0,none⟩=some (vI wI c)∧∃d f e,a.cell ⟨b,1,none⟩=some (vS d f e)∧∃g,a.cell ⟨b,2,none⟩=some (vI vU g)∧∃h,a.cell ⟨b,3,none⟩=some (vI wI h)∧∃i,a.cell ⟨b,4,none⟩=some (vI wI i)∧FnW wP Zpu ⟨[(vP (some ⟨m,0,none⟩)),(vA ⟨[(vI wI c),(vS d f e),(vI vU g),(vI wI h),(vI wI i)]⟩),(vI wI k)]⟩ a fun o j=>
 o=vT ⟨[]⟩∧
 l ((vW wI (n+1)),()) j
def Zbrh (i:Nat) (g:ByteArray) (k:Int) (h:Option Addr) (e l:Nat) (d:Int) (b:Heap) (m:(Int×Unit)->Heap->Prop) (f:Value->Heap->Prop):Prop:=
 IfB (decide (d<(e:Int)))
 (NilP h fun C=>
 InB d e fun B=>
 elemAt C B 5 fun a=>
 ∃n,b.cell a=some (vI wI n)∧∃o q p,b.cell ⟨a.block,a.off+1,none⟩=some (vS o q p)∧∃r,b.cell ⟨a.block,a.off+2,none⟩=some (vI vU r)∧∃s,b.cell ⟨a.block,a.off+3,none⟩=some (vI wI s)∧∃t,b.cell ⟨a.block,a.off+4,none⟩=some (vI wI t)∧NewW b (Obj.cells ⟨[(vI wI 0),(vS none 0 0),(vI vU 0),(vI wI 0),(vI wI 0)]⟩ Zl) fun c x=>
 Za x ⟨c,0,none⟩ (vI wI n) fun y=>
 Za y ⟨c,1,none⟩ (vS o q p) fun z=>
 Za z ⟨c,2,none⟩ (vI vU r) fun A=>
 Za A ⟨c,3,none⟩ (vI wI s) fun u=>
 Za u ⟨c,4,none⟩ (vI wI t) fun j=>
 IfB (decide (d>0))
 (NewW j (Obj.cells ⟨[(Value.string g)]⟩ Zj) fun D v=>
 FnW wP Zbi ⟨[(vP (some ⟨i,0,none⟩)),(vS (some ⟨D,0,none⟩) 1 1)]⟩ v fun E w=>
 E=vT ⟨[]⟩∧
 Zye i g k c h e l d m w f)
 (Zye i g k c h e l d m j f))
 (f (vT ⟨[]⟩) b)
def Zyd (j:Nat) (f:Option Addr) (h g:Nat) (d:ByteArray) (e:Int) (b:Heap) (c:Value->Heap->Prop):Prop:=
 Zbl (Int×Unit) (0,()) b fun k a i=>∀l:Env,Zbrh j d e f h g k.1 a i c
def Zbew (f e:Nat) (a:Heap) (d:Value->Heap->Prop):Prop:=
 ∃b,a.cell ⟨e,4,none⟩=some (vI wI b)∧
 FnW wP Zgn ⟨[(vP (some ⟨f,0,none⟩)),(vI wI b)]⟩ a fun g c=>
 g=vT ⟨[]⟩∧
 d (vT ⟨[]⟩) c
def Zsc (i h:Nat) (j:Bool) (b:Heap) (c:Value->Heap->Prop):Prop:=
 IfB j
 (NewW b (Obj.cells ⟨[(Value.string (ByteArray.mk #[105,110,110,101,114])),(Value.string (ByteArray.mk #[111,117,116,101,114])),(Value.string (ByteArray.mk #[117,110,107,110,111,119,110]))]⟩ Zj) fun k a=>
 ∃d,a.cell ⟨h,4,none⟩=some (vI wI d)∧
 InB d 3 fun l=>
 ∃e,a.cell ⟨k,0+l*1,none⟩=some (Value.string e)∧
 NewW a (Obj.cells ⟨[(Value.string e)]⟩ Zj) fun m f=>
 FnW wP Zbi ⟨[(vP (some ⟨i,0,none⟩)),(vS (some ⟨m,0,none⟩) 1 1)]⟩ f fun n g=>
 n=vT ⟨[]⟩∧
 c (vT ⟨[]⟩) g)
 (c (vT ⟨[]⟩) b)
def Zbpv (a b:Nat) (f:Int) (d:Heap) (c:Value->Heap->Prop):Prop:=
 IfB (f==10)
 (NewW d (Obj.cells ⟨[(Value.string (ByteArray.mk #[99,111,109,109,117,110,105,116,121]))]⟩ Zj) fun t m=>
 FnW wP Zbi ⟨[(vP (some ⟨a,0,none⟩)),(vS (some ⟨t,0,none⟩) 1 1)]⟩ m fun u g=>
 u=vT ⟨[]⟩∧
 ∃i,g.cell ⟨b,4,none⟩=some (vI wI i)∧
 FnW wP Zuc ⟨[(vP (some ⟨a,0,none⟩)),(vI wI i)]⟩ g fun v n=>
 v=vT ⟨[]⟩∧
 c (vT ⟨[]⟩) n)
 (IfB (f==11)
 (NewW d (Obj.cells ⟨[(Value.string (ByteArray.mk #[111,114,105,103,105,110]))]⟩ Zj) fun w o=>
 FnW wP Zbi ⟨[(vP (some ⟨a,0,none⟩)),(vS (some ⟨w,0,none⟩) 1 1)]⟩ o fun x e=>
 x=vT ⟨[]⟩∧
 ∃j,e.cell ⟨b,4,none⟩=some (vI wI j)∧
 IfB (decide (j≥0))
 (∃k,e.cell ⟨b,4,none⟩=some (vI wI k)∧
 Zsc a b (decide (k <= 2)) e c)
 (Zsc a b false e c))
 (IfB (f==12)
 (NewW d (Obj.cells ⟨[(Value.string (ByteArray.mk #[109,101,100])),(Value.string (ByteArray.mk #[97,98,111,118,101]))]⟩ Zj) fun z p=>
 FnW wP Zbi ⟨[(vP (some ⟨a,0,none⟩)),(vS (some ⟨z,0,none⟩) 2 2)]⟩ p fun A h=>
 A=vT ⟨[]⟩∧
 ∃l,h.cell ⟨b,4,none⟩=some (vI wI l)∧
 FnW wP Zgn ⟨[(vP (some ⟨a,0,none⟩)),(vI wI l)]⟩ h fun B q=>
 B=vT ⟨[]⟩∧
 c (vT ⟨[]⟩) q)
 (NewW d (Obj.cells ⟨[(Value.string (ByteArray.mk #[63]))]⟩ Zj) fun y r=>
 FnW wP Zbi ⟨[(vP (some ⟨a,0,none⟩)),(vS (some ⟨y,0,none⟩) 1 1)]⟩ r fun C s=>
 C=vT ⟨[]⟩∧
 c (vT ⟨[]⟩) s)))
def Zoh (c b:Nat) (o:Int) (j:Bool) (d:Heap) (e:Value->Heap->Prop):Prop:=
 IfB j
 (NewW d (Obj.cells ⟨[(Value.string (ByteArray.mk #[104,97,115])),(Value.string (ByteArray.mk #[102,114,111,109])),(Value.string (ByteArray.mk #[111,114,105,103,105,110])),(Value.string (ByteArray.mk #[108,111,110,103,101,114]))]⟩ Zj) fun k a=>
 ∃f,a.cell ⟨b,0,none⟩=some (vI wI f)∧
 InB (vW wI (f - 6)) 4 fun l=>
 ∃g,a.cell ⟨k,0+l*1,none⟩=some (Value.string g)∧
 NewW a (Obj.cells ⟨[(Value.string (ByteArray.mk #[112,97,116,104])),(Value.string g)]⟩ Zj) fun m h=>
 FnW wP Zbi ⟨[(vP (some ⟨c,0,none⟩)),(vS (some ⟨m,0,none⟩) 2 2)]⟩ h fun n i=>
 n=vT ⟨[]⟩∧
 Zbew c b i e)
 (Zbpv c b o d e)
def Zbpw (d:Nat) (u:Int) (v:Option Addr) (x w:Nat) (y z A:Int) (n:Heap) (e:Value->Heap->Prop):Prop:=
 NewW n (Obj.cells ⟨[(vI wI u),(vS v x w),(vI vU y),(vI wI z),(vI wI A)]⟩ Zl) fun c b=>
 ∃a,b.cell ⟨c,0,none⟩=some (vI wI a)∧
 IfB (a==4)
 (∃g,b.cell ⟨c,2,none⟩=some (vI vU g)∧∃h,b.cell ⟨c,3,none⟩=some (vI wI h)∧FnW wP Zpn ⟨[(vA ⟨[(vI vU g),(vI wI h)]⟩)]⟩ b fun B o=>
 ∃i,B=Value.string i∧
 NewW o (Obj.cells ⟨[(Value.string (ByteArray.mk #[112,114,101,102,105,120])),(Value.string (ByteArray.mk #[105,110])),(Value.string i),(Value.string (ByteArray.mk #[108,101]))]⟩ Zj) fun C p=>
 FnW wP Zbi ⟨[(vP (some ⟨d,0,none⟩)),(vS (some ⟨C,0,none⟩) 4 4)]⟩ p fun D f=>
 D=vT ⟨[]⟩∧
 ∃j,f.cell ⟨c,4,none⟩=some (vI wI j)∧
 FnW wP Zgn ⟨[(vP (some ⟨d,0,none⟩)),(vI wI j)]⟩ f fun E q=>
 E=vT ⟨[]⟩∧
 e (vT ⟨[]⟩) q)
 (IfB (a==5)
 (∃k,b.cell ⟨c,2,none⟩=some (vI vU k)∧∃l,b.cell ⟨c,3,none⟩=some (vI wI l)∧FnW wP Zpn ⟨[(vA ⟨[(vI vU k),(vI wI l)]⟩)]⟩ b fun F r=>
 ∃m,F=Value.string m∧
 NewW r (Obj.cells ⟨[(Value.string (ByteArray.mk #[112,114,101,102,105,120])),(Value.string (ByteArray.mk #[105,115])),(Value.string m)]⟩ Zj) fun G s=>
 FnW wP Zbi ⟨[(vP (some ⟨d,0,none⟩)),(vS (some ⟨G,0,none⟩) 3 3)]⟩ s fun H t=>
 H=vT ⟨[]⟩∧
 e (vT ⟨[]⟩) t)
 (IfB (a==6)
 (Zoh d c a (a==6) b e)
 (IfB (a==7)
 (Zoh d c a (a==7) b e)
 (IfB (a==8)
 (Zoh d c a (a==8) b e)
 (Zoh d c a (a==9) b e)))))
theorem Zchn (k:Nat) (d:Int) (e:Option Addr) (g f:Nat) (h i j:Int) {a:Heap} {c:Value->Heap->Prop} (m:Zbpw k d e g f h i j a fun n l=>∀b,Shut a l b->c n b):FnW wP Zbal ⟨[(vP (some ⟨k,0,none⟩)),(vA ⟨[(vI wI d),(vS e g f),(vI vU h),(vI wI i),(vI wI j)]⟩)]⟩ a c:=Zk Tryz.func133 ⟨[],[],[],[]⟩ (by kernel_rfl) (by kernel_rfl) m
end Go.Proofs.YtlkdgfolbllngaaGreatDoor
end
section
set_option maxRecDepth 100000
namespace Go.Proofs.YtlkdgfolbllngaaGreatDoor
open Go.Sh
open Value renaming int -> vI, slice -> vS, pointer -> vP, bool -> vB, tuple -> vT, agg -> vA, func -> vF
open IntKind renaming wrap -> vW, i64 -> wI, u32 -> vU
open Go.Proofs.Tryz renaming prog -> wP
def Zbtk (e4 e5 e6 e7 e8:Int) (e9:Option Addr) (f1 f0:Nat) (f2:Option Addr) (f4 f3:Nat) (c6:Heap) (f:Value->Heap->Prop):Prop:=
 NewW c6 (Obj.cells ⟨[(vI vU e4),(vI vU e5),(vI wI e6),(vI wI e7),(vI wI e8),(vS e9 f1 f0),(vS f2 f4 f3)]⟩ Zz) fun a c7=>
 FnW wP Zbaz ⟨[]⟩ c7 fun g0 d=>
 ∃c5,g0=vB c5∧
 IfB (!c5)
 (f (vB false) d)
 (∃i,d.cell ⟨a,0,none⟩=some (vI vU i)∧∃j,d.cell ⟨a,1,none⟩=some (vI vU j)∧∃k,d.cell ⟨a,2,none⟩=some (vI wI k)∧∃l,d.cell ⟨a,3,none⟩=some (vI wI l)∧∃m,d.cell ⟨a,4,none⟩=some (vI wI m)∧∃n p o,d.cell ⟨a,5,none⟩=some (vS n p o)∧∃q s r,d.cell ⟨a,6,none⟩=some (vS q s r)∧FnW wP Zbao ⟨[(vA ⟨[(vI vU i),(vI vU j),(vI wI k),(vI wI l),(vI wI m),(vS n p o),(vS q s r)]⟩)]⟩ d fun f5 d7=>
 ∃t,∃u:Int,∃v:Int,∃w:Int,∃x:Int,∃(y:Option Addr) (A z:Nat),∃(B:Option Addr) (D C:Nat),f5=(vA ⟨[(vI vU t),(vI vU u),(vI wI v),(vI wI w),(vI wI x),(vS y A z),(vS B D C)]⟩)∧
 Za d7 ⟨a,0,none⟩ (vI vU t) fun d8=>
 Za d8 ⟨a,1,none⟩ (vI vU u) fun d9=>
 Za d9 ⟨a,2,none⟩ (vI wI v) fun e0=>
 Za e0 ⟨a,3,none⟩ (vI wI w) fun e1=>
 Za e1 ⟨a,4,none⟩ (vI wI x) fun e2=>
 Za e2 ⟨a,5,none⟩ (vS y A z) fun e3=>
 Za e3 ⟨a,6,none⟩ (vS B D C) fun e=>
 ∃E,e.cell ⟨a,0,none⟩=some (vI vU E)∧∃F,e.cell ⟨a,1,none⟩=some (vI vU F)∧∃G,e.cell ⟨a,2,none⟩=some (vI wI G)∧∃H,e.cell ⟨a,3,none⟩=some (vI wI H)∧∃I,e.cell ⟨a,4,none⟩=some (vI wI I)∧∃J L K,e.cell ⟨a,5,none⟩=some (vS J L K)∧∃M O N,e.cell ⟨a,6,none⟩=some (vS M O N)∧FnW wP Zban ⟨[(vA ⟨[(vI vU E),(vI vU F),(vI wI G),(vI wI H),(vI wI I),(vS J L K),(vS M O N)]⟩)]⟩ e fun f6 h=>
 ∃g,∃P:Int,f6=(vT ⟨[(Value.string g),(vI wI P)]⟩)∧
 IfB (P !=0)
 (f (vB (g.toList==(ByteArray.mk #[]).toList)) h)
 (FnW wP Zmk ⟨[(Value.string g)]⟩ h fun f8 c8=>
 ∃Q,∃R:Int,∃S:Int,∃T:Int,∃U:Int,∃(V:Option Addr) (X W:Nat),∃(Y:Option Addr) (a0 Z:Nat),∃f7:Int,∃a1:Int,f8=(vT ⟨[(vA ⟨[(vI vU Q),(vI vU R),(vI wI S),(vI wI T),(vI wI U),(vS V X W),(vS Y a0 Z)]⟩),(vI wI f7),(vI wI a1)]⟩)∧
 NewW c8 (Obj.cells ⟨[(vI vU 0),(vI vU 0),(vI wI 0),(vI wI 0),(vI wI 0),(vS none 0 0),(vS none 0 0)]⟩ Zz) fun c c9=>
 Za c9 ⟨c,0,none⟩ (vI vU Q) fun d0=>
 Za d0 ⟨c,1,none⟩ (vI vU R) fun d1=>
 Za d1 ⟨c,2,none⟩ (vI wI S) fun d2=>
 Za d2 ⟨c,3,none⟩ (vI wI T) fun d3=>
 Za d3 ⟨c,4,none⟩ (vI wI U) fun d4=>
 Za d4 ⟨c,5,none⟩ (vS V X W) fun d5=>
 Za d5 ⟨c,6,none⟩ (vS Y a0 Z) fun b=>
 IfB (a1==0)
 (∃a2,b.cell ⟨c,0,none⟩=some (vI vU a2)∧∃a3,b.cell ⟨c,1,none⟩=some (vI vU a3)∧∃a4,b.cell ⟨c,2,none⟩=some (vI wI a4)∧∃a5,b.cell ⟨c,3,none⟩=some (vI wI a5)∧∃a6,b.cell ⟨c,4,none⟩=some (vI wI a6)∧∃a7 a9 a8,b.cell ⟨c,5,none⟩=some (vS a7 a9 a8)∧∃b0 b2 b1,b.cell ⟨c,6,none⟩=some (vS b0 b2 b1)∧∃b3,b.cell ⟨a,0,none⟩=some (vI vU b3)∧∃b4,b.cell ⟨a,1,none⟩=some (vI vU b4)∧∃b5,b.cell ⟨a,2,none⟩=some (vI wI b5)∧∃b6,b.cell ⟨a,3,none⟩=some (vI wI b6)∧∃b7,b.cell ⟨a,4,none⟩=some (vI wI b7)∧∃b8 c0 b9,b.cell ⟨a,5,none⟩=some (vS b8 c0 b9)∧∃c1 c3 c2,b.cell ⟨a,6,none⟩=some (vS c1 c3 c2)∧FnW wP Zbam ⟨[(vA ⟨[(vI vU a2),(vI vU a3),(vI wI a4),(vI wI a5),(vI wI a6),(vS a7 a9 a8),(vS b0 b2 b1)]⟩),(vA ⟨[(vI vU b3),(vI vU b4),(vI wI b5),(vI wI b6),(vI wI b7),(vS b8 c0 b9),(vS c1 c3 c2)]⟩)]⟩ b fun f9 d6=>
 ∃c4,f9=vB c4∧
 f (vB c4) d6)
 (f (vB false) b)))
theorem Zcjy (d e f g h:Int) (i:Option Addr) (k j:Nat) (l:Option Addr) (n m:Nat) {a:Heap} {c:Value->Heap->Prop} (p:Zbtk d e f g h i k j l n m a fun q o=>∀b,Shut a o b->c q b):FnW wP Zbig ⟨[(vA ⟨[(vI vU d),(vI vU e),(vI wI f),(vI wI g),(vI wI h),(vS i k j),(vS l n m)]⟩)]⟩ a c:=Zk Tryz.func4 ⟨[],[],[],[]⟩ (by kernel_rfl) (by kernel_rfl) p
def Zse (e b:Nat) (c8:Option Addr) (d0 c9:Nat) (n:Option Addr) (p o:Nat) (m:Int) (c7:((Option Addr×Nat×Nat)×Int×Unit)->Heap->Prop) (d1:Bool) (d:Heap) (c6:Value->Heap->Prop):Prop:=
 IfB d1
 (∃B C d2,d.cell ⟨e,6,none⟩=some (vS B C d2)∧
 NilP B fun d4=>
 InB m C fun d3=>
 elemAt d4 d3 7 fun c=>
 ∃D,d.cell c=some (Value.string D)∧∃E,d.cell ⟨c.block,c.off+1,none⟩=some (vI vU E)∧∃F,d.cell ⟨c.block,c.off+2,none⟩=some (vI vU F)∧∃G,d.cell ⟨c.block,c.off+3,none⟩=some (vB G)∧∃H,d.cell ⟨c.block,c.off+4,none⟩=some (vI wI H)∧∃I,d.cell ⟨c.block,c.off+5,none⟩=some (Value.string I)∧∃J,d.cell ⟨c.block,c.off+6,none⟩=some (Value.string J)∧NewW d (Obj.cells ⟨[(Value.string (ByteArray.mk #[])),(vI vU 0),(vI vU 0),(vB false),(vI wI 0),(Value.string (ByteArray.mk #[])),(Value.string (ByteArray.mk #[]))]⟩ Zt) fun a a8=>
 Za a8 ⟨a,0,none⟩ (Value.string D) fun a9=>
 Za a9 ⟨a,1,none⟩ (vI vU E) fun b0=>
 Za b0 ⟨a,2,none⟩ (vI vU F) fun b1=>
 Za b1 ⟨a,3,none⟩ (vB G) fun b2=>
 Za b2 ⟨a,4,none⟩ (vI wI H) fun b3=>
 Za b3 ⟨a,5,none⟩ (Value.string I) fun b4=>
 Za b4 ⟨a,6,none⟩ (Value.string J) fun i=>
 ∃j,i.cell ⟨a,0,none⟩=some (Value.string j)∧
 ∃K,i.cell ⟨a,0,none⟩=some (Value.string K)∧
 InC (min (K.size:Int) 40) j.size fun d5=>
 ∃k,i.cell ⟨a,5,none⟩=some (Value.string k)∧
 ∃L,i.cell ⟨a,5,none⟩=some (Value.string L)∧
 InC (min (L.size:Int) 40) k.size fun d6=>
 ∃l,i.cell ⟨a,6,none⟩=some (Value.string l)∧
 ∃M,i.cell ⟨a,6,none⟩=some (Value.string M)∧
 InC (min (M.size:Int) 40) l.size fun d7=>
 Za i ⟨a,0,none⟩ (Value.string (ByteArray.extract j 0 d5)) fun b5=>
 Za b5 ⟨a,5,none⟩ (Value.string (ByteArray.extract k 0 d6)) fun b6=>
 Za b6 ⟨a,6,none⟩ (Value.string (ByteArray.extract l 0 d7)) fun f=>
 ∃N,f.cell ⟨a,0,none⟩=some (Value.string N)∧∃O,f.cell ⟨a,1,none⟩=some (vI vU O)∧∃P,f.cell ⟨a,2,none⟩=some (vI vU P)∧∃Q,f.cell ⟨a,3,none⟩=some (vB Q)∧∃R,f.cell ⟨a,4,none⟩=some (vI wI R)∧∃S,f.cell ⟨a,5,none⟩=some (Value.string S)∧∃T,f.cell ⟨a,6,none⟩=some (Value.string T)∧NewW f (Obj.cells ⟨[(Value.string N),(vI vU O),(vI vU P),(vB Q),(vI wI R),(Value.string S),(Value.string T)]⟩ Zt) fun d8 b7=>
 AppW wP #[Zfu,Zfu] Zfu [(vS n p o),(vS (some ⟨d8,0,none⟩) 1 1)] b7 fun d9 b8=>
 ∃U W V,d9=vS U W V∧
 c7 ((U,W,V),((vW wI (m+1)),())) b8)
 (Za d ⟨e,5,none⟩ (vS c8 d0 c9) fun b9=>
 Za b9 ⟨e,6,none⟩ (vS n p o) fun g=>
 ∃X,g.cell ⟨e,0,none⟩=some (vI vU X)∧∃Y,g.cell ⟨e,1,none⟩=some (vI vU Y)∧∃Z,g.cell ⟨e,2,none⟩=some (vI wI Z)∧∃a0,g.cell ⟨e,3,none⟩=some (vI wI a0)∧∃a1,g.cell ⟨e,4,none⟩=some (vI wI a1)∧∃a2 a4 a3,g.cell ⟨e,5,none⟩=some (vS a2 a4 a3)∧∃a5 a7 a6,g.cell ⟨e,6,none⟩=some (vS a5 a7 a6)∧Za g ⟨b,0,none⟩ (vI vU X) fun c0=>
 Za c0 ⟨b,1,none⟩ (vI vU Y) fun c1=>
 Za c1 ⟨b,2,none⟩ (vI wI Z) fun c2=>
 Za c2 ⟨b,3,none⟩ (vI wI a0) fun c3=>
 Za c3 ⟨b,4,none⟩ (vI wI a1) fun c4=>
 Za c4 ⟨b,5,none⟩ (vS a2 a4 a3) fun c5=>
 Za c5 ⟨b,6,none⟩ (vS a5 a7 a6) fun h=>
 ∃q,h.cell ⟨b,0,none⟩=some (vI vU q)∧∃r,h.cell ⟨b,1,none⟩=some (vI vU r)∧∃s,h.cell ⟨b,2,none⟩=some (vI wI s)∧∃t,h.cell ⟨b,3,none⟩=some (vI wI t)∧∃u,h.cell ⟨b,4,none⟩=some (vI wI u)∧∃v x w,h.cell ⟨b,5,none⟩=some (vS v x w)∧∃y A z,h.cell ⟨b,6,none⟩=some (vS y A z)∧c6 (vA ⟨[(vI vU q),(vI vU r),(vI wI s),(vI wI t),(vI wI u),(vS v x w),(vS y A z)]⟩) h)
def Zbqd (c l:Nat) (f:Option Addr) (h g:Nat) (p:((Option Addr×Nat×Nat)×Int×Unit)->Heap->Prop) (i:Option Addr) (k j:Nat) (a:Int) (b:Heap) (e:((Option Addr×Nat×Nat)×Int×Unit)->Heap->Prop) (d:Value->Heap->Prop):Prop:=
 ∃n m o,b.cell ⟨c,6,none⟩=some (vS n m o)∧
 IfB (decide (a<(m:Int)))
 (Zse c l f h g i k j a e (decide (a<18)) b d)
 (Zse c l f h g i k j a e false b d)
def Zsd (d R:Nat) (j:Option Addr) (l k:Nat) (e:Int) (i:((Option Addr×Nat×Nat)×Int×Unit)->Heap->Prop) (M:Bool) (a:Heap) (J:Value->Heap->Prop):Prop:=
 IfB M
 (∃c:List Nat,(∀b∈c,∃L,a b=some L)∧
 d∈c∧∃m n N,a.cell ⟨d,5,none⟩=some (vS m n N)∧
 NilP m fun P=>
 InB e n fun O=>
 elemAt P O 2 fun o=>
 o.block∈c∧∃g,a.cell o=some (Value.string g)∧
 d∈c∧∃p q Q,a.cell ⟨d,5,none⟩=some (vS p q Q)∧
 NilP p fun T=>
 InB e q fun S=>
 elemAt T S 2 fun r=>
 r.block∈c∧∃s,a.cell r=some (Value.string s)∧
 InC (min (s.size:Int) 40) g.size fun U=>
 ∃t u V,a.cell ⟨d,5,none⟩=some (vS t u V)∧
 NilP t fun X=>
 InB e u fun W=>
 elemAt X W 2 fun v=>
 ∃w y x,a.cell ⟨v.block,v.off+1,none⟩=some (vS w y x)∧
 FnW wP Zpo ⟨[(vS w y x),(vI wI 4)]⟩ a fun Y h=>
 ∃z B A,Y=vS z B A∧
 Zch c a h∧NewW h (Obj.cells ⟨[(Value.string (ByteArray.extract g 0 U)),(vS z B A)]⟩ Zbu) fun Z G=>
 AppW wP #[Zfv,Zfv] Zfv [(vS j l k),(vS (some ⟨Z,0,none⟩) 1 1)] G fun a0 H=>
 ∃C E D,a0=vS C E D∧
 i ((C,E,D),((vW wI (e+1)),())) H)
 (NewW a (Obj.cells ⟨[]⟩ Zt) fun a1 I=>
 Zbl ((Option Addr×Nat×Nat)×Int×Unit) (((some ⟨a1,0,none⟩),0,0),(0,())) I fun f F K=>∀a2:Env,Zbqd d R j l k i f.1.1 f.1.2.1 f.1.2.2 f.2.1 F K J)
def Zbqc (c j:Nat) (f:Option Addr) (h g:Nat) (a:Int) (b:Heap) (e:((Option Addr×Nat×Nat)×Int×Unit)->Heap->Prop) (d:Value->Heap->Prop):Prop:=
 ∃k i l,b.cell ⟨c,5,none⟩=some (vS k i l)∧
 IfB (decide (a<(i:Int)))
 (Zsd c j f h g a e (decide (a<34)) b d)
 (Zsd c j f h g a e false b d)
def Zbqe (h i j k l:Int) (m:Option Addr) (o n:Nat) (p:Option Addr) (r q:Nat) (b:Heap) (f:Value->Heap->Prop):Prop:=
 NewW b (Obj.cells ⟨[(vI vU h),(vI vU i),(vI wI j),(vI wI k),(vI wI l),(vS m o n),(vS p r q)]⟩ Zz) fun s c=>
 NewW c (Obj.cells ⟨[(vI vU 0),(vI vU 0),(vI wI 0),(vI wI 0),(vI wI 0),(vS none 0 0),(vS none 0 0)]⟩ Zz) fun t d=>
 NewW d (Obj.cells ⟨[]⟩ Zbu) fun u e=>
 Zbl ((Option Addr×Nat×Nat)×Int×Unit) (((some ⟨u,0,none⟩),0,0),(0,())) e fun a b g=>∀v:Env,Zbqc s t a.1.1 a.1.2.1 a.1.2.2 a.2.1 b g f
theorem Zchq (d e f g h:Int) (i:Option Addr) (k j:Nat) (l:Option Addr) (n m:Nat) {a:Heap} {c:Value->Heap->Prop} (p:Zbqe d e f g h i k j l n m a fun q o=>∀b,Shut a o b->c q b):FnW wP Zbao ⟨[(vA ⟨[(vI vU d),(vI vU e),(vI wI f),(vI wI g),(vI wI h),(vS i k j),(vS l n m)]⟩)]⟩ a c:=Zk Tryz.func11 ⟨[(5,[0,1,2,3,4,5,6,7,8,9,10,11,12,13,14,15,16,17,18,19,20,21,22,23,24,25,26],[22,26,28,32])],[(3,[3,4],[.slice,.int wI],[1,2]),(8,[5,6],[.slice,.int wI],[1,2,3])],[],[]⟩ (by kernel_rfl) (by kernel_rfl) p
def Zoj (e3:Option Addr) (e4 f5:Nat) (k:Int) (m:Option Addr) (o n:Nat) (l:Int) (e5:((Option Addr×Nat×Nat)×Int×Unit)->Heap->Prop) (e7:Bool) (e:Heap) (e2:Value->Heap->Prop):Prop:=
 IfB e7
 (NilP e3 fun e9=>
 InB l e4 fun e8=>
 elemAt e9 e8 10 fun c=>
 ∃p,e.cell c=some (vI wI p)∧∃q,e.cell ⟨c.block,c.off+1,none⟩=some (vI wI q)∧∃r t s,e.cell ⟨c.block,c.off+2,none⟩=some (vS r t s)∧∃u,e.cell ⟨c.block,c.off+3,none⟩=some (vI vU u)∧∃v,e.cell ⟨c.block,c.off+4,none⟩=some (vI wI v)∧∃w,e.cell ⟨c.block,c.off+5,none⟩=some (vI wI w)∧∃x z y,e.cell ⟨c.block,c.off+6,none⟩=some (vS x z y)∧∃A C B,e.cell ⟨c.block,c.off+7,none⟩=some (vS A C B)∧∃D,e.cell ⟨c.block,c.off+8,none⟩=some (vI wI D)∧∃E,e.cell ⟨c.block,c.off+9,none⟩=some (vI wI E)∧NewW e (Obj.cells ⟨[(vI wI 0),(vI wI 0),(vS none 0 0),(vI vU 0),(vI wI 0),(vI wI 0),(vS none 0 0),(vS none 0 0),(vI wI 0),(vI wI 0)]⟩ Zq) fun a d6=>
 Za d6 ⟨a,0,none⟩ (vI wI p) fun d7=>
 Za d7 ⟨a,1,none⟩ (vI wI q) fun d8=>
 Za d8 ⟨a,2,none⟩ (vS r t s) fun d9=>
 Za d9 ⟨a,3,none⟩ (vI vU u) fun e0=>
 Za e0 ⟨a,4,none⟩ (vI wI v) fun e1=>
 Za e1 ⟨a,5,none⟩ (vI wI w) fun c4=>
 Za c4 ⟨a,6,none⟩ (vS x z y) fun c5=>
 Za c5 ⟨a,7,none⟩ (vS A C B) fun c6=>
 Za c6 ⟨a,8,none⟩ (vI wI D) fun c7=>
 Za c7 ⟨a,9,none⟩ (vI wI E) fun d=>
 ∃g:List Nat,(∀b∈g,∃e6,d b=some e6)∧
 ∃F,d.cell ⟨a,1,none⟩=some (vI wI F)∧∃G I H,d.cell ⟨a,2,none⟩=some (vS G I H)∧∃J,d.cell ⟨a,3,none⟩=some (vI vU J)∧∃K,d.cell ⟨a,4,none⟩=some (vI wI K)∧∃L,d.cell ⟨a,5,none⟩=some (vI wI L)∧a∈g∧∃T V U,d.cell ⟨a,6,none⟩=some (vS T V U)∧
 a∈g∧∃Z a1 a0,d.cell ⟨a,7,none⟩=some (vS Z a1 a0)∧
 FnW wP Ztr ⟨[(vA ⟨[(vI wI F),(vS G I H),(vI vU J),(vI wI K),(vI wI L)]⟩),(vI wI 5)]⟩ d fun f0 h=>
 ∃M,∃(N:Option Addr) (P O:Nat),∃Q:Int,∃R:Int,∃S:Int,f0=(vA ⟨[(vI wI M),(vS N P O),(vI vU Q),(vI wI R),(vI wI S)]⟩)∧
 Zch g d h∧FnW wP Zpo ⟨[(vS T V U),(vI wI (vW wI (k - 1)))]⟩ h fun f1 i=>
 ∃W Y X,f1=vS W Y X∧
 Zch g d i∧FnW wP Zpo ⟨[(vS Z a1 a0),(vI wI (vW wI (k - 1)))]⟩ i fun f2 j=>
 ∃a2 a4 a3,f2=vS a2 a4 a3∧
 Zch g d j∧Za j ⟨a,1,none⟩ (vI wI M) fun c8=>
 Za c8 ⟨a,2,none⟩ (vS N P O) fun c9=>
 Za c9 ⟨a,3,none⟩ (vI vU Q) fun d0=>
 Za d0 ⟨a,4,none⟩ (vI wI R) fun d1=>
 Za d1 ⟨a,5,none⟩ (vI wI S) fun d2=>
 Za d2 ⟨a,6,none⟩ (vS W Y X) fun d3=>
 Za d3 ⟨a,7,none⟩ (vS a2 a4 a3) fun f=>
 ∃a5,f.cell ⟨a,0,none⟩=some (vI wI a5)∧∃a6,f.cell ⟨a,1,none⟩=some (vI wI a6)∧∃a7 a9 a8,f.cell ⟨a,2,none⟩=some (vS a7 a9 a8)∧∃b0,f.cell ⟨a,3,none⟩=some (vI vU b0)∧∃b1,f.cell ⟨a,4,none⟩=some (vI wI b1)∧∃b2,f.cell ⟨a,5,none⟩=some (vI wI b2)∧∃b3 b5 b4,f.cell ⟨a,6,none⟩=some (vS b3 b5 b4)∧∃b6 b8 b7,f.cell ⟨a,7,none⟩=some (vS b6 b8 b7)∧∃b9,f.cell ⟨a,8,none⟩=some (vI wI b9)∧∃c0,f.cell ⟨a,9,none⟩=some (vI wI c0)∧NewW f (Obj.cells ⟨[(vI wI a5),(vI wI a6),(vS a7 a9 a8),(vI vU b0),(vI wI b1),(vI wI b2),(vS b3 b5 b4),(vS b6 b8 b7),(vI wI b9),(vI wI c0)]⟩ Zq) fun f3 d4=>
 AppW wP #[Zdd,Zdd] Zdd [(vS m o n),(vS (some ⟨f3,0,none⟩) 1 1)] d4 fun f4 d5=>
 ∃c1 c3 c2,f4=vS c1 c3 c2∧
 e5 ((c1,c3,c2),((vW wI (l+1)),())) d5)
 (e2 (vS m o n) e)
def Zbfa (f:Option Addr) (c g:Nat) (b:Int) (i:Option Addr) (k j:Nat) (a:Int) (d:Heap) (h:((Option Addr×Nat×Nat)×Int×Unit)->Heap->Prop) (e:Value->Heap->Prop):Prop:=
 IfB (decide (a<(c:Int)))
 (IfB (decide (a<5))
 (Zoj f c g b i k j a h (decide (b>0)) d e)
 (Zoj f c g b i k j a h false d e))
 (Zoj f c g b i k j a h false d e)
def Zbfb (f:Option Addr) (h g:Nat) (e:Int) (b:Heap) (d:Value->Heap->Prop):Prop:=
 NewW b (Obj.cells ⟨[]⟩ Zq) fun j c=>
 Zbl ((Option Addr×Nat×Nat)×Int×Unit) (((some ⟨j,0,none⟩),0,0),(0,())) c fun a b i=>∀k:Env,Zbfa f h g e a.1.1 a.1.2.1 a.1.2.2 a.2.1 b i d
theorem Zbqi (e:Option Addr) (g f:Nat) (d:Int) {a:Heap} {c:Value->Heap->Prop} (i:Zbfb e g f d a fun j h=>∀b,Shut a h b->c j b):FnW wP Zpo ⟨[(vS e g f),(vI wI d)]⟩ a c:=Zk Tryz.func20 ⟨[(6,[0,1,3,4,5,6,8,9,10,11,2,13,7,12,14,15,16,17,18],[31,36])],[(3,[5,6],[.slice,.int wI],[0,1])],[],[]⟩ (by kernel_rfl) (by kernel_rfl) i
def Zbsg (G H I J K:Int) (L:Option Addr) (N M:Nat) (O:Option Addr) (Q P:Nat) (R S T U V:Int) (W:Option Addr) (Y X:Nat) (Z:Option Addr) (a1 a0:Nat) (D:Heap) (b:Value->Heap->Prop):Prop:=
 NewW D (Obj.cells ⟨[(vI vU G),(vI vU H),(vI wI I),(vI wI J),(vI wI K),(vS L N M),(vS O Q P)]⟩ Zz) fun c E=>
 NewW E (Obj.cells ⟨[(vI vU R),(vI vU S),(vI wI T),(vI wI U),(vI wI V),(vS W Y X),(vS Z a1 a0)]⟩ Zz) fun d a=>
 ∃B,a.cell ⟨c,0,none⟩=some (vI vU B)∧
 ∃C,a.cell ⟨d,0,none⟩=some (vI vU C)∧
 IfB (B==C)
 (∃f,a.cell ⟨c,1,none⟩=some (vI vU f)∧
 ∃g,a.cell ⟨d,1,none⟩=some (vI vU g)∧
 IfB (f==g)
 (∃h,a.cell ⟨c,2,none⟩=some (vI wI h)∧
 ∃i,a.cell ⟨d,2,none⟩=some (vI wI i)∧
 IfB (h==i)
 (∃j,a.cell ⟨c,3,none⟩=some (vI wI j)∧
 ∃k,a.cell ⟨d,3,none⟩=some (vI wI k)∧
 IfB (j==k)
 (∃l,a.cell ⟨c,4,none⟩=some (vI wI l)∧
 ∃m,a.cell ⟨d,4,none⟩=some (vI wI m)∧
 IfB (l==m)
 (∃n p o,a.cell ⟨c,5,none⟩=some (vS n p o)∧
 ∃q s r,a.cell ⟨d,5,none⟩=some (vS q s r)∧
 FnW wP Zbat ⟨[(vS n p o),(vS q s r),(vF (.func 67) #[] #[])]⟩ a fun a2 e=>
 ∃t,a2=vB t∧
 IfB t
 (∃u w v,e.cell ⟨c,6,none⟩=some (vS u w v)∧
 ∃x z y,e.cell ⟨d,6,none⟩=some (vS x z y)∧
 FnW wP Zbau ⟨[(vS u w v),(vS x z y)]⟩ e fun a3 F=>
 ∃A,a3=vB A∧
 b (vB A) F)
 (b (vB false) e))
 (b (vB false) a))
 (b (vB false) a))
 (b (vB false) a))
 (b (vB false) a))
 (b (vB false) a)
theorem Zciz (d e f g h:Int) (i:Option Addr) (k j:Nat) (l:Option Addr) (n m:Nat) (o p q r s:Int) (t:Option Addr) (v u:Nat) (w:Option Addr) (y x:Nat) {a:Heap} {c:Value->Heap->Prop} (A:Zbsg d e f g h i k j l n m o p q r s t v u w y x a fun B z=>∀b,Shut a z b->c B b):FnW wP Zub ⟨[(vA ⟨[(vI vU d),(vI vU e),(vI wI f),(vI wI g),(vI wI h),(vS i k j),(vS l n m)]⟩),(vA ⟨[(vI vU o),(vI vU p),(vI wI q),(vI wI r),(vI wI s),(vS t v u),(vS w y x)]⟩)]⟩ a c:=Zk Tryz.func27 ⟨[],[],[],[]⟩ (by kernel_rfl) (by kernel_rfl) A
def Zbet (d a:Nat) (y:Option Addr) (A z:Nat) (w:Heap) (x:Value->Heap->Prop):Prop:=
 Za w ⟨d,1,none⟩ (vS y A z) fun b=>
 ∃l,b.cell ⟨d,0,none⟩=some (vI wI l)∧∃m o n,b.cell ⟨d,1,none⟩=some (vS m o n)∧∃p,b.cell ⟨d,2,none⟩=some (vI vU p)∧∃q,b.cell ⟨d,3,none⟩=some (vI wI q)∧∃r,b.cell ⟨d,4,none⟩=some (vI wI r)∧Za b ⟨a,0,none⟩ (vI wI l) fun s=>
 Za s ⟨a,1,none⟩ (vS m o n) fun t=>
 Za t ⟨a,2,none⟩ (vI vU p) fun u=>
 Za u ⟨a,3,none⟩ (vI wI q) fun v=>
 Za v ⟨a,4,none⟩ (vI wI r) fun c=>
 ∃e,c.cell ⟨a,0,none⟩=some (vI wI e)∧∃f h g,c.cell ⟨a,1,none⟩=some (vS f h g)∧∃i,c.cell ⟨a,2,none⟩=some (vI vU i)∧∃j,c.cell ⟨a,3,none⟩=some (vI wI j)∧∃k,c.cell ⟨a,4,none⟩=some (vI wI k)∧x (vA ⟨[(vI wI e),(vS f h g),(vI vU i),(vI wI j),(vI wI k)]⟩) c
def Zjy (E:Int) (c N:Nat) (e:Option Addr) (g f:Nat) (d:Int) (F:((Option Addr×Nat×Nat)×Int×Unit)->Heap->Prop) (G:Bool) (b:Heap) (D:Value->Heap->Prop):Prop:=
 IfB G
 (∃h i H,b.cell ⟨c,1,none⟩=some (vS h i H)∧
 NilP h fun J=>
 InB d i fun I=>
 elemAt J I 5 fun a=>
 ∃j,b.cell a=some (vI wI j)∧∃k m l,b.cell ⟨a.block,a.off+1,none⟩=some (vS k m l)∧∃n,b.cell ⟨a.block,a.off+2,none⟩=some (vI vU n)∧∃o,b.cell ⟨a.block,a.off+3,none⟩=some (vI wI o)∧∃p,b.cell ⟨a.block,a.off+4,none⟩=some (vI wI p)∧FnW wP Ztr ⟨[(vA ⟨[(vI wI j),(vS k m l),(vI vU n),(vI wI o),(vI wI p)]⟩),(vI wI (vW wI (E - 1)))]⟩ b fun K A=>
 ∃q,∃(r:Option Addr) (t s:Nat),∃u:Int,∃v:Int,∃w:Int,K=(vA ⟨[(vI wI q),(vS r t s),(vI vU u),(vI wI v),(vI wI w)]⟩)∧
 NewW A (Obj.cells ⟨[(vI wI q),(vS r t s),(vI vU u),(vI wI v),(vI wI w)]⟩ Zl) fun L B=>
 AppW wP #[Zeg,Zeg] Zeg [(vS e g f),(vS (some ⟨L,0,none⟩) 1 1)] B fun M C=>
 ∃x z y,M=vS x z y∧
 F ((x,z,y),((vW wI (d+1)),())) C)
 (Zbet c N e g f b D)
def Zbeu (d:Int) (c j:Nat) (f:Option Addr) (h g:Nat) (a:Int) (b:Heap) (i:((Option Addr×Nat×Nat)×Int×Unit)->Heap->Prop) (e:Value->Heap->Prop):Prop:=
 ∃l k m,b.cell ⟨c,1,none⟩=some (vS l k m)∧
 IfB (decide (a<(k:Int)))
 (IfB (decide (a<5))
 (Zjy d c j f h g a i (decide (d>0)) b e)
 (Zjy d c j f h g a i false b e))
 (Zjy d c j f h g a i false b e)
def Zbev (g:Int) (h:Option Addr) (j i:Nat) (k l m o:Int) (b:Heap) (f:Value->Heap->Prop):Prop:=
 NewW b (Obj.cells ⟨[(vI wI g),(vS h j i),(vI vU k),(vI wI l),(vI wI m)]⟩ Zl) fun n c=>
 NewW c (Obj.cells ⟨[(vI wI 0),(vS none 0 0),(vI vU 0),(vI wI 0),(vI wI 0)]⟩ Zl) fun q d=>
 NewW d (Obj.cells ⟨[]⟩ Zl) fun r e=>
 Zbl ((Option Addr×Nat×Nat)×Int×Unit) (((some ⟨r,0,none⟩),0,0),(0,())) e fun a b p=>∀s:Env,Zbeu o n q a.1.1 a.1.2.1 a.1.2.2 a.2.1 b p f
theorem Zbpu (d:Int) (e:Option Addr) (g f:Nat) (h i j k:Int) {a:Heap} {c:Value->Heap->Prop} (m:Zbev d e g f h i j k a fun n l=>∀b,Shut a l b->c n b):FnW wP Ztr ⟨[(vA ⟨[(vI wI d),(vS e g f),(vI vU h),(vI wI i),(vI wI j)]⟩),(vI wI k)]⟩ a c:=Zk Tryz.func59 ⟨[],[(3,[5,6],[.slice,.int wI],[1,2,4])],[],[]⟩ (by kernel_rfl) (by kernel_rfl) m
def Zbsl (J:Option Addr) (K R:Nat) (G:FuncId) (I:Option Addr) (k Q:Nat) (e:Int) (b:Heap) (H:(Int×Unit)->Heap->Prop) (j:Value->Heap->Prop):Prop:=
 IfB (decide (e<(k:Int)))
 (NilP I fun M=>
 InB e k fun L=>
 elemAt M L 2 fun g=>
 ∃l,b.cell g=some (Value.string l)∧∃m o n,b.cell ⟨g.block,g.off+1,none⟩=some (vS m o n)∧NewW b (Obj.cells ⟨[(Value.string (ByteArray.mk #[])),(vS none 0 0)]⟩ Zbu) fun c C=>
 Za C ⟨c,0,none⟩ (Value.string l) fun D=>
 Za D ⟨c,1,none⟩ (vS m o n) fun f=>
 NilP J fun O=>
 InB e K fun N=>
 elemAt O N 2 fun h=>
 ∃p,f.cell h=some (Value.string p)∧∃q s r,f.cell ⟨h.block,h.off+1,none⟩=some (vS q s r)∧NewW f (Obj.cells ⟨[(Value.string (ByteArray.mk #[])),(vS none 0 0)]⟩ Zbu) fun d E=>
 Za E ⟨d,0,none⟩ (Value.string p) fun F=>
 Za F ⟨d,1,none⟩ (vS q s r) fun a=>
 ∃t,a.cell ⟨c,0,none⟩=some (Value.string t)∧∃u w v,a.cell ⟨c,1,none⟩=some (vS u w v)∧∃x,a.cell ⟨d,0,none⟩=some (Value.string x)∧∃y A z,a.cell ⟨d,1,none⟩=some (vS y A z)∧FnW wP G ⟨[(vA ⟨[(Value.string t),(vS u w v)]⟩),(vA ⟨[(Value.string x),(vS y A z)]⟩)]⟩ a fun P i=>
 ∃B,P=vB B∧
 IfB (!B)
 (j (vB false) i)
 (H ((vW wI (e+1)),()) i))
 (j (vB true) b)
def Zbsm (g:Option Addr) (c h:Nat) (i:Option Addr) (d j:Nat) (e:FuncId) (a:Heap) (b:Value->Heap->Prop):Prop:=
 IfB (((c:Int):Int) !=(d:Int))
 (b (vB false) a)
 (Zbl (Int×Unit) (0,()) a fun k a f=>∀l:Env,Zbsl i d j e g c h k.1 a f b)
theorem Zcjd (e:Option Addr) (g f:Nat) (h:Option Addr) (j i:Nat) (d:FuncId) {a:Heap} {c:Value->Heap->Prop} (l:Zbsm e g f h j i d a fun m k=>∀b,Shut a k b->c m b):FnW wP Zbat ⟨[(vS e g f),(vS h j i),(vF (.func d) #[] #[])]⟩ a c:=Zk Tryz.func66 ⟨[],[(4,[17],[.int wI],[1,2,15,16])],[],[]⟩ (by kernel_rfl) (by kernel_rfl) l
def Zbtl (q:ByteArray) (r:Option Addr) (t s:Nat) (u:ByteArray) (v:Option Addr) (x w:Nat) (n:Heap) (b:Value->Heap->Prop):Prop:=
 NewW n (Obj.cells ⟨[(Value.string q),(vS r t s)]⟩ Zbu) fun c o=>
 NewW o (Obj.cells ⟨[(Value.string u),(vS v x w)]⟩ Zbu) fun d a=>
 ∃l,a.cell ⟨c,0,none⟩=some (Value.string l)∧
 ∃m,a.cell ⟨d,0,none⟩=some (Value.string m)∧
 IfB (l.toList==m.toList)
 (∃e g f,a.cell ⟨c,1,none⟩=some (vS e g f)∧
 ∃h j i,a.cell ⟨d,1,none⟩=some (vS h j i)∧
 FnW wP Zpv ⟨[(vS e g f),(vS h j i),(vF (.func 104) #[] #[])]⟩ a fun y p=>
 ∃k,y=vB k∧
 b (vB k) p)
 (b (vB false) a)
theorem Zcjz (d:ByteArray) (e:Option Addr) (g f:Nat) (h:ByteArray) (i:Option Addr) (k j:Nat) {a:Heap} {c:Value->Heap->Prop} (m:Zbtl d e g f h i k j a fun n l=>∀b,Shut a l b->c n b):FnW wP Zbih ⟨[(vA ⟨[(Value.string d),(vS e g f)]⟩),(vA ⟨[(Value.string h),(vS i k j)]⟩)]⟩ a c:=Zk Tryz.func67 ⟨[],[],[],[]⟩ (by kernel_rfl) (by kernel_rfl) m
def Zbsn (v:Option Addr) (f C:Nat) (w:Option Addr) (x D:Nat) (d:Int) (a:Heap) (u:(Int×Unit)->Heap->Prop) (e:Value->Heap->Prop):Prop:=
 IfB (decide (d<(f:Int)))
 (NilP v fun z=>
 InB d f fun y=>
 elemAt z y 7 fun b=>
 ∃g,a.cell b=some (Value.string g)∧∃h,a.cell ⟨b.block,b.off+1,none⟩=some (vI vU h)∧∃i,a.cell ⟨b.block,b.off+2,none⟩=some (vI vU i)∧∃j,a.cell ⟨b.block,b.off+3,none⟩=some (vB j)∧∃k,a.cell ⟨b.block,b.off+4,none⟩=some (vI wI k)∧∃l,a.cell ⟨b.block,b.off+5,none⟩=some (Value.string l)∧∃m,a.cell ⟨b.block,b.off+6,none⟩=some (Value.string m)∧NilP w fun B=>
 InB d x fun A=>
 elemAt B A 7 fun c=>
 ∃n,a.cell c=some (Value.string n)∧∃o,a.cell ⟨c.block,c.off+1,none⟩=some (vI vU o)∧∃p,a.cell ⟨c.block,c.off+2,none⟩=some (vI vU p)∧∃q,a.cell ⟨c.block,c.off+3,none⟩=some (vB q)∧∃r,a.cell ⟨c.block,c.off+4,none⟩=some (vI wI r)∧∃s,a.cell ⟨c.block,c.off+5,none⟩=some (Value.string s)∧∃t,a.cell ⟨c.block,c.off+6,none⟩=some (Value.string t)∧Program.eqGuardType wP (Program.depth wP) Zt=false∧
 IfB (!((g==n)&&((h==o)&&((i==p)&&((j==q)&&((k==r)&&((l==s)&&((m==t)&&true))))))))
 (e (vB false) a)
 (u ((vW wI (d+1)),()) a))
 (e (vB true) a)
def Zbso (f:Option Addr) (c g:Nat) (h:Option Addr) (d i:Nat) (a:Heap) (b:Value->Heap->Prop):Prop:=
 IfB (((c:Int):Int) !=(d:Int))
 (b (vB false) a)
 (Zbl (Int×Unit) (0,()) a fun j a e=>∀k:Env,Zbsn f c g h d i j.1 a e b)
theorem Zcje (d:Option Addr) (f e:Nat) (g:Option Addr) (i h:Nat) {a:Heap} {c:Value->Heap->Prop} (k:Zbso d f e g i h a fun l j=>∀b,Shut a j b->c l b):FnW wP Zbau ⟨[(vS d f e),(vS g i h)]⟩ a c:=Zk Tryz.func68 ⟨[],[(4,[13],[.int wI],[0,1,12])],[],[]⟩ (by kernel_rfl) (by kernel_rfl) k
def Zbsc (e7:Option Addr) (e8 f5:Nat) (e4:FuncId) (e6:Option Addr) (k f4:Nat) (h:Int) (f:Heap) (e5:(Int×Unit)->Heap->Prop) (j:Value->Heap->Prop):Prop:=
 IfB (decide (h<(k:Int)))
 (NilP e6 fun f0=>
 InB h k fun e9=>
 elemAt f0 e9 10 fun d=>
 ∃l,f.cell d=some (vI wI l)∧∃m,f.cell ⟨d.block,d.off+1,none⟩=some (vI wI m)∧∃n p o,f.cell ⟨d.block,d.off+2,none⟩=some (vS n p o)∧∃q,f.cell ⟨d.block,d.off+3,none⟩=some (vI vU q)∧∃r,f.cell ⟨d.block,d.off+4,none⟩=some (vI wI r)∧∃s,f.cell ⟨d.block,d.off+5,none⟩=some (vI wI s)∧∃t v u,f.cell ⟨d.block,d.off+6,none⟩=some (vS t v u)∧∃w y x,f.cell ⟨d.block,d.off+7,none⟩=some (vS w y x)∧∃z,f.cell ⟨d.block,d.off+8,none⟩=some (vI wI z)∧∃A,f.cell ⟨d.block,d.off+9,none⟩=some (vI wI A)∧NewW f (Obj.cells ⟨[(vI wI 0),(vI wI 0),(vS none 0 0),(vI vU 0),(vI wI 0),(vI wI 0),(vS none 0 0),(vS none 0 0),(vI wI 0),(vI wI 0)]⟩ Zq) fun b d3=>
 Za d3 ⟨b,0,none⟩ (vI wI l) fun d7=>
 Za d7 ⟨b,1,none⟩ (vI wI m) fun d8=>
 Za d8 ⟨b,2,none⟩ (vS n p o) fun d9=>
 Za d9 ⟨b,3,none⟩ (vI vU q) fun e0=>
 Za e0 ⟨b,4,none⟩ (vI wI r) fun e1=>
 Za e1 ⟨b,5,none⟩ (vI wI s) fun e2=>
 Za e2 ⟨b,6,none⟩ (vS t v u) fun e3=>
 Za e3 ⟨b,7,none⟩ (vS w y x) fun c4=>
 Za c4 ⟨b,8,none⟩ (vI wI z) fun c5=>
 Za c5 ⟨b,9,none⟩ (vI wI A) fun g=>
 NilP e7 fun f2=>
 InB h e8 fun f1=>
 elemAt f2 f1 10 fun e=>
 ∃B,g.cell e=some (vI wI B)∧∃C,g.cell ⟨e.block,e.off+1,none⟩=some (vI wI C)∧∃D F E,g.cell ⟨e.block,e.off+2,none⟩=some (vS D F E)∧∃G,g.cell ⟨e.block,e.off+3,none⟩=some (vI vU G)∧∃H,g.cell ⟨e.block,e.off+4,none⟩=some (vI wI H)∧∃I,g.cell ⟨e.block,e.off+5,none⟩=some (vI wI I)∧∃J L K,g.cell ⟨e.block,e.off+6,none⟩=some (vS J L K)∧∃M O N,g.cell ⟨e.block,e.off+7,none⟩=some (vS M O N)∧∃P,g.cell ⟨e.block,e.off+8,none⟩=some (vI wI P)∧∃Q,g.cell ⟨e.block,e.off+9,none⟩=some (vI wI Q)∧NewW g (Obj.cells ⟨[(vI wI 0),(vI wI 0),(vS none 0 0),(vI vU 0),(vI wI 0),(vI wI 0),(vS none 0 0),(vS none 0 0),(vI wI 0),(vI wI 0)]⟩ Zq) fun c c6=>
 Za c6 ⟨c,0,none⟩ (vI wI B) fun c7=>
 Za c7 ⟨c,1,none⟩ (vI wI C) fun c8=>
 Za c8 ⟨c,2,none⟩ (vS D F E) fun c9=>
 Za c9 ⟨c,3,none⟩ (vI vU G) fun d0=>
 Za d0 ⟨c,4,none⟩ (vI wI H) fun d1=>
 Za d1 ⟨c,5,none⟩ (vI wI I) fun d2=>
 Za d2 ⟨c,6,none⟩ (vS J L K) fun d4=>
 Za d4 ⟨c,7,none⟩ (vS M O N) fun d5=>
 Za d5 ⟨c,8,none⟩ (vI wI P) fun d6=>
 Za d6 ⟨c,9,none⟩ (vI wI Q) fun a=>
 ∃R,a.cell ⟨b,0,none⟩=some (vI wI R)∧∃S,a.cell ⟨b,1,none⟩=some (vI wI S)∧∃T V U,a.cell ⟨b,2,none⟩=some (vS T V U)∧∃W,a.cell ⟨b,3,none⟩=some (vI vU W)∧∃X,a.cell ⟨b,4,none⟩=some (vI wI X)∧∃Y,a.cell ⟨b,5,none⟩=some (vI wI Y)∧∃Z a1 a0,a.cell ⟨b,6,none⟩=some (vS Z a1 a0)∧∃a2 a4 a3,a.cell ⟨b,7,none⟩=some (vS a2 a4 a3)∧∃a5,a.cell ⟨b,8,none⟩=some (vI wI a5)∧∃a6,a.cell ⟨b,9,none⟩=some (vI wI a6)∧∃a7,a.cell ⟨c,0,none⟩=some (vI wI a7)∧∃a8,a.cell ⟨c,1,none⟩=some (vI wI a8)∧∃a9 b1 b0,a.cell ⟨c,2,none⟩=some (vS a9 b1 b0)∧∃b2,a.cell ⟨c,3,none⟩=some (vI vU b2)∧∃b3,a.cell ⟨c,4,none⟩=some (vI wI b3)∧∃b4,a.cell ⟨c,5,none⟩=some (vI wI b4)∧∃b5 b7 b6,a.cell ⟨c,6,none⟩=some (vS b5 b7 b6)∧∃b8 c0 b9,a.cell ⟨c,7,none⟩=some (vS b8 c0 b9)∧∃c1,a.cell ⟨c,8,none⟩=some (vI wI c1)∧∃c2,a.cell ⟨c,9,none⟩=some (vI wI c2)∧FnW wP e4 ⟨[(vA ⟨[(vI wI R),(vI wI S),(vS T V U),(vI vU W),(vI wI X),(vI wI Y),(vS Z a1 a0),(vS a2 a4 a3),(vI wI a5),(vI wI a6)]⟩),(vA ⟨[(vI wI a7),(vI wI a8),(vS a9 b1 b0),(vI vU b2),(vI wI b3),(vI wI b4),(vS b5 b7 b6),(vS b8 c0 b9),(vI wI c1),(vI wI c2)]⟩)]⟩ a fun f3 i=>
 ∃c3,f3=vB c3∧
 IfB (!c3)
 (j (vB false) i)
 (e5 ((vW wI (h+1)),()) i))
 (j (vB true) f)
def Zbsd (g:Option Addr) (c h:Nat) (i:Option Addr) (d j:Nat) (e:FuncId) (a:Heap) (b:Value->Heap->Prop):Prop:=
 IfB (((c:Int):Int) !=(d:Int))
 (b (vB false) a)
 (Zbl (Int×Unit) (0,()) a fun k a f=>∀l:Env,Zbsc i d j e g c h k.1 a f b)
theorem Zciv (e:Option Addr) (g f:Nat) (h:Option Addr) (j i:Nat) (d:FuncId) {a:Heap} {c:Value->Heap->Prop} (l:Zbsd e g f h j i d a fun m k=>∀b,Shut a k b->c m b):FnW wP Zpv ⟨[(vS e g f),(vS h j i),(vF (.func d) #[] #[])]⟩ a c:=Zk Tryz.func103 ⟨[],[(4,[17],[.int wI],[1,2,15,16])],[],[]⟩ (by kernel_rfl) (by kernel_rfl) l
def Zbtd (S T:Int) (U:Option Addr) (W V:Nat) (X Y Z:Int) (a0:Option Addr) (a2 a1:Nat) (a3:Option Addr) (a5 a4:Nat) (a6 a7 a8 a9:Int) (b0:Option Addr) (b2 b1:Nat) (b3 b4 b5:Int) (b6:Option Addr) (b8 b7:Nat) (b9:Option Addr) (c1 c0:Nat) (c2 c3:Int) (P:Heap) (d:Value->Heap->Prop):Prop:=
 NewW P (Obj.cells ⟨[(vI wI S),(vI wI T),(vS U W V),(vI vU X),(vI wI Y),(vI wI Z),(vS a0 a2 a1),(vS a3 a5 a4),(vI wI a6),(vI wI a7)]⟩ Zq) fun b Q=>
 NewW Q (Obj.cells ⟨[(vI wI a8),(vI wI a9),(vS b0 b2 b1),(vI vU b3),(vI wI b4),(vI wI b5),(vS b6 b8 b7),(vS b9 c1 c0),(vI wI c2),(vI wI c3)]⟩ Zq) fun c a=>
 ∃N,a.cell ⟨b,0,none⟩=some (vI wI N)∧
 ∃O,a.cell ⟨c,0,none⟩=some (vI wI O)∧
 IfB (N==O)
 (∃g,a.cell ⟨b,8,none⟩=some (vI wI g)∧
 ∃h,a.cell ⟨c,8,none⟩=some (vI wI h)∧
 IfB (g==h)
 (∃i,a.cell ⟨b,9,none⟩=some (vI wI i)∧
 ∃j,a.cell ⟨c,9,none⟩=some (vI wI j)∧
 IfB (i==j)
 (∃k,a.cell ⟨b,1,none⟩=some (vI wI k)∧∃l n m,a.cell ⟨b,2,none⟩=some (vS l n m)∧∃o,a.cell ⟨b,3,none⟩=some (vI vU o)∧∃p,a.cell ⟨b,4,none⟩=some (vI wI p)∧∃q,a.cell ⟨b,5,none⟩=some (vI wI q)∧∃r,a.cell ⟨c,1,none⟩=some (vI wI r)∧∃s u t,a.cell ⟨c,2,none⟩=some (vS s u t)∧∃v,a.cell ⟨c,3,none⟩=some (vI vU v)∧∃w,a.cell ⟨c,4,none⟩=some (vI wI w)∧∃x,a.cell ⟨c,5,none⟩=some (vI wI x)∧FnW wP Zqa ⟨[(vA ⟨[(vI wI k),(vS l n m),(vI vU o),(vI wI p),(vI wI q)]⟩),(vA ⟨[(vI wI r),(vS s u t),(vI vU v),(vI wI w),(vI wI x)]⟩)]⟩ a fun c4 e=>
 ∃y,c4=vB y∧
 IfB y
 (∃z B A,e.cell ⟨b,6,none⟩=some (vS z B A)∧
 ∃C E D,e.cell ⟨c,6,none⟩=some (vS C E D)∧
 FnW wP Zpv ⟨[(vS z B A),(vS C E D),(vF (.func 104) #[] #[])]⟩ e fun c5 f=>
 ∃F,c5=vB F∧
 IfB F
 (∃G I H,f.cell ⟨b,7,none⟩=some (vS G I H)∧
 ∃J L K,f.cell ⟨c,7,none⟩=some (vS J L K)∧
 FnW wP Zpv ⟨[(vS G I H),(vS J L K),(vF (.func 104) #[] #[])]⟩ f fun c6 R=>
 ∃M,c6=vB M∧
 d (vB M) R)
 (d (vB false) f))
 (d (vB false) e))
 (d (vB false) a))
 (d (vB false) a))
 (d (vB false) a)
theorem Zcjr (d e:Int) (f:Option Addr) (h g:Nat) (i j k:Int) (l:Option Addr) (n m:Nat) (o:Option Addr) (q p:Nat) (r s t u:Int) (v:Option Addr) (x w:Nat) (y z A:Int) (B:Option Addr) (D C:Nat) (E:Option Addr) (G F:Nat) (H I:Int) {a:Heap} {c:Value->Heap->Prop} (K:Zbtd d e f h g i j k l n m o q p r s t u v x w y z A B D C E G F H I a fun L J=>∀b,Shut a J b->c L b):FnW wP Zud ⟨[(vA ⟨[(vI wI d),(vI wI e),(vS f h g),(vI vU i),(vI wI j),(vI wI k),(vS l n m),(vS o q p),(vI wI r),(vI wI s)]⟩),(vA ⟨[(vI wI t),(vI wI u),(vS v x w),(vI vU y),(vI wI z),(vI wI A),(vS B D C),(vS E G F),(vI wI H),(vI wI I)]⟩)]⟩ a c:=Zk Tryz.func104 ⟨[],[],[],[]⟩ (by kernel_rfl) (by kernel_rfl) K
def Zbsy (w:Int) (x:Option Addr) (z y:Nat) (A B C D:Int) (E:Option Addr) (G F:Nat) (H I J:Int) (t:Heap) (d:Value->Heap->Prop):Prop:=
 NewW t (Obj.cells ⟨[(vI wI w),(vS x z y),(vI vU A),(vI wI B),(vI wI C)]⟩ Zl) fun b u=>
 NewW u (Obj.cells ⟨[(vI wI D),(vS E G F),(vI vU H),(vI wI I),(vI wI J)]⟩ Zl) fun c a=>
 ∃r,a.cell ⟨b,0,none⟩=some (vI wI r)∧
 ∃s,a.cell ⟨c,0,none⟩=some (vI wI s)∧
 IfB (r==s)
 (∃e,a.cell ⟨b,2,none⟩=some (vI vU e)∧∃f,a.cell ⟨b,3,none⟩=some (vI wI f)∧∃g,a.cell ⟨c,2,none⟩=some (vI vU g)∧∃h,a.cell ⟨c,3,none⟩=some (vI wI h)∧Program.eqGuardType wP (Program.depth wP) Zkg=false∧
 IfB ((e==g)&&((f==h)&&true))
 (∃i,a.cell ⟨b,4,none⟩=some (vI wI i)∧
 ∃j,a.cell ⟨c,4,none⟩=some (vI wI j)∧
 IfB (i==j)
 (∃k m l,a.cell ⟨b,1,none⟩=some (vS k m l)∧
 ∃n p o,a.cell ⟨c,1,none⟩=some (vS n p o)∧
 FnW wP Zbav ⟨[(vS k m l),(vS n p o),(vF (.func 136) #[] #[])]⟩ a fun K v=>
 ∃q,K=vB q∧
 d (vB q) v)
 (d (vB false) a))
 (d (vB false) a))
 (d (vB false) a)
theorem Zcjm (d:Int) (e:Option Addr) (g f:Nat) (h i j k:Int) (l:Option Addr) (n m:Nat) (o p q:Int) {a:Heap} {c:Value->Heap->Prop} (s:Zbsy d e g f h i j k l n m o p q a fun t r=>∀b,Shut a r b->c t b):FnW wP Zqa ⟨[(vA ⟨[(vI wI d),(vS e g f),(vI vU h),(vI wI i),(vI wI j)]⟩),(vA ⟨[(vI wI k),(vS l n m),(vI vU o),(vI wI p),(vI wI q)]⟩)]⟩ a c:=Zk Tryz.func136 ⟨[],[],[],[]⟩ (by kernel_rfl) (by kernel_rfl) s
def Zbsp (a1:Option Addr) (a2 a9:Nat) (Y:FuncId) (a0:Option Addr) (k a8:Nat) (h:Int) (f:Heap) (Z:(Int×Unit)->Heap->Prop) (j:Value->Heap->Prop):Prop:=
 IfB (decide (h<(k:Int)))
 (NilP a0 fun a4=>
 InB h k fun a3=>
 elemAt a4 a3 5 fun d=>
 ∃l,f.cell d=some (vI wI l)∧∃m o n,f.cell ⟨d.block,d.off+1,none⟩=some (vS m o n)∧∃p,f.cell ⟨d.block,d.off+2,none⟩=some (vI vU p)∧∃q,f.cell ⟨d.block,d.off+3,none⟩=some (vI wI q)∧∃r,f.cell ⟨d.block,d.off+4,none⟩=some (vI wI r)∧NewW f (Obj.cells ⟨[(vI wI 0),(vS none 0 0),(vI vU 0),(vI wI 0),(vI wI 0)]⟩ Zl) fun b R=>
 Za R ⟨b,0,none⟩ (vI wI l) fun S=>
 Za S ⟨b,1,none⟩ (vS m o n) fun T=>
 Za T ⟨b,2,none⟩ (vI vU p) fun U=>
 Za U ⟨b,3,none⟩ (vI wI q) fun V=>
 Za V ⟨b,4,none⟩ (vI wI r) fun g=>
 NilP a1 fun a6=>
 InB h a2 fun a5=>
 elemAt a6 a5 5 fun e=>
 ∃s,g.cell e=some (vI wI s)∧∃t v u,g.cell ⟨e.block,e.off+1,none⟩=some (vS t v u)∧∃w,g.cell ⟨e.block,e.off+2,none⟩=some (vI vU w)∧∃x,g.cell ⟨e.block,e.off+3,none⟩=some (vI wI x)∧∃y,g.cell ⟨e.block,e.off+4,none⟩=some (vI wI y)∧NewW g (Obj.cells ⟨[(vI wI 0),(vS none 0 0),(vI vU 0),(vI wI 0),(vI wI 0)]⟩ Zl) fun c W=>
 Za W ⟨c,0,none⟩ (vI wI s) fun X=>
 Za X ⟨c,1,none⟩ (vS t v u) fun O=>
 Za O ⟨c,2,none⟩ (vI vU w) fun P=>
 Za P ⟨c,3,none⟩ (vI wI x) fun Q=>
 Za Q ⟨c,4,none⟩ (vI wI y) fun a=>
 ∃z,a.cell ⟨b,0,none⟩=some (vI wI z)∧∃A C B,a.cell ⟨b,1,none⟩=some (vS A C B)∧∃D,a.cell ⟨b,2,none⟩=some (vI vU D)∧∃E,a.cell ⟨b,3,none⟩=some (vI wI E)∧∃F,a.cell ⟨b,4,none⟩=some (vI wI F)∧∃G,a.cell ⟨c,0,none⟩=some (vI wI G)∧∃H J I,a.cell ⟨c,1,none⟩=some (vS H J I)∧∃K,a.cell ⟨c,2,none⟩=some (vI vU K)∧∃L,a.cell ⟨c,3,none⟩=some (vI wI L)∧∃M,a.cell ⟨c,4,none⟩=some (vI wI M)∧FnW wP Y ⟨[(vA ⟨[(vI wI z),(vS A C B),(vI vU D),(vI wI E),(vI wI F)]⟩),(vA ⟨[(vI wI G),(vS H J I),(vI vU K),(vI wI L),(vI wI M)]⟩)]⟩ a fun a7 i=>
 ∃N,a7=vB N∧
 IfB (!N)
 (j (vB false) i)
 (Z ((vW wI (h+1)),()) i))
 (j (vB true) f)
def Zbsq (g:Option Addr) (c h:Nat) (i:Option Addr) (d j:Nat) (e:FuncId) (a:Heap) (b:Value->Heap->Prop):Prop:=
 IfB (((c:Int):Int) !=(d:Int))
 (b (vB false) a)
 (Zbl (Int×Unit) (0,()) a fun k a f=>∀l:Env,Zbsp i d j e g c h k.1 a f b)
theorem Zcjf (e:Option Addr) (g f:Nat) (h:Option Addr) (j i:Nat) (d:FuncId) {a:Heap} {c:Value->Heap->Prop} (l:Zbsq e g f h j i d a fun m k=>∀b,Shut a k b->c m b):FnW wP Zbav ⟨[(vS e g f),(vS h j i),(vF (.func d) #[] #[])]⟩ a c:=Zk Tryz.func160 ⟨[],[(4,[17],[.int wI],[1,2,15,16])],[],[]⟩ (by kernel_rfl) (by kernel_rfl) l
end Go.Proofs.YtlkdgfolbllngaaGreatDoor
end
section
set_option maxRecDepth 100000
namespace Go.Proofs.YtlkdgfolbllngaaGreatDoor
open Go.Sh
open Value renaming int -> vI, slice -> vS, pointer -> vP, bool -> vB, tuple -> vT, agg -> vA, func -> vF
open IntKind renaming wrap -> vW, i64 -> wI, u32 -> vU
open Go.Proofs.Tryz renaming prog -> wP
end Go.Proofs.YtlkdgfolbllngaaGreatDoor
end
