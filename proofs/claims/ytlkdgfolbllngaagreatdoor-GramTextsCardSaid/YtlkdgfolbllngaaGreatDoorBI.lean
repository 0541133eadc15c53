/-
 SOME FUNCTIONS IN PLAIN LOGIC:printed by a program of ours over this translation.
-/
import Derived.Test.YtlkdgfolbllngaaGreatDoorBA
import Derived.Test.YtlkdgfolbllngaaGreatDoorRows
set_option linter.all false
section
set_option maxRecDepth 100000
namespace Go.Proofs.YtlkdgfolbllngaaGreatDoor
open Go.Sh
open Value renaming int -> vI, slice -> vS, pointer -> vP, bool -> vB, tuple -> vT, agg -> vA, func -> vF
open IntKind renaming wrap -> vW, i64 -> wI, u32 -> vU
open Go.Proofs.Tryz renaming prog -> wP
def Ztf (a:Nat) (a9:Option Addr) (b1 b0:Nat) (a5:Int) (f e:Nat) (a4:(Unit)->Heap->Prop) (a6:Bool) (b:Heap) (g:Value->Heap->Prop):Prop:=
 IfB a6
 (FnW wP Zbbz ⟨[(vP (some ⟨f,0,none⟩)),(vP (some ⟨e,0,none⟩))]⟩ b fun a7 Q=>
 a7=vT ⟨[]⟩∧
 a4 () Q)
 (∃D,b.cell ⟨f,3,none⟩=some (vB D)∧
 IfB D
 (FnW wP Zbcf ⟨[(vP (some ⟨f,0,none⟩))]⟩ b fun a8 R=>
 ∃E,a8=vI wI E∧
 Za R ⟨a,0,none⟩ (vI vU 0) fun S=>
 Za S ⟨a,1,none⟩ (vI vU 0) fun T=>
 Za T ⟨a,2,none⟩ (vI wI 0) fun U=>
 Za U ⟨a,3,none⟩ (vI wI 0) fun V=>
 Za V ⟨a,4,none⟩ (vI wI 0) fun W=>
 Za W ⟨a,5,none⟩ (vS none 0 0) fun X=>
 Za X ⟨a,6,none⟩ (vS none 0 0) fun c=>
 ∃h,c.cell ⟨a,0,none⟩=some (vI vU h)∧∃j,c.cell ⟨a,1,none⟩=some (vI vU j)∧∃l,c.cell ⟨a,2,none⟩=some (vI wI l)∧∃n,c.cell ⟨a,3,none⟩=some (vI wI n)∧∃p,c.cell ⟨a,4,none⟩=some (vI wI p)∧∃r v t,c.cell ⟨a,5,none⟩=some (vS r v t)∧∃x B z,c.cell ⟨a,6,none⟩=some (vS x B z)∧g (vT ⟨[(vA ⟨[(vI vU h),(vI vU j),(vI wI l),(vI wI n),(vI wI p),(vS r v t),(vS x B z)]⟩),(vI wI E),(vI wI 250)]⟩) c)
 (∃F,b.cell ⟨e,0,none⟩=some (vI vU F)∧∃G,b.cell ⟨e,1,none⟩=some (vI vU G)∧∃H,b.cell ⟨e,2,none⟩=some (vI wI H)∧∃I,b.cell ⟨e,3,none⟩=some (vI wI I)∧∃J,b.cell ⟨e,4,none⟩=some (vI wI J)∧∃K M L,b.cell ⟨e,5,none⟩=some (vS K M L)∧∃N P O,b.cell ⟨e,6,none⟩=some (vS N P O)∧Za b ⟨a,0,none⟩ (vI vU F) fun Y=>
 Za Y ⟨a,1,none⟩ (vI vU G) fun Z=>
 Za Z ⟨a,2,none⟩ (vI wI H) fun a0=>
 Za a0 ⟨a,3,none⟩ (vI wI I) fun a1=>
 Za a1 ⟨a,4,none⟩ (vI wI J) fun a2=>
 Za a2 ⟨a,5,none⟩ (vS K M L) fun a3=>
 Za a3 ⟨a,6,none⟩ (vS N P O) fun d=>
 ∃i,d.cell ⟨a,0,none⟩=some (vI vU i)∧∃k,d.cell ⟨a,1,none⟩=some (vI vU k)∧∃m,d.cell ⟨a,2,none⟩=some (vI wI m)∧∃o,d.cell ⟨a,3,none⟩=some (vI wI o)∧∃q,d.cell ⟨a,4,none⟩=some (vI wI q)∧∃s w u,d.cell ⟨a,5,none⟩=some (vS s w u)∧∃y C A,d.cell ⟨a,6,none⟩=some (vS y C A)∧g (vT ⟨[(vA ⟨[(vI vU i),(vI vU k),(vI wI m),(vI wI o),(vI wI q),(vS s w u),(vS y C A)]⟩),(vI wI 0),(vI wI a5)]⟩) d))
def Zbsz (k:Nat) (g:Option Addr) (c h:Nat) (i:Int) (b f:Nat) (a:Heap) (e:(Unit)->Heap->Prop) (d:Value->Heap->Prop):Prop:=
 ∃j,a.cell ⟨b,3,none⟩=some (vB j)∧
 IfB (!j)
 (∃l,a.cell ⟨b,1,none⟩=some (vI wI l)∧
 Ztf k g c h i b f e (decide (l<(c:Int))) a d)
 (Ztf k g c h i b f e false a d)
def Zbta (N:ByteArray) (e:Heap) (j:Value->Heap->Prop):Prop:=
 NewW e (Obj.cells ⟨[(vI vU 0),(vI vU 0),(vI wI 0),(vI wI 0),(vI wI 0),(vS none 0 0),(vS none 0 0)]⟩ Zcc) fun a w=>
 FnW wP Zuj ⟨[(Value.string N)]⟩ w fun O i=>
 ∃f h g,∃v:Int,∃d:Int,O=(vT ⟨[(vS f h g),(vI wI v),(vI wI d)]⟩)∧
 IfB (d !=0)
 (Za i ⟨a,0,none⟩ (vI vU 0) fun G=>
 Za G ⟨a,1,none⟩ (vI vU 0) fun H=>
 Za H ⟨a,2,none⟩ (vI wI 0) fun I=>
 Za I ⟨a,3,none⟩ (vI wI 0) fun J=>
 Za J ⟨a,4,none⟩ (vI wI 0) fun K=>
 Za K ⟨a,5,none⟩ (vS none 0 0) fun L=>
 Za L ⟨a,6,none⟩ (vS none 0 0) fun b=>
 ∃k,b.cell ⟨a,0,none⟩=some (vI vU k)∧∃l,b.cell ⟨a,1,none⟩=some (vI vU l)∧∃m,b.cell ⟨a,2,none⟩=some (vI wI m)∧∃n,b.cell ⟨a,3,none⟩=some (vI wI n)∧∃o,b.cell ⟨a,4,none⟩=some (vI wI o)∧∃p r q,b.cell ⟨a,5,none⟩=some (vS p r q)∧∃s u t,b.cell ⟨a,6,none⟩=some (vS s u t)∧j (vT ⟨[(vA ⟨[(vI vU k),(vI vU l),(vI wI m),(vI wI n),(vI wI o),(vS p r q),(vS s u t)]⟩),(vI wI v),(vI wI d)]⟩) b)
 (NewW i (Obj.cells ⟨[(vS f h g),(vI wI 0),(vI wI 0),(vB false)]⟩ Zg) fun P x=>
 NewW x (Obj.cells ⟨[(vI vU 0),(vI vU 0),(vI wI 0),(vI wI 0),(vI wI 0),(vS none 0 0),(vS none 0 0)]⟩ Zcc) fun c y=>
 Za y ⟨c,0,none⟩ (vI vU 0) fun z=>
 Za z ⟨c,1,none⟩ (vI vU 0) fun A=>
 Za A ⟨c,2,none⟩ (vI wI 90) fun B=>
 Za B ⟨c,3,none⟩ (vI wI 30) fun C=>
 Za C ⟨c,4,none⟩ (vI wI 0) fun D=>
 Za D ⟨c,5,none⟩ (vS none 0 0) fun E=>
 Za E ⟨c,6,none⟩ (vS none 0 0) fun F=>
 Zbw (Unit) () F fun R e M=>∀Q:Env,Zbsz a f h g d P c e M j)
theorem Zclg (d:ByteArray) {a:Heap} {c:Value->Heap->Prop} (f:Zbta d a fun g e=>∀b,Shut a e b->c g b):FnW wP Zlj ⟨[(Value.string d)]⟩ a c:=Zj Tryz.func7 ⟨[],[(6,[],[],[2,5,7,8,9])],[],[]⟩ (by kernel_rfl) (by kernel_rfl) f
def Zky (d:Nat) (a:Heap) (c:Value->Heap->Prop):Prop:=
 FnW wP Zhk ⟨[(vP (some ⟨d,0,none⟩)),(Value.string (ByteArray.mk #[59]))]⟩ a fun e b=>
 e=vT ⟨[]⟩∧
 c (vT ⟨[]⟩) b
def Zbtr (a d:Nat) (R:Heap) (e:Value->Heap->Prop):Prop:=
 NewW R (Obj.cells ⟨[(Value.string (ByteArray.mk #[112,111,108,105,99,121])),(Value.string (ByteArray.mk #[112,101,101,114])),(Value.string (ByteArray.mk #[115,121,115,116,101,109])),(Value.string (ByteArray.mk #[114,111,117,116,101,114])),(Value.string (ByteArray.mk #[104,111,108,100])),(Value.string (ByteArray.mk #[114,101,116,114,121])),(Value.string (ByteArray.mk #[103,114,97,99,101,102,117,108]))]⟩ Zm) fun d2 S=>
 FnW wP Zlk ⟨[(vP (some ⟨a,0,none⟩)),(vS (some ⟨d2,0,none⟩) 7 7)]⟩ S fun d5 c=>
 ∃f,d5=vI wI f∧
 IfB (f==0)
 (FnW wP Zje ⟨[(vP (some ⟨a,0,none⟩)),(vI wI 1)]⟩ c fun c1 a9=>
 ∃b6,∃l:ByteArray,∃b7:Int,∃b8:Int,∃b9:Int,∃c0:Int,c1=(vA ⟨[(vI wI b6),(Value.string l),(vI wI b7),(vI vU b8),(vI wI b9),(vI wI c0)]⟩)∧
 NewW a9 (Obj.cells ⟨[(Value.string (ByteArray.mk #[])),(vS none 0 0)]⟩ Zdx) fun g b0=>
 Za b0 ⟨g,0,none⟩ (Value.string l) fun b1=>
 Za b1 ⟨g,1,none⟩ (vS none 0 0) fun b2=>
 FnW wP Zhk ⟨[(vP (some ⟨a,0,none⟩)),(Value.string (ByteArray.mk #[123]))]⟩ b2 fun c2 b3=>
 c2=vT ⟨[]⟩∧
 FnW wP Zqt ⟨[(vP (some ⟨a,0,none⟩))]⟩ b3 fun c3 b4=>
 ∃m o n,c3=vS m o n∧
 Za b4 ⟨g,1,none⟩ (vS m o n) fun h=>
 ∃p r q,h.cell ⟨d,5,none⟩=some (vS p r q)∧
 ∃s,h.cell ⟨g,0,none⟩=some (Value.string s)∧∃t v u,h.cell ⟨g,1,none⟩=some (vS t v u)∧NewW h (Obj.cells ⟨[(Value.string s),(vS t v u)]⟩ Zdx) fun c4 T=>
 AppW wP #[Zzx,Zzx] Zzx [(vS p r q),(vS (some ⟨c4,0,none⟩) 1 1)] T fun c5 U=>
 ∃w y x,c5=vS w y x∧
 Za U ⟨d,5,none⟩ (vS w y x) fun V=>
 e (vT ⟨[]⟩) V)
 (IfB (f==1)
 (∃i:List Nat,(∀b∈i,∃b5,c b=some b5)∧
 d∈i∧∃z B A,c.cell ⟨d,6,none⟩=some (vS z B A)∧
 FnW wP Zbbx ⟨[(vP (some ⟨a,0,none⟩))]⟩ c fun c6 j=>
 ∃C,∃D:Int,∃E:Int,∃F:Bool,∃G:Int,∃H:ByteArray,∃I:ByteArray,c6=(vA ⟨[(Value.string C),(vI vU D),(vI vU E),(vB F),(vI wI G),(Value.string H),(Value.string I)]⟩)∧
 Zdw i c j∧NewW j (Obj.cells ⟨[(Value.string C),(vI vU D),(vI vU E),(vB F),(vI wI G),(Value.string H),(Value.string I)]⟩ Zbh) fun c7 W=>
 AppW wP #[Zzw,Zzw] Zzw [(vS z B A),(vS (some ⟨c7,0,none⟩) 1 1)] W fun c8 k=>
 ∃J L K,c8=vS J L K∧
 Zdw i c k∧Za k ⟨d,6,none⟩ (vS J L K) fun X=>
 e (vT ⟨[]⟩) X)
 (IfB (f==2)
 (FnW wP Zdm ⟨[(vP (some ⟨a,0,none⟩)),(vI wI 2)]⟩ c fun c9 Y=>
 ∃M,c9=vI wI M∧
 Za Y ⟨d,0,none⟩ (vI vU (vW vU M)) fun Z=>
 Zky a Z e)
 (IfB (f==3)
 (FnW wP Zdm ⟨[(vP (some ⟨a,0,none⟩)),(vI wI 3)]⟩ c fun d0 a0=>
 ∃N,d0=vI wI N∧
 Za a0 ⟨d,1,none⟩ (vI vU (vW vU N)) fun a1=>
 Zky a a1 e)
 (IfB (f==4)
 (FnW wP Zdm ⟨[(vP (some ⟨a,0,none⟩)),(vI wI 2)]⟩ c fun d1 a2=>
 ∃O,d1=vI wI O∧
 Za a2 ⟨d,2,none⟩ (vI wI O) fun a3=>
 Zky a a3 e)
 (IfB (f==5)
 (FnW wP Zdm ⟨[(vP (some ⟨a,0,none⟩)),(vI wI 2)]⟩ c fun d3 a4=>
 ∃P,d3=vI wI P∧
 Za a4 ⟨d,3,none⟩ (vI wI P) fun a5=>
 Zky a a5 e)
 (IfB (f==6)
 (FnW wP Zdm ⟨[(vP (some ⟨a,0,none⟩)),(vI wI 2)]⟩ c fun d4 a6=>
 ∃Q,d4=vI wI Q∧
 Za a6 ⟨d,4,none⟩ (vI wI Q) fun a7=>
 Zky a a7 e)
 (Za c ⟨a,3,none⟩ (vB true) fun a8=>
 Zky a a8 e)))))))
theorem Zclt (d e:Nat) {a:Heap} {c:Value->Heap->Prop} (g:Zbtr d e a fun h f=>∀b,Shut a f b->c h b):FnW wP Zbbz ⟨[(vP (some ⟨d,0,none⟩)),(vP (some ⟨e,0,none⟩))]⟩ a c:=Zj Tryz.func15 ⟨[(8,[0,1,2,3,4,5,6,7,8,9,10,11],[38])],[],[],[]⟩ (by kernel_rfl) (by kernel_rfl) g
def Zbvm (b:Nat) (a:Heap) (c:Value->Heap->Prop):Prop:=
 ∃p j q,a.cell ⟨b,0,none⟩=some (vS p j q)∧
 IfB (((j:Int):Int)==0)
 (c (vI wI 1) a)
 (∃d e k,a.cell ⟨b,0,none⟩=some (vS d e k)∧
 ∃f,a.cell ⟨b,1,none⟩=some (vI wI f)∧
 ∃l g m,a.cell ⟨b,0,none⟩=some (vS l g m)∧
 NilP d fun o=>
 InB (min f (vW wI ((g:Int) - 1))) e fun n=>
 elemAt o n 6 fun h=>
 ∃i,a.cell ⟨h.block,h.off+5,none⟩=some (vI wI i)∧
 c (vI wI i) a)
theorem Zcmz (d:Nat) {a:Heap} {c:Value->Heap->Prop} (f:Zbvm d a fun g e=>∀b,Shut a e b->c g b):FnW wP Zbcf ⟨[(vP (some ⟨d,0,none⟩))]⟩ a c:=Zj Tryz.func16 ⟨[],[],[],[]⟩ (by kernel_rfl) (by kernel_rfl) f
def Zbty (h:Nat) (e:Option Addr) (g f:Nat) (b:Heap) (d:Value->Heap->Prop):Prop:=
 FnW wP Zbkf ⟨[(vS e g f),(vF (.func Zfq) #[(vP (some ⟨h,0,none⟩))] #[])]⟩ b fun i c=>
 ∃a,i=vI wI a∧
 d (vI wI a) c
theorem Zclx (g:Nat) (d:Option Addr) (f e:Nat) {a:Heap} {c:Value->Heap->Prop} (i:Zbty g d f e a fun j h=>∀b,Shut a h b->c j b):FnW wP Zlk ⟨[(vP (some ⟨g,0,none⟩)),(vS d f e)]⟩ a c:=Zj Tryz.func44 ⟨[],[],[],[]⟩ (by kernel_rfl) (by kernel_rfl) i
def Zph (f a:Nat) (P:Bool) (g:Heap) (h:Value->Heap->Prop):Prop:=
 IfB P
 (Za g ⟨f,3,none⟩ (vB true) fun J=>
 Za J ⟨a,0,none⟩ (vI wI 0) fun K=>
 Za K ⟨a,1,none⟩ (Value.string (ByteArray.mk #[])) fun L=>
 Za L ⟨a,2,none⟩ (vI wI 0) fun M=>
 Za M ⟨a,3,none⟩ (vI vU 0) fun N=>
 Za N ⟨a,4,none⟩ (vI wI 0) fun O=>
 Za O ⟨a,5,none⟩ (vI wI 0) fun e=>
 ∃i,e.cell ⟨a,0,none⟩=some (vI wI i)∧∃k,e.cell ⟨a,1,none⟩=some (Value.string k)∧∃m,e.cell ⟨a,2,none⟩=some (vI wI m)∧∃o,e.cell ⟨a,3,none⟩=some (vI vU o)∧∃q,e.cell ⟨a,4,none⟩=some (vI wI q)∧∃s,e.cell ⟨a,5,none⟩=some (vI wI s)∧h (vA ⟨[(vI wI i),(Value.string k),(vI wI m),(vI vU o),(vI wI q),(vI wI s)]⟩) e)
 (∃u,g.cell ⟨f,1,none⟩=some (vI wI u)∧
 Za g ⟨f,1,none⟩ (vI wI (vW wI (u+1))) fun c=>
 ∃v w Q,c.cell ⟨f,0,none⟩=some (vS v w Q)∧
 ∃x,c.cell ⟨f,1,none⟩=some (vI wI x)∧
 NilP v fun S=>
 InB (vW wI (x - 1)) w fun R=>
 elemAt S R 6 fun b=>
 ∃y,c.cell b=some (vI wI y)∧∃z,c.cell ⟨b.block,b.off+1,none⟩=some (Value.string z)∧∃A,c.cell ⟨b.block,b.off+2,none⟩=some (vI wI A)∧∃B,c.cell ⟨b.block,b.off+3,none⟩=some (vI vU B)∧∃C,c.cell ⟨b.block,b.off+4,none⟩=some (vI wI C)∧∃D,c.cell ⟨b.block,b.off+5,none⟩=some (vI wI D)∧Za c ⟨a,0,none⟩ (vI wI y) fun E=>
 Za E ⟨a,1,none⟩ (Value.string z) fun F=>
 Za F ⟨a,2,none⟩ (vI wI A) fun G=>
 Za G ⟨a,3,none⟩ (vI vU B) fun H=>
 Za H ⟨a,4,none⟩ (vI wI C) fun I=>
 Za I ⟨a,5,none⟩ (vI wI D) fun d=>
 ∃j,d.cell ⟨a,0,none⟩=some (vI wI j)∧∃l,d.cell ⟨a,1,none⟩=some (Value.string l)∧∃n,d.cell ⟨a,2,none⟩=some (vI wI n)∧∃p,d.cell ⟨a,3,none⟩=some (vI vU p)∧∃r,d.cell ⟨a,4,none⟩=some (vI wI r)∧∃t,d.cell ⟨a,5,none⟩=some (vI wI t)∧h (vA ⟨[(vI wI j),(Value.string l),(vI wI n),(vI vU p),(vI wI r),(vI wI t)]⟩) d)
def Zbsr (b:Nat) (m:Int) (l:Heap) (c:Value->Heap->Prop):Prop:=
 NewW l (Obj.cells ⟨[(vI wI 0),(Value.string (ByteArray.mk #[])),(vI wI 0),(vI vU 0),(vI wI 0),(vI wI 0)]⟩ Zbht) fun d a=>
 ∃k,a.cell ⟨b,3,none⟩=some (vB k)∧
 IfB k
 (Zph b d true a c)
 (∃e,a.cell ⟨b,1,none⟩=some (vI wI e)∧
 ∃n f o,a.cell ⟨b,0,none⟩=some (vS n f o)∧
 IfB (e==(f:Int))
 (Zph b d true a c)
 (∃g h p,a.cell ⟨b,0,none⟩=some (vS g h p)∧
 ∃i,a.cell ⟨b,1,none⟩=some (vI wI i)∧
 NilP g fun s=>
 InB i h fun q=>
 elemAt s q 6 fun r=>
 ∃j,a.cell r=some (vI wI j)∧
 Zph b d (j !=m) a c))
theorem Zclc (e:Nat) (d:Int) {a:Heap} {c:Value->Heap->Prop} (g:Zbsr e d a fun h f=>∀b,Shut a f b->c h b):FnW wP Zje ⟨[(vP (some ⟨e,0,none⟩)),(vI wI d)]⟩ a c:=Zj Tryz.func45 ⟨[],[],[],[]⟩ (by kernel_rfl) (by kernel_rfl) g
def Zbtb (a:Nat) (i:ByteArray) (f:Heap) (c:Value->Heap->Prop):Prop:=
 FnW wP Zfq ⟨[(vP (some ⟨a,0,none⟩)),(Value.string i)]⟩ f fun j b=>
 ∃e,j=vB e∧
 IfB (!e)
 (Za b ⟨a,3,none⟩ (vB true) fun g=>
 c (vT ⟨[]⟩) g)
 (∃d,b.cell ⟨a,3,none⟩=some (vB d)∧
 Za b ⟨a,3,none⟩ (vB d) fun h=>
 c (vT ⟨[]⟩) h)
theorem Zclh (d:Nat) (e:ByteArray) {a:Heap} {c:Value->Heap->Prop} (g:Zbtb d e a fun h f=>∀b,Shut a f b->c h b):FnW wP Zhk ⟨[(vP (some ⟨d,0,none⟩)),(Value.string e)]⟩ a c:=Zj Tryz.func46 ⟨[],[],[],[]⟩ (by kernel_rfl) (by kernel_rfl) g
def Ztg (e:Nat) (b:Option Addr) (d c:Nat) (D:((Option Addr×Nat×Nat)×Unit)->Heap->Prop) (E:Bool) (a:Heap) (C:Value->Heap->Prop):Prop:=
 IfB E
 (FnW wP Znf ⟨[(vP (some ⟨e,0,none⟩))]⟩ a fun F y=>
 ∃f,∃g:Int,∃(h:Option Addr) (j i:Nat),∃k:Int,∃l:Int,∃m:Int,∃(n:Option Addr) (p o:Nat),∃(q:Option Addr) (s r:Nat),∃t:Int,∃u:Int,F=(vA ⟨[(vI wI f),(vI wI g),(vS h j i),(vI vU k),(vI wI l),(vI wI m),(vS n p o),(vS q s r),(vI wI t),(vI wI u)]⟩)∧
 NewW y (Obj.cells ⟨[(vI wI f),(vI wI g),(vS h j i),(vI vU k),(vI wI l),(vI wI m),(vS n p o),(vS q s r),(vI wI t),(vI wI u)]⟩ Zbf) fun G z=>
 AppW wP #[Zqc,Zqc] Zqc [(vS b d c),(vS (some ⟨G,0,none⟩) 1 1)] z fun H A=>
 ∃v x w,H=vS v x w∧
 D ((v,x,w),()) A)
 (FnW wP Zhk ⟨[(vP (some ⟨e,0,none⟩)),(Value.string (ByteArray.mk #[125]))]⟩ a fun I B=>
 I=vT ⟨[]⟩∧
 C (vS b d c) B)
def Zbtk (a:Nat) (d:Option Addr) (f e:Nat) (b:Heap) (g:((Option Addr×Nat×Nat)×Unit)->Heap->Prop) (c:Value->Heap->Prop):Prop:=
 ∃i,b.cell ⟨a,3,none⟩=some (vB i)∧
 IfB (!i)
 (FnW wP Zqw ⟨[(vP (some ⟨a,0,none⟩)),(Value.string (ByteArray.mk #[125]))]⟩ b fun k j=>
 ∃h,k=vB h∧
 Ztg a d f e g (!h) j c)
 (Ztg a d f e g false b c)
def Zbtl (e:Nat) (a:Heap) (c:Value->Heap->Prop):Prop:=
 Zbw ((Option Addr×Nat×Nat)×Unit) ((none,0,0),()) a fun b a d=>∀f:Env,Zbtk e b.1.1 b.1.2.1 b.1.2.2 a d c
theorem Zclm (d:Nat) {a:Heap} {c:Value->Heap->Prop} (f:Zbtl d a fun g e=>∀b,Shut a e b->c g b):FnW wP Zqt ⟨[(vP (some ⟨d,0,none⟩))]⟩ a c:=Zj Tryz.func47 ⟨[],[(2,[3],[.slice],[0])],[],[]⟩ (by kernel_rfl) (by kernel_rfl) f
def Zyy (e f h g:Nat) (c:Int) (b:(Int×Unit)->Heap->Prop) (a:Heap) (d:Value->Heap->Prop):Prop:=
 b ((vW wI (c+1)),()) a
def Zbtc (g a c j:Nat) (k:Int) (i:Heap) (p:(Int×Unit)->Heap->Prop) (l:Value->Heap->Prop):Prop:=
 IfB (decide (k<(2:Int)))
 (InB k 2 fun x=>
 ∃y,i.cell ⟨j,0+x*2,none⟩=some (Value.string y)∧∃z,i.cell ⟨j,0+x*2+1,none⟩=some (vP z)∧NewW i (Obj.cells ⟨[(Value.string (ByteArray.mk #[])),(vP none)]⟩ Zmq) fun h L=>
 Za L ⟨h,0,none⟩ (Value.string y) fun M=>
 Za M ⟨h,1,none⟩ (vP z) fun n=>
 ∃A,n.cell ⟨h,0,none⟩=some (Value.string A)∧
 FnW wP Zfq ⟨[(vP (some ⟨g,0,none⟩)),(Value.string A)]⟩ n fun V f=>
 ∃B,V=vB B∧
 IfB B
 (∃m:List Nat,(∀b∈m,∃U,f b=some U)∧
 h∈m∧∃C,f.cell ⟨h,1,none⟩=some (vP C)∧
 FnW wP Zje ⟨[(vP (some ⟨g,0,none⟩)),(vI wI 1)]⟩ f fun a1 o=>
 ∃W,∃D:ByteArray,∃X:Int,∃Y:Int,∃Z:Int,∃a0:Int,a1=(vA ⟨[(vI wI W),(Value.string D),(vI wI X),(vI vU Y),(vI wI Z),(vI wI a0)]⟩)∧
 Zdw m f o∧NilP C fun a2=>
 Za o a2 (Value.string D) fun N=>
 Zyy g a c j k p N l)
 (Zyy g a c j k p f l))
 (FnW wP Zhk ⟨[(vP (some ⟨g,0,none⟩)),(Value.string (ByteArray.mk #[59]))]⟩ i fun a3 d=>
 a3=vT ⟨[]⟩∧
 ∃E,d.cell ⟨c,0,none⟩=some (Value.string E)∧∃F,d.cell ⟨c,1,none⟩=some (vI vU F)∧∃G,d.cell ⟨c,2,none⟩=some (vI vU G)∧∃H,d.cell ⟨c,3,none⟩=some (vB H)∧∃I,d.cell ⟨c,4,none⟩=some (vI wI I)∧∃J,d.cell ⟨c,5,none⟩=some (Value.string J)∧∃K,d.cell ⟨c,6,none⟩=some (Value.string K)∧Za d ⟨a,0,none⟩ (Value.string E) fun O=>
 Za O ⟨a,1,none⟩ (vI vU F) fun P=>
 Za P ⟨a,2,none⟩ (vI vU G) fun Q=>
 Za Q ⟨a,3,none⟩ (vB H) fun R=>
 Za R ⟨a,4,none⟩ (vI wI I) fun S=>
 Za S ⟨a,5,none⟩ (Value.string J) fun T=>
 Za T ⟨a,6,none⟩ (Value.string K) fun e=>
 ∃q,e.cell ⟨a,0,none⟩=some (Value.string q)∧∃r,e.cell ⟨a,1,none⟩=some (vI vU r)∧∃s,e.cell ⟨a,2,none⟩=some (vI vU s)∧∃t,e.cell ⟨a,3,none⟩=some (vB t)∧∃u,e.cell ⟨a,4,none⟩=some (vI wI u)∧∃v,e.cell ⟨a,5,none⟩=some (Value.string v)∧∃w,e.cell ⟨a,6,none⟩=some (Value.string w)∧l (vA ⟨[(Value.string q),(vI vU r),(vI vU s),(vB t),(vI wI u),(Value.string v),(Value.string w)]⟩) e)
def Zyx (g i a:Nat) (c:Heap) (e:Value->Heap->Prop):Prop:=
 NewW c (Obj.cells ⟨[(Value.string (ByteArray.mk #[105,110])),(vP (some ⟨a,5,none⟩)),(Value.string (ByteArray.mk #[111,117,116])),(vP (some ⟨a,6,none⟩))]⟩ Zmq) fun j d=>
 Zbw (Int×Unit) (0,()) d fun h b f=>∀k:Env,Zbtc g i a j h.1 b f e
def Zbtd (b:Nat) (l:Heap) (d:Value->Heap->Prop):Prop:=
 NewW l (Obj.cells ⟨[(Value.string (ByteArray.mk #[])),(vI vU 0),(vI vU 0),(vB false),(vI wI 0),(Value.string (ByteArray.mk #[])),(Value.string (ByteArray.mk #[]))]⟩ Zbh) fun j m=>
 FnW wP Zje ⟨[(vP (some ⟨b,0,none⟩)),(vI wI 1)]⟩ m fun Q w=>
 ∃L,∃k:ByteArray,∃M:Int,∃N:Int,∃O:Int,∃P:Int,Q=(vA ⟨[(vI wI L),(Value.string k),(vI wI M),(vI vU N),(vI wI O),(vI wI P)]⟩)∧
 NewW w (Obj.cells ⟨[(Value.string (ByteArray.mk #[])),(vI vU 0),(vI vU 0),(vB false),(vI wI 0),(Value.string (ByteArray.mk #[])),(Value.string (ByteArray.mk #[]))]⟩ Zbh) fun a y=>
 Za y ⟨a,0,none⟩ (Value.string k) fun z=>
 Za z ⟨a,1,none⟩ (vI vU 0) fun A=>
 Za A ⟨a,2,none⟩ (vI vU 0) fun B=>
 Za B ⟨a,3,none⟩ (vB false) fun C=>
 Za C ⟨a,4,none⟩ (vI wI 0) fun D=>
 Za D ⟨a,5,none⟩ (Value.string (ByteArray.mk #[])) fun E=>
 Za E ⟨a,6,none⟩ (Value.string (ByteArray.mk #[])) fun n=>
 FnW wP Zdm ⟨[(vP (some ⟨b,0,none⟩)),(vI wI 3)]⟩ n fun F o=>
 ∃e,F=vI wI e∧
 Za o ⟨a,1,none⟩ (vI vU (vW vU e)) fun p=>
 FnW wP Zhk ⟨[(vP (some ⟨b,0,none⟩)),(Value.string (ByteArray.mk #[97,115]))]⟩ p fun G q=>
 G=vT ⟨[]⟩∧
 FnW wP Zdm ⟨[(vP (some ⟨b,0,none⟩)),(vI wI 2)]⟩ q fun H r=>
 ∃f,H=vI wI f∧
 Za r ⟨a,2,none⟩ (vI vU (vW vU f)) fun s=>
 FnW wP Zfq ⟨[(vP (some ⟨b,0,none⟩)),(Value.string (ByteArray.mk #[119,97,105,116,115]))]⟩ s fun I t=>
 ∃g,I=vB g∧
 Za t ⟨a,3,none⟩ (vB g) fun u=>
 FnW wP Zfq ⟨[(vP (some ⟨b,0,none⟩)),(Value.string (ByteArray.mk #[109,97,120]))]⟩ u fun J c=>
 ∃h,J=vB h∧
 IfB h
 (FnW wP Zdm ⟨[(vP (some ⟨b,0,none⟩)),(vI wI 2)]⟩ c fun K v=>
 ∃i,K=vI wI i∧
 Za v ⟨a,4,none⟩ (vI wI i) fun x=>
 Zyx b j a x d)
 (Zyx b j a c d)
theorem Zclj (d:Nat) {a:Heap} {c:Value->Heap->Prop} (f:Zbtd d a fun g e=>∀b,Shut a e b->c g b):FnW wP Zbbx ⟨[(vP (some ⟨d,0,none⟩))]⟩ a c:=Zj Tryz.func48 ⟨[(12,[0,1,2,3,4,5,6],[43])],[(9,[34],[.int wI],[0,2,3,32,33])],[],[]⟩ (by kernel_rfl) (by kernel_rfl) f
def Zbsh (f:Nat) (e:Int) (b:Heap) (d:Value->Heap->Prop):Prop:=
 FnW wP Zje ⟨[(vP (some ⟨f,0,none⟩)),(vI wI e)]⟩ b fun l c=>
 ∃g,∃h:ByteArray,∃a:Int,∃i:Int,∃j:Int,∃k:Int,l=(vA ⟨[(vI wI g),(Value.string h),(vI wI a),(vI vU i),(vI wI j),(vI wI k)]⟩)∧
 d (vI wI a) c
theorem Zckr (e:Nat) (d:Int) {a:Heap} {c:Value->Heap->Prop} (g:Zbsh e d a fun h f=>∀b,Shut a f b->c h b):FnW wP Zdm ⟨[(vP (some ⟨e,0,none⟩)),(vI wI d)]⟩ a c:=Zj Tryz.func49 ⟨[],[],[],[]⟩ (by kernel_rfl) (by kernel_rfl) g
def Zbso (c:Nat) (h:ByteArray) (f:Heap) (d:Value->Heap->Prop):Prop:=
 FnW wP Zqw ⟨[(vP (some ⟨c,0,none⟩)),(Value.string h)]⟩ f fun i b=>
 ∃a,i=vB a∧
 IfB a
 (∃e,b.cell ⟨c,1,none⟩=some (vI wI e)∧
 Za b ⟨c,1,none⟩ (vI wI (vW wI (e+1))) fun g=>
 d (vB a) g)
 (d (vB a) b)
theorem Zckz (d:Nat) (e:ByteArray) {a:Heap} {c:Value->Heap->Prop} (g:Zbso d e a fun h f=>∀b,Shut a f b->c h b):FnW wP Zfq ⟨[(vP (some ⟨d,0,none⟩)),(Value.string e)]⟩ a c:=Zj Tryz.func85 ⟨[],[],[],[]⟩ (by kernel_rfl) (by kernel_rfl) g
def Zbur (b:Nat) (l:ByteArray) (a:Heap) (c:Value->Heap->Prop):Prop:=
 ∃k,a.cell ⟨b,3,none⟩=some (vB k)∧
 IfB (!k)
 (∃d,a.cell ⟨b,1,none⟩=some (vI wI d)∧
 ∃m e n,a.cell ⟨b,0,none⟩=some (vS m e n)∧
 IfB (decide (d<(e:Int)))
 (∃f g o,a.cell ⟨b,0,none⟩=some (vS f g o)∧
 ∃h,a.cell ⟨b,1,none⟩=some (vI wI h)∧
 NilP f fun q=>
 InB h g fun p=>
 elemAt q p 6 fun i=>
 ∃j,a.cell ⟨i.block,i.off+1,none⟩=some (Value.string j)∧
 c (vB (j.toList==l.toList)) a)
 (c (vB false) a))
 (c (vB false) a)
theorem Zcmj (d:Nat) (e:ByteArray) {a:Heap} {c:Value->Heap->Prop} (g:Zbur d e a fun h f=>∀b,Shut a f b->c h b):FnW wP Zqw ⟨[(vP (some ⟨d,0,none⟩)),(Value.string e)]⟩ a c:=Zj Tryz.func86 ⟨[],[],[],[]⟩ (by kernel_rfl) (by kernel_rfl) g
def Zyz (a d:Nat) (b:Heap) (T:Value->Heap->Prop):Prop:=
 ∃u,b.cell ⟨d,0,none⟩=some (vI wI u)∧∃v,b.cell ⟨d,1,none⟩=some (vI wI v)∧∃w y x,b.cell ⟨d,2,none⟩=some (vS w y x)∧∃z,b.cell ⟨d,3,none⟩=some (vI vU z)∧∃A,b.cell ⟨d,4,none⟩=some (vI wI A)∧∃B,b.cell ⟨d,5,none⟩=some (vI wI B)∧∃C E D,b.cell ⟨d,6,none⟩=some (vS C E D)∧∃F H G,b.cell ⟨d,7,none⟩=some (vS F H G)∧∃I,b.cell ⟨d,8,none⟩=some (vI wI I)∧∃J,b.cell ⟨d,9,none⟩=some (vI wI J)∧Za b ⟨a,0,none⟩ (vI wI u) fun K=>
 Za K ⟨a,1,none⟩ (vI wI v) fun L=>
 Za L ⟨a,2,none⟩ (vS w y x) fun M=>
 Za M ⟨a,3,none⟩ (vI vU z) fun N=>
 Za N ⟨a,4,none⟩ (vI wI A) fun O=>
 Za O ⟨a,5,none⟩ (vI wI B) fun P=>
 Za P ⟨a,6,none⟩ (vS C E D) fun Q=>
 Za Q ⟨a,7,none⟩ (vS F H G) fun R=>
 Za R ⟨a,8,none⟩ (vI wI I) fun S=>
 Za S ⟨a,9,none⟩ (vI wI J) fun c=>
 ∃e,c.cell ⟨a,0,none⟩=some (vI wI e)∧∃f,c.cell ⟨a,1,none⟩=some (vI wI f)∧∃g i h,c.cell ⟨a,2,none⟩=some (vS g i h)∧∃j,c.cell ⟨a,3,none⟩=some (vI vU j)∧∃k,c.cell ⟨a,4,none⟩=some (vI wI k)∧∃l,c.cell ⟨a,5,none⟩=some (vI wI l)∧∃m o n,c.cell ⟨a,6,none⟩=some (vS m o n)∧∃p r q,c.cell ⟨a,7,none⟩=some (vS p r q)∧∃s,c.cell ⟨a,8,none⟩=some (vI wI s)∧∃t,c.cell ⟨a,9,none⟩=some (vI wI t)∧T (vA ⟨[(vI wI e),(vI wI f),(vS g i h),(vI vU j),(vI wI k),(vI wI l),(vS m o n),(vS p r q),(vI wI s),(vI wI t)]⟩) c
def Zbtm (a d:Nat) (b:Heap) (T:Value->Heap->Prop):Prop:=
 ∃u,b.cell ⟨d,0,none⟩=some (vI wI u)∧∃v,b.cell ⟨d,1,none⟩=some (vI wI v)∧∃w y x,b.cell ⟨d,2,none⟩=some (vS w y x)∧∃z,b.cell ⟨d,3,none⟩=some (vI vU z)∧∃A,b.cell ⟨d,4,none⟩=some (vI wI A)∧∃B,b.cell ⟨d,5,none⟩=some (vI wI B)∧∃C E D,b.cell ⟨d,6,none⟩=some (vS C E D)∧∃F H G,b.cell ⟨d,7,none⟩=some (vS F H G)∧∃I,b.cell ⟨d,8,none⟩=some (vI wI I)∧∃J,b.cell ⟨d,9,none⟩=some (vI wI J)∧Za b ⟨a,0,none⟩ (vI wI u) fun K=>
 Za K ⟨a,1,none⟩ (vI wI v) fun L=>
 Za L ⟨a,2,none⟩ (vS w y x) fun M=>
 Za M ⟨a,3,none⟩ (vI vU z) fun N=>
 Za N ⟨a,4,none⟩ (vI wI A) fun O=>
 Za O ⟨a,5,none⟩ (vI wI B) fun P=>
 Za P ⟨a,6,none⟩ (vS C E D) fun Q=>
 Za Q ⟨a,7,none⟩ (vS F H G) fun R=>
 Za R ⟨a,8,none⟩ (vI wI I) fun S=>
 Za S ⟨a,9,none⟩ (vI wI J) fun c=>
 ∃e,c.cell ⟨a,0,none⟩=some (vI wI e)∧∃f,c.cell ⟨a,1,none⟩=some (vI wI f)∧∃g i h,c.cell ⟨a,2,none⟩=some (vS g i h)∧∃j,c.cell ⟨a,3,none⟩=some (vI vU j)∧∃k,c.cell ⟨a,4,none⟩=some (vI wI k)∧∃l,c.cell ⟨a,5,none⟩=some (vI wI l)∧∃m o n,c.cell ⟨a,6,none⟩=some (vS m o n)∧∃p r q,c.cell ⟨a,7,none⟩=some (vS p r q)∧∃s,c.cell ⟨a,8,none⟩=some (vI wI s)∧∃t,c.cell ⟨a,9,none⟩=some (vI wI t)∧T (vA ⟨[(vI wI e),(vI wI f),(vS g i h),(vI vU j),(vI wI k),(vI wI l),(vS m o n),(vS p r q),(vI wI s),(vI wI t)]⟩) c
def Zkv (d f e:Nat) (a:Heap) (c:Value->Heap->Prop):Prop:=
 FnW wP Zhk ⟨[(vP (some ⟨d,0,none⟩)),(Value.string (ByteArray.mk #[59]))]⟩ a fun g b=>
 g=vT ⟨[]⟩∧
 Zbtm f e b c
def Zkw (a e b:Nat) (j:Int) (k:Bool) (c:Heap) (d:Value->Heap->Prop):Prop:=
 IfB k
 (FnW wP Zdm ⟨[(vP (some ⟨a,0,none⟩)),(vI wI 5)]⟩ c fun l g=>
 ∃f,l=vI wI f∧
 Za g ⟨b,8,none⟩ (vI wI f) fun h=>
 Zkv a e b h d)
 (IfB (j==1)
 (Za c ⟨a,3,none⟩ (vB true) fun i=>
 Zkv a e b i d)
 (Zkv a e b c d))
def Ziv (b f c:Nat) (a:Int) (j:Bool) (d:Heap) (e:Value->Heap->Prop):Prop:=
 IfB j
 (FnW wP Zdm ⟨[(vP (some ⟨b,0,none⟩)),(vI wI 2)]⟩ d fun k h=>
 ∃g,k=vI wI g∧
 Za h ⟨c,8,none⟩ (vI wI g) fun i=>
 Zkv b f c i e)
 (IfB (a==7)
 (Zkw b f c a (a==7) d e)
 (Zkw b f c a (a==8) d e))
def Zbtn (c:Nat) (B:Heap) (e:Value->Heap->Prop):Prop:=
 NewW B (Obj.cells ⟨[(vI wI 0),(vI wI 0),(vS none 0 0),(vI vU 0),(vI wI 0),(vI wI 0),(vS none 0 0),(vS none 0 0),(vI wI 0),(vI wI 0)]⟩ Zbf) fun f C=>
 FnW wP Zfq ⟨[(vP (some ⟨c,0,none⟩)),(Value.string (ByteArray.mk #[105,102]))]⟩ C fun b6 i=>
 ∃t,b6=vB t∧
 IfB t
 (FnW wP Znk ⟨[(vP (some ⟨c,0,none⟩))]⟩ i fun b7 M=>
 ∃u,∃(v:Option Addr) (x w:Nat),∃y:Int,∃z:Int,∃A:Int,b7=(vA ⟨[(vI wI u),(vS v x w),(vI vU y),(vI wI z),(vI wI A)]⟩)∧
 NewW M (Obj.cells ⟨[(vI wI 0),(vI wI 0),(vS none 0 0),(vI vU 0),(vI wI 0),(vI wI 0),(vS none 0 0),(vS none 0 0),(vI wI 0),(vI wI 0)]⟩ Zbf) fun b W=>
 Za W ⟨b,0,none⟩ (vI wI 1) fun a4=>
 Za a4 ⟨b,1,none⟩ (vI wI u) fun a5=>
 Za a5 ⟨b,2,none⟩ (vS v x w) fun a6=>
 Za a6 ⟨b,3,none⟩ (vI vU y) fun a7=>
 Za a7 ⟨b,4,none⟩ (vI wI z) fun a8=>
 Za a8 ⟨b,5,none⟩ (vI wI A) fun D=>
 Za D ⟨b,6,none⟩ (vS none 0 0) fun E=>
 Za E ⟨b,7,none⟩ (vS none 0 0) fun F=>
 Za F ⟨b,8,none⟩ (vI wI 0) fun G=>
 Za G ⟨b,9,none⟩ (vI wI 0) fun H=>
 FnW wP Zrb ⟨[(vP (some ⟨c,0,none⟩))]⟩ H fun a9 I=>
 ∃j l k,a9=vS j l k∧
 Za I ⟨b,6,none⟩ (vS j l k) fun J=>
 FnW wP Zfq ⟨[(vP (some ⟨c,0,none⟩)),(Value.string (ByteArray.mk #[101,108,115,101]))]⟩ J fun b0 h=>
 ∃m,b0=vB m∧
 IfB m
 (FnW wP Zrb ⟨[(vP (some ⟨c,0,none⟩))]⟩ h fun b1 K=>
 ∃n p o,b1=vS n p o∧
 Za K ⟨b,7,none⟩ (vS n p o) fun L=>
 Zyz f b L e)
 (Zyz f b h e))
 (NewW i (Obj.cells ⟨[(Value.string (ByteArray.mk #[97,99,99,101,112,116])),(Value.string (ByteArray.mk #[114,101,106,101,99,116])),(Value.string (ByteArray.mk #[112,114,101,112,101,110,100])),(Value.string (ByteArray.mk #[108,111,99,97,108])),(Value.string (ByteArray.mk #[109,101,100])),(Value.string (ByteArray.mk #[97,100,100])),(Value.string (ByteArray.mk #[100,114,111,112])),(Value.string (ByteArray.mk #[99,108,101,97,114]))]⟩ Zm) fun b2 N=>
 FnW wP Zlk ⟨[(vP (some ⟨c,0,none⟩)),(vS (some ⟨b2,0,none⟩) 8 8)]⟩ N fun b3 O=>
 ∃q,b3=vI wI q∧
 NewW O (Obj.cells ⟨[(vI wI 0),(vI wI 0),(vS none 0 0),(vI vU 0),(vI wI 0),(vI wI 0),(vS none 0 0),(vS none 0 0),(vI wI 0),(vI wI 0)]⟩ Zbf) fun a P=>
 Za P ⟨a,0,none⟩ (vI wI (vW wI (2+q))) fun Q=>
 Za Q ⟨a,1,none⟩ (vI wI 0) fun R=>
 Za R ⟨a,2,none⟩ (vS none 0 0) fun S=>
 Za S ⟨a,3,none⟩ (vI vU 0) fun T=>
 Za T ⟨a,4,none⟩ (vI wI 0) fun U=>
 Za U ⟨a,5,none⟩ (vI wI 0) fun V=>
 Za V ⟨a,6,none⟩ (vS none 0 0) fun X=>
 Za X ⟨a,7,none⟩ (vS none 0 0) fun Y=>
 Za Y ⟨a,8,none⟩ (vI wI 0) fun Z=>
 Za Z ⟨a,9,none⟩ (vI wI 0) fun g=>
 ∃d,g.cell ⟨a,0,none⟩=some (vI wI d)∧
 IfB (d==4)
 (FnW wP Zdm ⟨[(vP (some ⟨c,0,none⟩)),(vI wI 2)]⟩ g fun b4 a0=>
 ∃r,b4=vI wI r∧
 Za a0 ⟨a,8,none⟩ (vI wI r) fun a1=>
 FnW wP Zdm ⟨[(vP (some ⟨c,0,none⟩)),(vI wI 2)]⟩ a1 fun b5 a2=>
 ∃s,b5=vI wI s∧
 Za a2 ⟨a,9,none⟩ (vI wI s) fun a3=>
 Zkv c f a a3 e)
 (IfB (d==5)
 (Ziv c f a d (d==5) g e)
 (Ziv c f a d (d==6) g e)))
theorem Zclo (d:Nat) {a:Heap} {c:Value->Heap->Prop} (f:Zbtn d a fun g e=>∀b,Shut a e b->c g b):FnW wP Znf ⟨[(vP (some ⟨d,0,none⟩))]⟩ a c:=Zj Tryz.func87 ⟨[],[],[],[]⟩ (by kernel_rfl) (by kernel_rfl) f
def Zbuh (c:Nat) (r:Heap) (y:Value->Heap->Prop):Prop:=
 NewW r (Obj.cells ⟨[(vI wI 0),(vS none 0 0),(vI vU 0),(vI wI 0),(vI wI 0)]⟩ Zba) fun a s=>
 FnW wP Zuw ⟨[(vP (some ⟨c,0,none⟩)),(vI wI 2),(Value.string (ByteArray.mk #[111,114])),(vF (.func Zbch) #[(vP (some ⟨c,0,none⟩))] #[])]⟩ s fun z t=>
 ∃k,∃(l:Option Addr) (n m:Nat),∃o:Int,∃p:Int,∃q:Int,z=(vA ⟨[(vI wI k),(vS l n m),(vI vU o),(vI wI p),(vI wI q)]⟩)∧
 Za t ⟨a,0,none⟩ (vI wI k) fun u=>
 Za u ⟨a,1,none⟩ (vS l n m) fun v=>
 Za v ⟨a,2,none⟩ (vI vU o) fun w=>
 Za w ⟨a,3,none⟩ (vI wI p) fun x=>
 Za x ⟨a,4,none⟩ (vI wI q) fun b=>
 ∃d,b.cell ⟨a,0,none⟩=some (vI wI d)∧∃e g f,b.cell ⟨a,1,none⟩=some (vS e g f)∧∃h,b.cell ⟨a,2,none⟩=some (vI vU h)∧∃i,b.cell ⟨a,3,none⟩=some (vI wI i)∧∃j,b.cell ⟨a,4,none⟩=some (vI wI j)∧y (vA ⟨[(vI wI d),(vS e g f),(vI vU h),(vI wI i),(vI wI j)]⟩) b
theorem Zcmd (d:Nat) {a:Heap} {c:Value->Heap->Prop} (f:Zbuh d a fun g e=>∀b,Shut a e b->c g b):FnW wP Znk ⟨[(vP (some ⟨d,0,none⟩))]⟩ a c:=Zj Tryz.func123 ⟨[],[],[],[]⟩ (by kernel_rfl) (by kernel_rfl) f
def Zbva (a:Nat) (j:Heap) (d:Value->Heap->Prop):Prop:=
 FnW wP Zqv ⟨[(vP (some ⟨a,0,none⟩)),(Value.string (ByteArray.mk #[123]))]⟩ j fun n b=>
 ∃i,n=vB i∧
 IfB (!i)
 (Za b ⟨a,3,none⟩ (vB true) fun k=>
 d (vS none 0 0) k)
 (FnW wP Zqt ⟨[(vP (some ⟨a,0,none⟩))]⟩ b fun m c=>
 ∃e g f,m=vS e g f∧
 ∃h,c.cell ⟨a,2,none⟩=some (vI wI h)∧
 Za c ⟨a,2,none⟩ (vI wI (vW wI (h - 1))) fun l=>
 d (vS e g f) l)
theorem Zcmo (d:Nat) {a:Heap} {c:Value->Heap->Prop} (f:Zbva d a fun g e=>∀b,Shut a e b->c g b):FnW wP Zrb ⟨[(vP (some ⟨d,0,none⟩))]⟩ a c:=Zj Tryz.func124 ⟨[],[],[],[]⟩ (by kernel_rfl) (by kernel_rfl) f
def Zbuk (a5:Nat) (a4:Int) (a1:ByteArray) (a2:FuncId) (a6:Value) (a:Nat) (g:Option Addr) (f i:Nat) (W:Heap) (a3:((Option Addr×Nat×Nat)×Unit)->Heap->Prop) (h:Value->Heap->Prop):Prop:=
 FnW wP Zfq ⟨[(vP (some ⟨a5,0,none⟩)),(Value.string a1)]⟩ W fun a7 c=>
 ∃x,a7=vB x∧
 IfB x
 (FnW wP a2 ⟨[a6]⟩ c fun a8 X=>
 ∃y,∃(z:Option Addr) (B A:Nat),∃C:Int,∃D:Int,∃E:Int,a8=(vA ⟨[(vI wI y),(vS z B A),(vI vU C),(vI wI D),(vI wI E)]⟩)∧
 NewW X (Obj.cells ⟨[(vI wI y),(vS z B A),(vI vU C),(vI wI D),(vI wI E)]⟩ Zba) fun a9 Y=>
 AppW wP #[Zqb,Zqb] Zqb [(vS g f i),(vS (some ⟨a9,0,none⟩) 1 1)] Y fun b0 Z=>
 ∃F H G,b0=vS F H G∧
 a3 ((F,H,G),()) Z)
 (IfB (((f:Int):Int)==1)
 (NilP g fun b2=>
 InB 0 f fun b1=>
 elemAt b2 b1 5 fun b=>
 ∃I,c.cell b=some (vI wI I)∧∃J L K,c.cell ⟨b.block,b.off+1,none⟩=some (vS J L K)∧∃M,c.cell ⟨b.block,b.off+2,none⟩=some (vI vU M)∧∃N,c.cell ⟨b.block,b.off+3,none⟩=some (vI wI N)∧∃O,c.cell ⟨b.block,b.off+4,none⟩=some (vI wI O)∧Za c ⟨a,0,none⟩ (vI wI I) fun a0=>
 Za a0 ⟨a,1,none⟩ (vS J L K) fun P=>
 Za P ⟨a,2,none⟩ (vI vU M) fun Q=>
 Za Q ⟨a,3,none⟩ (vI wI N) fun R=>
 Za R ⟨a,4,none⟩ (vI wI O) fun d=>
 ∃j,d.cell ⟨a,0,none⟩=some (vI wI j)∧∃l p n,d.cell ⟨a,1,none⟩=some (vS l p n)∧∃r,d.cell ⟨a,2,none⟩=some (vI vU r)∧∃t,d.cell ⟨a,3,none⟩=some (vI wI t)∧∃v,d.cell ⟨a,4,none⟩=some (vI wI v)∧h (vA ⟨[(vI wI j),(vS l p n),(vI vU r),(vI wI t),(vI wI v)]⟩) d)
 (Za c ⟨a,0,none⟩ (vI wI a4) fun S=>
 Za S ⟨a,1,none⟩ (vS g f i) fun T=>
 Za T ⟨a,2,none⟩ (vI vU 0) fun U=>
 Za U ⟨a,3,none⟩ (vI wI 0) fun V=>
 Za V ⟨a,4,none⟩ (vI wI 0) fun e=>
 ∃k,e.cell ⟨a,0,none⟩=some (vI wI k)∧∃m q o,e.cell ⟨a,1,none⟩=some (vS m q o)∧∃s,e.cell ⟨a,2,none⟩=some (vI vU s)∧∃u,e.cell ⟨a,3,none⟩=some (vI wI u)∧∃w,e.cell ⟨a,4,none⟩=some (vI wI w)∧h (vA ⟨[(vI wI k),(vS m q o),(vI vU s),(vI wI u),(vI wI w)]⟩) e))
def Zbul (s:Nat) (r:Int) (p:ByteArray) (c:FuncId) (d:Value) (a:Heap) (o:Value->Heap->Prop):Prop:=
 NewW a (Obj.cells ⟨[(vI wI 0),(vS none 0 0),(vI vU 0),(vI wI 0),(vI wI 0)]⟩ Zba) fun v l=>
 FnW wP c ⟨[d]⟩ l fun t m=>
 ∃e,∃(f:Option Addr) (h g:Nat),∃i:Int,∃j:Int,∃k:Int,t=(vA ⟨[(vI wI e),(vS f h g),(vI vU i),(vI wI j),(vI wI k)]⟩)∧
 NewW m (Obj.cells ⟨[(vI wI e),(vS f h g),(vI vU i),(vI wI j),(vI wI k)]⟩ Zba) fun u n=>
 Zbw ((Option Addr×Nat×Nat)×Unit) (((some ⟨u,0,none⟩),1,1),()) n fun b a q=>∀w:Env,Zbuk s r p c d v b.1.1 b.1.2.1 b.1.2.2 a q o
theorem Zcme (g:Nat) (f:Int) (d:ByteArray) (e:FuncId) (h:Value) {a:Heap} {c:Value->Heap->Prop} (j:Zbul g f d e h a fun k i=>∀b,Shut a i b->c k b):FnW wP Zuw ⟨[(vP (some ⟨g,0,none⟩)),(vI wI f),(Value.string d),(vF (.func e) #[h] #[])]⟩ a c:=Zj Tryz.func148 ⟨[],[(2,[9],[.slice],[0,1,2,3,8])],[],[]⟩ (by kernel_rfl) (by kernel_rfl) j
def Zbvw (c:Nat) (r:Heap) (y:Value->Heap->Prop):Prop:=
 NewW r (Obj.cells ⟨[(vI wI 0),(vS none 0 0),(vI vU 0),(vI wI 0),(vI wI 0)]⟩ Zba) fun a s=>
 FnW wP Zuw ⟨[(vP (some ⟨c,0,none⟩)),(vI wI 1),(Value.string (ByteArray.mk #[97,110,100])),(vF (.func Znh) #[(vP (some ⟨c,0,none⟩))] #[])]⟩ s fun z t=>
 ∃k,∃(l:Option Addr) (n m:Nat),∃o:Int,∃p:Int,∃q:Int,z=(vA ⟨[(vI wI k),(vS l n m),(vI vU o),(vI wI p),(vI wI q)]⟩)∧
 Za t ⟨a,0,none⟩ (vI wI k) fun u=>
 Za u ⟨a,1,none⟩ (vS l n m) fun v=>
 Za v ⟨a,2,none⟩ (vI vU o) fun w=>
 Za w ⟨a,3,none⟩ (vI wI p) fun x=>
 Za x ⟨a,4,none⟩ (vI wI q) fun b=>
 ∃d,b.cell ⟨a,0,none⟩=some (vI wI d)∧∃e g f,b.cell ⟨a,1,none⟩=some (vS e g f)∧∃h,b.cell ⟨a,2,none⟩=some (vI vU h)∧∃i,b.cell ⟨a,3,none⟩=some (vI wI i)∧∃j,b.cell ⟨a,4,none⟩=some (vI wI j)∧y (vA ⟨[(vI wI d),(vS e g f),(vI vU h),(vI wI i),(vI wI j)]⟩) b
theorem Zcnh (d:Nat) {a:Heap} {c:Value->Heap->Prop} (f:Zbvw d a fun g e=>∀b,Shut a e b->c g b):FnW wP Zbch ⟨[(vP (some ⟨d,0,none⟩))]⟩ a c:=Zj Tryz.func149 ⟨[],[],[],[]⟩ (by kernel_rfl) (by kernel_rfl) f
def Zbum (a:Nat) (l:ByteArray) (i:Heap) (c:Value->Heap->Prop):Prop:=
 FnW wP Zqw ⟨[(vP (some ⟨a,0,none⟩)),(Value.string l)]⟩ i fun m b=>
 ∃h,m=vB h∧
 IfB (!h)
 (c (vB false) b)
 (∃e,b.cell ⟨a,2,none⟩=some (vI wI e)∧
 IfB (e==24)
 (Za b ⟨a,3,none⟩ (vB true) fun j=>
 c (vB false) j)
 (∃f,b.cell ⟨a,1,none⟩=some (vI wI f)∧
 Za b ⟨a,1,none⟩ (vI wI (vW wI (f+1))) fun d=>
 ∃g,d.cell ⟨a,2,none⟩=some (vI wI g)∧
 Za d ⟨a,2,none⟩ (vI wI (vW wI (g+1))) fun k=>
 c (vB true) k))
theorem Zcmf (d:Nat) (e:ByteArray) {a:Heap} {c:Value->Heap->Prop} (g:Zbum d e a fun h f=>∀b,Shut a f b->c h b):FnW wP Zqv ⟨[(vP (some ⟨d,0,none⟩)),(Value.string e)]⟩ a c:=Zj Tryz.func150 ⟨[],[],[],[]⟩ (by kernel_rfl) (by kernel_rfl) g
def Zza (f a d:Nat) (e:Heap) (z:Value->Heap->Prop):Prop:=
 ∃n,e.cell ⟨f,2,none⟩=some (vI wI n)∧
 Za e ⟨f,2,none⟩ (vI wI (vW wI (n - 1))) fun b=>
 ∃o,b.cell ⟨d,0,none⟩=some (vI wI o)∧∃p r q,b.cell ⟨d,1,none⟩=some (vS p r q)∧∃s,b.cell ⟨d,2,none⟩=some (vI vU s)∧∃t,b.cell ⟨d,3,none⟩=some (vI wI t)∧∃u,b.cell ⟨d,4,none⟩=some (vI wI u)∧Za b ⟨a,0,none⟩ (vI wI o) fun v=>
 Za v ⟨a,1,none⟩ (vS p r q) fun w=>
 Za w ⟨a,2,none⟩ (vI vU s) fun x=>
 Za x ⟨a,3,none⟩ (vI wI t) fun y=>
 Za y ⟨a,4,none⟩ (vI wI u) fun c=>
 ∃g,c.cell ⟨a,0,none⟩=some (vI wI g)∧∃h j i,c.cell ⟨a,1,none⟩=some (vS h j i)∧∃k,c.cell ⟨a,2,none⟩=some (vI vU k)∧∃l,c.cell ⟨a,3,none⟩=some (vI wI l)∧∃m,c.cell ⟨a,4,none⟩=some (vI wI m)∧z (vA ⟨[(vI wI g),(vS h j i),(vI vU k),(vI wI l),(vI wI m)]⟩) c
def Zbtv (c:Nat) (L:Heap) (e:Value->Heap->Prop):Prop:=
 NewW L (Obj.cells ⟨[(vI wI 0),(vS none 0 0),(vI vU 0),(vI wI 0),(vI wI 0)]⟩ Zba) fun b M=>
 NewW M (Obj.cells ⟨[(vI wI 0),(vS none 0 0),(vI vU 0),(vI wI 0),(vI wI 0)]⟩ Zba) fun a P=>
 FnW wP Zqv ⟨[(vP (some ⟨c,0,none⟩)),(Value.string (ByteArray.mk #[110,111,116]))]⟩ P fun b1 g=>
 ∃D,b1=vB D∧
 IfB D
 (FnW wP Znh ⟨[(vP (some ⟨c,0,none⟩))]⟩ g fun b2 a1=>
 ∃E,∃(F:Option Addr) (H G:Nat),∃I:Int,∃J:Int,∃K:Int,b2=(vA ⟨[(vI wI E),(vS F H G),(vI vU I),(vI wI J),(vI wI K)]⟩)∧
 NewW a1 (Obj.cells ⟨[(vI wI E),(vS F H G),(vI vU I),(vI wI J),(vI wI K)]⟩ Zba) fun b3 a2=>
 Za a2 ⟨a,0,none⟩ (vI wI 3) fun a3=>
 Za a3 ⟨a,1,none⟩ (vS (some ⟨b3,0,none⟩) 1 1) fun a4=>
 Za a4 ⟨a,2,none⟩ (vI vU 0) fun a5=>
 Za a5 ⟨a,3,none⟩ (vI wI 0) fun a6=>
 Za a6 ⟨a,4,none⟩ (vI wI 0) fun N=>
 Zza c b a N e)
 (FnW wP Zqv ⟨[(vP (some ⟨c,0,none⟩)),(Value.string (ByteArray.mk #[40]))]⟩ g fun a7 f=>
 ∃o,a7=vB o∧
 IfB o
 (FnW wP Znk ⟨[(vP (some ⟨c,0,none⟩))]⟩ f fun a8 O=>
 ∃p,∃(q:Option Addr) (s r:Nat),∃t:Int,∃u:Int,∃v:Int,a8=(vA ⟨[(vI wI p),(vS q s r),(vI vU t),(vI wI u),(vI wI v)]⟩)∧
 Za O ⟨a,0,none⟩ (vI wI p) fun Q=>
 Za Q ⟨a,1,none⟩ (vS q s r) fun R=>
 Za R ⟨a,2,none⟩ (vI vU t) fun S=>
 Za S ⟨a,3,none⟩ (vI wI u) fun T=>
 Za T ⟨a,4,none⟩ (vI wI v) fun U=>
 FnW wP Zhk ⟨[(vP (some ⟨c,0,none⟩)),(Value.string (ByteArray.mk #[41]))]⟩ U fun a9 V=>
 a9=vT ⟨[]⟩∧
 Zza c b a V e)
 (FnW wP Zbca ⟨[(vP (some ⟨c,0,none⟩))]⟩ f fun b0 W=>
 ∃w,∃(x:Option Addr) (z y:Nat),∃A:Int,∃B:Int,∃C:Int,b0=(vA ⟨[(vI wI w),(vS x z y),(vI vU A),(vI wI B),(vI wI C)]⟩)∧
 Za W ⟨b,0,none⟩ (vI wI w) fun X=>
 Za X ⟨b,1,none⟩ (vS x z y) fun Y=>
 Za Y ⟨b,2,none⟩ (vI vU A) fun Z=>
 Za Z ⟨b,3,none⟩ (vI wI B) fun a0=>
 Za a0 ⟨b,4,none⟩ (vI wI C) fun d=>
 ∃h,d.cell ⟨b,0,none⟩=some (vI wI h)∧∃i k j,d.cell ⟨b,1,none⟩=some (vS i k j)∧∃l,d.cell ⟨b,2,none⟩=some (vI vU l)∧∃m,d.cell ⟨b,3,none⟩=some (vI wI m)∧∃n,d.cell ⟨b,4,none⟩=some (vI wI n)∧e (vA ⟨[(vI wI h),(vS i k j),(vI vU l),(vI wI m),(vI wI n)]⟩) d))
theorem Zclv (d:Nat) {a:Heap} {c:Value->Heap->Prop} (f:Zbtv d a fun g e=>∀b,Shut a e b->c g b):FnW wP Znh ⟨[(vP (some ⟨d,0,none⟩))]⟩ a c:=Zj Tryz.func174 ⟨[],[],[],[]⟩ (by kernel_rfl) (by kernel_rfl) f
def Ztk (q a:Nat) (j:Heap) (p:Value->Heap->Prop):Prop:=
 Za j ⟨q,3,none⟩ (vB true) fun k=>
 Za k ⟨a,0,none⟩ (vI wI 0) fun l=>
 Za l ⟨a,1,none⟩ (vS none 0 0) fun m=>
 Za m ⟨a,2,none⟩ (vI vU 0) fun n=>
 Za n ⟨a,3,none⟩ (vI wI 0) fun o=>
 Za o ⟨a,4,none⟩ (vI wI 0) fun b=>
 ∃c,b.cell ⟨a,0,none⟩=some (vI wI c)∧∃d f e,b.cell ⟨a,1,none⟩=some (vS d f e)∧∃g,b.cell ⟨a,2,none⟩=some (vI vU g)∧∃h,b.cell ⟨a,3,none⟩=some (vI wI h)∧∃i,b.cell ⟨a,4,none⟩=some (vI wI i)∧p (vA ⟨[(vI wI c),(vS d f e),(vI vU g),(vI wI h),(vI wI i)]⟩) b
def Zbtz (b:Nat) (a7:Heap) (c:Value->Heap->Prop):Prop:=
 NewW a7 (Obj.cells ⟨[(vI wI 0),(vS none 0 0),(vI vU 0),(vI wI 0),(vI wI 0)]⟩ Zba) fun a a8=>
 NewW a8 (Obj.cells ⟨[(Value.string (ByteArray.mk #[112,114,101,102,105,120])),(Value.string (ByteArray.mk #[112,97,116,104])),(Value.string (ByteArray.mk #[99,111,109,109,117,110,105,116,121])),(Value.string (ByteArray.mk #[111,114,105,103,105,110])),(Value.string (ByteArray.mk #[109,101,100]))]⟩ Zm) fun e6 b5=>
 FnW wP Zlk ⟨[(vP (some ⟨b,0,none⟩)),(vS (some ⟨e6,0,none⟩) 5 5)]⟩ b5 fun e7 e=>
 ∃j,e7=vI wI j∧
 IfB (j==0)
 (FnW wP Zbcb ⟨[(vP (some ⟨b,0,none⟩))]⟩ e fun d7 c8=>
 ∃X,∃(Y:Option Addr) (a0 Z:Nat),∃a1:Int,∃a2:Int,∃a3:Int,d7=(vA ⟨[(vI wI X),(vS Y a0 Z),(vI vU a1),(vI wI a2),(vI wI a3)]⟩)∧
 Za c8 ⟨a,0,none⟩ (vI wI X) fun d3=>
 Za d3 ⟨a,1,none⟩ (vS Y a0 Z) fun d4=>
 Za d4 ⟨a,2,none⟩ (vI vU a1) fun d5=>
 Za d5 ⟨a,3,none⟩ (vI wI a2) fun d6=>
 Za d6 ⟨a,4,none⟩ (vI wI a3) fun i=>
 ∃o,i.cell ⟨a,0,none⟩=some (vI wI o)∧∃t D y,i.cell ⟨a,1,none⟩=some (vS t D y)∧∃I,i.cell ⟨a,2,none⟩=some (vI vU I)∧∃N,i.cell ⟨a,3,none⟩=some (vI wI N)∧∃S,i.cell ⟨a,4,none⟩=some (vI wI S)∧c (vA ⟨[(vI wI o),(vS t D y),(vI vU I),(vI wI N),(vI wI S)]⟩) i)
 (IfB (j==1)
 (NewW e (Obj.cells ⟨[(Value.string (ByteArray.mk #[104,97,115])),(Value.string (ByteArray.mk #[102,114,111,109])),(Value.string (ByteArray.mk #[111,114,105,103,105,110])),(Value.string (ByteArray.mk #[108,111,110,103,101,114]))]⟩ Zm) fun d8 a9=>
 FnW wP Zlk ⟨[(vP (some ⟨b,0,none⟩)),(vS (some ⟨d8,0,none⟩) 4 4)]⟩ a9 fun d9 m=>
 ∃k,d9=vI wI k∧
 IfB (decide (k≥0))
 (FnW wP Zdm ⟨[(vP (some ⟨b,0,none⟩)),(vI wI 2)]⟩ m fun e0 b0=>
 ∃a4,e0=vI wI a4∧
 Za b0 ⟨a,0,none⟩ (vI wI (vW wI (6+k))) fun b1=>
 Za b1 ⟨a,1,none⟩ (vS none 0 0) fun b2=>
 Za b2 ⟨a,2,none⟩ (vI vU 0) fun b3=>
 Za b3 ⟨a,3,none⟩ (vI wI 0) fun b4=>
 Za b4 ⟨a,4,none⟩ (vI wI a4) fun d=>
 ∃p,d.cell ⟨a,0,none⟩=some (vI wI p)∧∃u E z,d.cell ⟨a,1,none⟩=some (vS u E z)∧∃J,d.cell ⟨a,2,none⟩=some (vI vU J)∧∃O,d.cell ⟨a,3,none⟩=some (vI wI O)∧∃T,d.cell ⟨a,4,none⟩=some (vI wI T)∧c (vA ⟨[(vI wI p),(vS u E z),(vI vU J),(vI wI O),(vI wI T)]⟩) d)
 (Ztk b a m c))
 (IfB (j==2)
 (FnW wP Zdm ⟨[(vP (some ⟨b,0,none⟩)),(vI wI 5)]⟩ e fun e1 b6=>
 ∃a5,e1=vI wI a5∧
 Za b6 ⟨a,0,none⟩ (vI wI 10) fun b7=>
 Za b7 ⟨a,1,none⟩ (vS none 0 0) fun b8=>
 Za b8 ⟨a,2,none⟩ (vI vU 0) fun b9=>
 Za b9 ⟨a,3,none⟩ (vI wI 0) fun c0=>
 Za c0 ⟨a,4,none⟩ (vI wI a5) fun f=>
 ∃q,f.cell ⟨a,0,none⟩=some (vI wI q)∧∃v F A,f.cell ⟨a,1,none⟩=some (vS v F A)∧∃K,f.cell ⟨a,2,none⟩=some (vI vU K)∧∃P,f.cell ⟨a,3,none⟩=some (vI wI P)∧∃U,f.cell ⟨a,4,none⟩=some (vI wI U)∧c (vA ⟨[(vI wI q),(vS v F A),(vI vU K),(vI wI P),(vI wI U)]⟩) f)
 (IfB (j==3)
 (NewW e (Obj.cells ⟨[(Value.string (ByteArray.mk #[105,110,110,101,114])),(Value.string (ByteArray.mk #[111,117,116,101,114])),(Value.string (ByteArray.mk #[117,110,107,110,111,119,110]))]⟩ Zm) fun e2 c1=>
 FnW wP Zlk ⟨[(vP (some ⟨b,0,none⟩)),(vS (some ⟨e2,0,none⟩) 3 3)]⟩ c1 fun e3 n=>
 ∃l,e3=vI wI l∧
 IfB (decide (l≥0))
 (Za n ⟨a,0,none⟩ (vI wI 11) fun c2=>
 Za c2 ⟨a,1,none⟩ (vS none 0 0) fun c3=>
 Za c3 ⟨a,2,none⟩ (vI vU 0) fun c4=>
 Za c4 ⟨a,3,none⟩ (vI wI 0) fun c5=>
 Za c5 ⟨a,4,none⟩ (vI wI l) fun g=>
 ∃r,g.cell ⟨a,0,none⟩=some (vI wI r)∧∃w G B,g.cell ⟨a,1,none⟩=some (vS w G B)∧∃L,g.cell ⟨a,2,none⟩=some (vI vU L)∧∃Q,g.cell ⟨a,3,none⟩=some (vI wI Q)∧∃V,g.cell ⟨a,4,none⟩=some (vI wI V)∧c (vA ⟨[(vI wI r),(vS w G B),(vI vU L),(vI wI Q),(vI wI V)]⟩) g)
 (Ztk b a n c))
 (IfB (j==4)
 (FnW wP Zhk ⟨[(vP (some ⟨b,0,none⟩)),(Value.string (ByteArray.mk #[97,98,111,118,101]))]⟩ e fun e4 c6=>
 e4=vT ⟨[]⟩∧
 FnW wP Zdm ⟨[(vP (some ⟨b,0,none⟩)),(vI wI 2)]⟩ c6 fun e5 c7=>
 ∃a6,e5=vI wI a6∧
 Za c7 ⟨a,0,none⟩ (vI wI 12) fun c9=>
 Za c9 ⟨a,1,none⟩ (vS none 0 0) fun d0=>
 Za d0 ⟨a,2,none⟩ (vI vU 0) fun d1=>
 Za d1 ⟨a,3,none⟩ (vI wI 0) fun d2=>
 Za d2 ⟨a,4,none⟩ (vI wI a6) fun h=>
 ∃s,h.cell ⟨a,0,none⟩=some (vI wI s)∧∃x H C,h.cell ⟨a,1,none⟩=some (vS x H C)∧∃M,h.cell ⟨a,2,none⟩=some (vI vU M)∧∃R,h.cell ⟨a,3,none⟩=some (vI wI R)∧∃W,h.cell ⟨a,4,none⟩=some (vI wI W)∧c (vA ⟨[(vI wI s),(vS x H C),(vI vU M),(vI wI R),(vI wI W)]⟩) h)
 (Ztk b a e c)))))
theorem Zcly (d:Nat) {a:Heap} {c:Value->Heap->Prop} (f:Zbtz d a fun g e=>∀b,Shut a e b->c g b):FnW wP Zbca ⟨[(vP (some ⟨d,0,none⟩))]⟩ a c:=Zj Tryz.func185 ⟨[],[],[],[]⟩ (by kernel_rfl) (by kernel_rfl) f
def Zzj (a d:Nat) (b:Heap) (w:Value->Heap->Prop):Prop:=
 ∃l,b.cell ⟨d,0,none⟩=some (vI wI l)∧∃m o n,b.cell ⟨d,1,none⟩=some (vS m o n)∧∃p,b.cell ⟨d,2,none⟩=some (vI vU p)∧∃q,b.cell ⟨d,3,none⟩=some (vI wI q)∧∃r,b.cell ⟨d,4,none⟩=some (vI wI r)∧Za b ⟨a,0,none⟩ (vI wI l) fun s=>
 Za s ⟨a,1,none⟩ (vS m o n) fun t=>
 Za t ⟨a,2,none⟩ (vI vU p) fun u=>
 Za u ⟨a,3,none⟩ (vI wI q) fun v=>
 Za v ⟨a,4,none⟩ (vI wI r) fun c=>
 ∃e,c.cell ⟨a,0,none⟩=some (vI wI e)∧∃f h g,c.cell ⟨a,1,none⟩=some (vS f h g)∧∃i,c.cell ⟨a,2,none⟩=some (vI vU i)∧∃j,c.cell ⟨a,3,none⟩=some (vI wI j)∧∃k,c.cell ⟨a,4,none⟩=some (vI wI k)∧w (vA ⟨[(vI wI e),(vS f h g),(vI vU i),(vI wI j),(vI wI k)]⟩) c
def Zbun (e:Nat) (D:Heap) (f:Value->Heap->Prop):Prop:=
 NewW D (Obj.cells ⟨[(vI wI 0),(vS none 0 0),(vI vU 0),(vI wI 0),(vI wI 0)]⟩ Zba) fun b E=>
 NewW E (Obj.cells ⟨[(vI wI 0),(vS none 0 0),(vI vU 0),(vI wI 0),(vI wI 0)]⟩ Zba) fun a N=>
 Za N ⟨a,0,none⟩ (vI wI 5) fun U=>
 Za U ⟨a,1,none⟩ (vS none 0 0) fun V=>
 Za V ⟨a,2,none⟩ (vI vU 0) fun W=>
 Za W ⟨a,3,none⟩ (vI wI 0) fun X=>
 Za X ⟨a,4,none⟩ (vI wI 0) fun Y=>
 FnW wP Zfq ⟨[(vP (some ⟨e,0,none⟩)),(Value.string (ByteArray.mk #[105,115]))]⟩ Y fun a8 h=>
 ∃A,a8=vB A∧
 IfB A
 (FnW wP Zje ⟨[(vP (some ⟨e,0,none⟩)),(vI wI 4)]⟩ h fun b3 Z=>
 ∃a9,∃b0:ByteArray,∃b1:Int,∃B:Int,∃C:Int,∃b2:Int,b3=(vA ⟨[(vI wI a9),(Value.string b0),(vI wI b1),(vI vU B),(vI wI C),(vI wI b2)]⟩)∧
 Za Z ⟨a,2,none⟩ (vI vU B) fun F=>
 Za F ⟨a,3,none⟩ (vI wI C) fun c=>
 ∃p,c.cell ⟨a,0,none⟩=some (vI wI p)∧∃q s r,c.cell ⟨a,1,none⟩=some (vS q s r)∧∃t,c.cell ⟨a,2,none⟩=some (vI vU t)∧∃u,c.cell ⟨a,3,none⟩=some (vI wI u)∧∃v,c.cell ⟨a,4,none⟩=some (vI wI v)∧Za c ⟨b,0,none⟩ (vI wI p) fun G=>
 Za G ⟨b,1,none⟩ (vS q s r) fun H=>
 Za H ⟨b,2,none⟩ (vI vU t) fun I=>
 Za I ⟨b,3,none⟩ (vI wI u) fun J=>
 Za J ⟨b,4,none⟩ (vI wI v) fun d=>
 ∃i,d.cell ⟨b,0,none⟩=some (vI wI i)∧∃j l k,d.cell ⟨b,1,none⟩=some (vS j l k)∧∃m,d.cell ⟨b,2,none⟩=some (vI vU m)∧∃n,d.cell ⟨b,3,none⟩=some (vI wI n)∧∃o,d.cell ⟨b,4,none⟩=some (vI wI o)∧f (vA ⟨[(vI wI i),(vS j l k),(vI vU m),(vI wI n),(vI wI o)]⟩) d)
 (FnW wP Zhk ⟨[(vP (some ⟨e,0,none⟩)),(Value.string (ByteArray.mk #[105,110]))]⟩ h fun a0 K=>
 a0=vT ⟨[]⟩∧
 FnW wP Zje ⟨[(vP (some ⟨e,0,none⟩)),(vI wI 4)]⟩ K fun a5 L=>
 ∃a1,∃a2:ByteArray,∃a3:Int,∃w:Int,∃x:Int,∃a4:Int,a5=(vA ⟨[(vI wI a1),(Value.string a2),(vI wI a3),(vI vU w),(vI wI x),(vI wI a4)]⟩)∧
 Za L ⟨a,0,none⟩ (vI wI 4) fun M=>
 Za M ⟨a,1,none⟩ (vS none 0 0) fun O=>
 Za O ⟨a,2,none⟩ (vI vU w) fun P=>
 Za P ⟨a,3,none⟩ (vI wI x) fun Q=>
 Za Q ⟨a,4,none⟩ (vI wI 32) fun R=>
 FnW wP Zfq ⟨[(vP (some ⟨e,0,none⟩)),(Value.string (ByteArray.mk #[108,101]))]⟩ R fun a6 g=>
 ∃y,a6=vB y∧
 IfB y
 (FnW wP Zdm ⟨[(vP (some ⟨e,0,none⟩)),(vI wI 2)]⟩ g fun a7 S=>
 ∃z,a7=vI wI z∧
 Za S ⟨a,4,none⟩ (vI wI z) fun T=>
 Zzj b a T f)
 (Zzj b a g f))
theorem Zcmh (d:Nat) {a:Heap} {c:Value->Heap->Prop} (f:Zbun d a fun g e=>∀b,Shut a e b->c g b):FnW wP Zbcb ⟨[(vP (some ⟨d,0,none⟩))]⟩ a c:=Zj Tryz.func189 ⟨[],[],[],[]⟩ (by kernel_rfl) (by kernel_rfl) f
end Go.Proofs.YtlkdgfolbllngaaGreatDoor
end
section
set_option maxRecDepth 100000
namespace Go.Proofs.YtlkdgfolbllngaaGreatDoor
open Go.Sh
open Value renaming int -> vI, slice -> vS, pointer -> vP, bool -> vB, tuple -> vT, agg -> vA, func -> vF
open IntKind renaming wrap -> vW, i64 -> wI, u32 -> vU
open Go.Proofs.Tryz renaming prog -> wP
def Zbvz (a:ByteArray) (b:Heap) (c:Value->Heap->Prop):Prop:=
 IfB (decide (((a.size:Int):Int)>65536))
 (InC 65537 a.size fun e=>
 c (Value.string (ByteArray.extract a 0 e)) b)
 (InC (min (a.size:Int) 1500) a.size fun d=>
 c (Value.string (ByteArray.extract a 0 d)) b)
theorem Zcnk (d:ByteArray) {a:Heap} {c:Value->Heap->Prop} (f:Zbvz d a fun g e=>∀b,Shut a e b->c g b):FnW wP Zbci ⟨[(Value.string d)]⟩ a c:=Zj Tryz.func6 ⟨[],[],[],[]⟩ (by kernel_rfl) (by kernel_rfl) f
def Zbgx (f g:Nat) (c:Int) (d:(Int×Unit)->Heap->Prop) (e:Bool) (a:Heap) (b:Value->Heap->Prop):Prop:=
 IfB e
 (b (vB false) a)
 (d ((vW wI (c+1)),()) a)
def Zbsv (f z:Nat) (J:(Int×Unit)->Heap->Prop) (d:Int) (a:Heap) (A:(Int×Unit)->Heap->Prop) (e:Value->Heap->Prop):Prop:=
 ∃H y I,a.cell ⟨f,6,none⟩=some (vS H y I)∧
 IfB (decide (d<(y:Int)))
 (∃g h B,a.cell ⟨f,6,none⟩=some (vS g h B)∧
 NilP g fun D=>
 InB d h fun C=>
 elemAt D C 7 fun b=>
 ∃i,a.cell b=some (Value.string i)∧∃j,a.cell ⟨b.block,b.off+1,none⟩=some (vI vU j)∧∃k,a.cell ⟨b.block,b.off+2,none⟩=some (vI vU k)∧∃l,a.cell ⟨b.block,b.off+3,none⟩=some (vB l)∧∃m,a.cell ⟨b.block,b.off+4,none⟩=some (vI wI m)∧∃n,a.cell ⟨b.block,b.off+5,none⟩=some (Value.string n)∧∃o,a.cell ⟨b.block,b.off+6,none⟩=some (Value.string o)∧∃p q E,a.cell ⟨z,6,none⟩=some (vS p q E)∧
 NilP p fun G=>
 InB d q fun F=>
 elemAt G F 7 fun c=>
 ∃r,a.cell c=some (Value.string r)∧∃s,a.cell ⟨c.block,c.off+1,none⟩=some (vI vU s)∧∃t,a.cell ⟨c.block,c.off+2,none⟩=some (vI vU t)∧∃u,a.cell ⟨c.block,c.off+3,none⟩=some (vB u)∧∃v,a.cell ⟨c.block,c.off+4,none⟩=some (vI wI v)∧∃w,a.cell ⟨c.block,c.off+5,none⟩=some (Value.string w)∧∃x,a.cell ⟨c.block,c.off+6,none⟩=some (Value.string x)∧Program.eqGuardType wP (Program.depth wP) Zbh=false∧
 IfB (!((i==r)&&((j==s)&&((k==t)&&((l==u)&&((m==v)&&((n==w)&&((o==x)&&true))))))))
 (e (vB false) a)
 (A ((vW wI (d+1)),()) a))
 (e (vB true) a)
def Zbsu (c d:Nat) (b:Int) (a:Heap) (f:(Int×Unit)->Heap->Prop) (e:Value->Heap->Prop):Prop:=
 ∃E g F,a.cell ⟨c,5,none⟩=some (vS E g F)∧
 IfB (decide (b<(g:Int)))
 (∃h i G,a.cell ⟨c,5,none⟩=some (vS h i G)∧
 NilP h fun J=>
 InB b i fun H=>
 elemAt J H 2 fun I=>
 ∃j,a.cell I=some (Value.string j)∧
 ∃k l K,a.cell ⟨d,5,none⟩=some (vS k l K)∧
 NilP k fun N=>
 InB b l fun L=>
 elemAt N L 2 fun M=>
 ∃m,a.cell M=some (Value.string m)∧
 IfB (!(j.toList==m.toList))
 (Zbgx c d b f true a e)
 (∃n o O,a.cell ⟨c,5,none⟩=some (vS n o O)∧
 NilP n fun Q=>
 InB b o fun P=>
 elemAt Q P 2 fun p=>
 ∃q s r,a.cell ⟨p.block,p.off+1,none⟩=some (vS q s r)∧
 ∃t u R,a.cell ⟨d,5,none⟩=some (vS t u R)∧
 NilP t fun T=>
 InB b u fun S=>
 elemAt T S 2 fun v=>
 ∃w y x,a.cell ⟨v.block,v.off+1,none⟩=some (vS w y x)∧
 FnW wP Zng ⟨[(vS q s r),(vS w y x)]⟩ a fun U B=>
 ∃z,U=vB z∧
 Zbgx c d b f (!z) B e))
 (Zbw (Int×Unit) (0,()) a fun D A C=>∀V:Env,Zbsv c d f D.1 A C e)
def Zku (d e:Nat) (h:Bool) (a:Heap) (b:Value->Heap->Prop):Prop:=
 IfB h
 (b (vB false) a)
 (Zbw (Int×Unit) (0,()) a fun g c f=>∀i:Env,Zbsu d e g.1 c f b)
def Zbsw (u v w x y:Int) (z:Option Addr) (B A:Nat) (C:Option Addr) (E D:Nat) (F G H I J:Int) (K:Option Addr) (M L:Nat) (N:Option Addr) (P O:Nat) (s:Heap) (d:Value->Heap->Prop):Prop:=
 NewW s (Obj.cells ⟨[(vI vU u),(vI vU v),(vI wI w),(vI wI x),(vI wI y),(vS z B A),(vS C E D)]⟩ Zcc) fun b t=>
 NewW t (Obj.cells ⟨[(vI vU F),(vI vU G),(vI wI H),(vI wI I),(vI wI J),(vS K M L),(vS N P O)]⟩ Zcc) fun c a=>
 ∃r,a.cell ⟨b,0,none⟩=some (vI vU r)∧
 ∃e,a.cell ⟨c,0,none⟩=some (vI vU e)∧
 IfB (r !=e)
 (Zku b c true a d)
 (∃f,a.cell ⟨b,1,none⟩=some (vI vU f)∧
 ∃g,a.cell ⟨c,1,none⟩=some (vI vU g)∧
 IfB (f !=g)
 (Zku b c true a d)
 (∃h,a.cell ⟨b,2,none⟩=some (vI wI h)∧
 ∃i,a.cell ⟨c,2,none⟩=some (vI wI i)∧
 IfB (h !=i)
 (Zku b c true a d)
 (∃j,a.cell ⟨b,3,none⟩=some (vI wI j)∧
 ∃k,a.cell ⟨c,3,none⟩=some (vI wI k)∧
 IfB (j !=k)
 (Zku b c true a d)
 (∃l,a.cell ⟨b,4,none⟩=some (vI wI l)∧
 ∃m,a.cell ⟨c,4,none⟩=some (vI wI m)∧
 IfB (l !=m)
 (Zku b c true a d)
 (∃Q n R,a.cell ⟨b,5,none⟩=some (vS Q n R)∧
 ∃S o T,a.cell ⟨c,5,none⟩=some (vS S o T)∧
 IfB (((n:Int):Int) !=(o:Int))
 (Zku b c true a d)
 (∃U p V,a.cell ⟨b,6,none⟩=some (vS U p V)∧
 ∃W q X,a.cell ⟨c,6,none⟩=some (vS W q X)∧
 Zku b c (((p:Int):Int) !=(q:Int)) a d))))))
theorem Zcle (d e f g h:Int) (i:Option Addr) (k j:Nat) (l:Option Addr) (n m:Nat) (o p q r s:Int) (t:Option Addr) (v u:Nat) (w:Option Addr) (y x:Nat) {a:Heap} {c:Value->Heap->Prop} (A:Zbsw d e f g h i k j l n m o p q r s t v u w y x a fun B z=>∀b,Shut a z b->c B b):FnW wP Zbbv ⟨[(vA ⟨[(vI vU d),(vI vU e),(vI wI f),(vI wI g),(vI wI h),(vS i k j),(vS l n m)]⟩),(vA ⟨[(vI vU o),(vI vU p),(vI wI q),(vI wI r),(vI wI s),(vS t v u),(vS w y x)]⟩)]⟩ a c:=Zj Tryz.func9 ⟨[],[(4,[5],[.int wI],[2,3]),(9,[6],[.int wI],[2,3])],[],[]⟩ (by kernel_rfl) (by kernel_rfl) A
def Zmk (f:Option Addr) (h g:Nat) (i:Option Addr) (k j:Nat) (c:Int) (d:(Int×Unit)->Heap->Prop) (e:Bool) (a:Heap) (b:Value->Heap->Prop):Prop:=
 IfB e
 (b (vB false) a)
 (d ((vW wI (c+1)),()) a)
def Zbth (k:Option Addr) (i n:Nat) (l:Option Addr) (m o:Nat) (h:Int) (a:Heap) (p:(Int×Unit)->Heap->Prop) (j:Value->Heap->Prop):Prop:=
 IfB (decide (h<(i:Int)))
 (∃s:List Nat,(∀b∈s,∃f6,a b=some f6)∧
 NilP k fun f8=>
 InB h i fun f7=>
 elemAt f8 f7 10 fun g=>
 ∃u,a.cell g=some (vI wI u)∧∃v,a.cell ⟨g.block,g.off+1,none⟩=some (vI wI v)∧∃w y x,a.cell ⟨g.block,g.off+2,none⟩=some (vS w y x)∧∃z,a.cell ⟨g.block,g.off+3,none⟩=some (vI vU z)∧∃A,a.cell ⟨g.block,g.off+4,none⟩=some (vI wI A)∧∃B,a.cell ⟨g.block,g.off+5,none⟩=some (vI wI B)∧∃C E D,a.cell ⟨g.block,g.off+6,none⟩=some (vS C E D)∧∃F H G,a.cell ⟨g.block,g.off+7,none⟩=some (vS F H G)∧∃I,a.cell ⟨g.block,g.off+8,none⟩=some (vI wI I)∧∃J,a.cell ⟨g.block,g.off+9,none⟩=some (vI wI J)∧NilP l fun g0=>
 InB h m fun f9=>
 elemAt g0 f9 10 fun d=>
 d.block∈s∧∃K,a.cell d=some (vI wI K)∧∃L,a.cell ⟨d.block,d.off+1,none⟩=some (vI wI L)∧∃M O N,a.cell ⟨d.block,d.off+2,none⟩=some (vS M O N)∧∃P,a.cell ⟨d.block,d.off+3,none⟩=some (vI vU P)∧∃Q,a.cell ⟨d.block,d.off+4,none⟩=some (vI wI Q)∧∃R,a.cell ⟨d.block,d.off+5,none⟩=some (vI wI R)∧∃S U T,a.cell ⟨d.block,d.off+6,none⟩=some (vS S U T)∧∃V X W,a.cell ⟨d.block,d.off+7,none⟩=some (vS V X W)∧∃Y,a.cell ⟨d.block,d.off+8,none⟩=some (vI wI Y)∧∃Z,a.cell ⟨d.block,d.off+9,none⟩=some (vI wI Z)∧NewW a (Obj.cells ⟨[(vI wI 0),(vI wI 0),(vS none 0 0),(vI vU 0),(vI wI 0),(vI wI 0),(vS none 0 0),(vS none 0 0),(vI wI 0),(vI wI 0)]⟩ Zbf) fun e e4=>
 NewW e4 (Obj.cells ⟨[(vI wI 0),(vI wI 0),(vS none 0 0),(vI vU 0),(vI wI 0),(vI wI 0),(vS none 0 0),(vS none 0 0),(vI wI 0),(vI wI 0)]⟩ Zbf) fun f e9=>
 Za e9 ⟨e,0,none⟩ (vI wI u) fun f0=>
 Za f0 ⟨e,1,none⟩ (vI wI v) fun f1=>
 Za f1 ⟨e,2,none⟩ (vS w y x) fun f2=>
 Za f2 ⟨e,3,none⟩ (vI vU z) fun f3=>
 Za f3 ⟨e,4,none⟩ (vI wI A) fun f4=>
 Za f4 ⟨e,5,none⟩ (vI wI B) fun f5=>
 Za f5 ⟨e,6,none⟩ (vS C E D) fun d5=>
 Za d5 ⟨e,7,none⟩ (vS F H G) fun d6=>
 Za d6 ⟨e,8,none⟩ (vI wI I) fun d7=>
 Za d7 ⟨e,9,none⟩ (vI wI J) fun t=>
 Zdw s a t∧Za t ⟨f,0,none⟩ (vI wI K) fun d8=>
 Za d8 ⟨f,1,none⟩ (vI wI L) fun d9=>
 Za d9 ⟨f,2,none⟩ (vS M O N) fun e0=>
 Za e0 ⟨f,3,none⟩ (vI vU P) fun e1=>
 Za e1 ⟨f,4,none⟩ (vI wI Q) fun e2=>
 Za e2 ⟨f,5,none⟩ (vI wI R) fun e3=>
 Za e3 ⟨f,6,none⟩ (vS S U T) fun e5=>
 Za e5 ⟨f,7,none⟩ (vS V X W) fun e6=>
 Za e6 ⟨f,8,none⟩ (vI wI Y) fun e7=>
 Za e7 ⟨f,9,none⟩ (vI wI Z) fun c=>
 ∃a0,c.cell ⟨e,0,none⟩=some (vI wI a0)∧
 ∃a1,c.cell ⟨f,0,none⟩=some (vI wI a1)∧
 IfB (a0 !=a1)
 (Zmk k i n l m o h p true c j)
 (∃a2,c.cell ⟨e,8,none⟩=some (vI wI a2)∧
 ∃a3,c.cell ⟨f,8,none⟩=some (vI wI a3)∧
 IfB (a2 !=a3)
 (Zmk k i n l m o h p true c j)
 (∃a4,c.cell ⟨e,9,none⟩=some (vI wI a4)∧
 ∃a5,c.cell ⟨f,9,none⟩=some (vI wI a5)∧
 IfB (a4 !=a5)
 (Zmk k i n l m o h p true c j)
 (∃a6,c.cell ⟨e,1,none⟩=some (vI wI a6)∧∃a7 a9 a8,c.cell ⟨e,2,none⟩=some (vS a7 a9 a8)∧∃b0,c.cell ⟨e,3,none⟩=some (vI vU b0)∧∃b1,c.cell ⟨e,4,none⟩=some (vI wI b1)∧∃b2,c.cell ⟨e,5,none⟩=some (vI wI b2)∧∃b3,c.cell ⟨f,1,none⟩=some (vI wI b3)∧∃b4 b6 b5,c.cell ⟨f,2,none⟩=some (vS b4 b6 b5)∧∃b7,c.cell ⟨f,3,none⟩=some (vI vU b7)∧∃b8,c.cell ⟨f,4,none⟩=some (vI wI b8)∧∃b9,c.cell ⟨f,5,none⟩=some (vI wI b9)∧FnW wP Zqu ⟨[(vA ⟨[(vI wI a6),(vS a7 a9 a8),(vI vU b0),(vI wI b1),(vI wI b2)]⟩),(vA ⟨[(vI wI b3),(vS b4 b6 b5),(vI vU b7),(vI wI b8),(vI wI b9)]⟩)]⟩ c fun g1 q=>
 ∃c0,g1=vB c0∧
 IfB (!c0)
 (Zmk k i n l m o h p true q j)
 (∃c1 c3 c2,q.cell ⟨e,6,none⟩=some (vS c1 c3 c2)∧
 ∃c4 c6 c5,q.cell ⟨f,6,none⟩=some (vS c4 c6 c5)∧
 FnW wP Zng ⟨[(vS c1 c3 c2),(vS c4 c6 c5)]⟩ q fun g2 r=>
 ∃c7,g2=vB c7∧
 IfB (!c7)
 (Zmk k i n l m o h p true r j)
 (∃c8 d0 c9,r.cell ⟨e,7,none⟩=some (vS c8 d0 c9)∧
 ∃d1 d3 d2,r.cell ⟨f,7,none⟩=some (vS d1 d3 d2)∧
 FnW wP Zng ⟨[(vS c8 d0 c9),(vS d1 d3 d2)]⟩ r fun g3 e8=>
 ∃d4,g3=vB d4∧
 Zmk k i n l m o h p (!d4) e8 j))))))
 (j (vB true) a)
def Zbti (e:Option Addr) (c f:Nat) (g:Option Addr) (d h:Nat) (a:Heap) (b:Value->Heap->Prop):Prop:=
 IfB (((c:Int):Int) !=(d:Int))
 (b (vB false) a)
 (Zbw (Int×Unit) (0,()) a fun j a i=>∀k:Env,Zbth e c f g d h j.1 a i b)
theorem Zcll (d:Option Addr) (f e:Nat) (g:Option Addr) (i h:Nat) {a:Heap} {c:Value->Heap->Prop} (k:Zbti d f e g i h a fun l j=>∀b,Shut a j b->c l b):FnW wP Zng ⟨[(vS d f e),(vS g i h)]⟩ a c:=Zj Tryz.func19 ⟨[(6,[0,1,2,3,4,5,6,7,8,9,10,11],[26])],[(4,[5],[.int wI],[0,1])],[],[]⟩ (by kernel_rfl) (by kernel_rfl) k
def Zbts (g B:Nat) (d:Int) (a:Heap) (C:(Int×Unit)->Heap->Prop) (f:Value->Heap->Prop):Prop:=
 ∃D h E,a.cell ⟨g,1,none⟩=some (vS D h E)∧
 IfB (decide (d<(h:Int)))
 (∃i j F,a.cell ⟨g,1,none⟩=some (vS i j F)∧
 NilP i fun H=>
 InB d j fun G=>
 elemAt H G 5 fun b=>
 ∃k,a.cell b=some (vI wI k)∧∃l n m,a.cell ⟨b.block,b.off+1,none⟩=some (vS l n m)∧∃o,a.cell ⟨b.block,b.off+2,none⟩=some (vI vU o)∧∃p,a.cell ⟨b.block,b.off+3,none⟩=some (vI wI p)∧∃q,a.cell ⟨b.block,b.off+4,none⟩=some (vI wI q)∧∃r s I,a.cell ⟨B,1,none⟩=some (vS r s I)∧
 NilP r fun K=>
 InB d s fun J=>
 elemAt K J 5 fun c=>
 ∃t,a.cell c=some (vI wI t)∧∃u w v,a.cell ⟨c.block,c.off+1,none⟩=some (vS u w v)∧∃x,a.cell ⟨c.block,c.off+2,none⟩=some (vI vU x)∧∃y,a.cell ⟨c.block,c.off+3,none⟩=some (vI wI y)∧∃z,a.cell ⟨c.block,c.off+4,none⟩=some (vI wI z)∧FnW wP Zqu ⟨[(vA ⟨[(vI wI k),(vS l n m),(vI vU o),(vI wI p),(vI wI q)]⟩),(vA ⟨[(vI wI t),(vS u w v),(vI vU x),(vI wI y),(vI wI z)]⟩)]⟩ a fun L e=>
 ∃A,L=vB A∧
 IfB (!A)
 (f (vB false) e)
 (C ((vW wI (d+1)),()) e))
 (f (vB true) a)
def Zti (d e:Nat) (h:Bool) (a:Heap) (b:Value->Heap->Prop):Prop:=
 IfB h
 (b (vB false) a)
 (Zbw (Int×Unit) (0,()) a fun g c f=>∀i:Env,Zbts d e g.1 c f b)
def Zbtt (q:Int) (r:Option Addr) (t s:Nat) (u v w x:Int) (y:Option Addr) (A z:Nat) (B C D:Int) (o:Heap) (d:Value->Heap->Prop):Prop:=
 NewW o (Obj.cells ⟨[(vI wI q),(vS r t s),(vI vU u),(vI wI v),(vI wI w)]⟩ Zba) fun b p=>
 NewW p (Obj.cells ⟨[(vI wI x),(vS y A z),(vI vU B),(vI wI C),(vI wI D)]⟩ Zba) fun c a=>
 ∃m,a.cell ⟨b,0,none⟩=some (vI wI m)∧
 ∃n,a.cell ⟨c,0,none⟩=some (vI wI n)∧
 IfB (m !=n)
 (Zti b c true a d)
 (∃e,a.cell ⟨b,2,none⟩=some (vI vU e)∧∃f,a.cell ⟨b,3,none⟩=some (vI wI f)∧∃g,a.cell ⟨c,2,none⟩=some (vI vU g)∧∃h,a.cell ⟨c,3,none⟩=some (vI wI h)∧Program.eqGuardType wP (Program.depth wP) Zbhs=false∧
 IfB (!((e==g)&&((f==h)&&true)))
 (Zti b c true a d)
 (∃i,a.cell ⟨b,4,none⟩=some (vI wI i)∧
 ∃j,a.cell ⟨c,4,none⟩=some (vI wI j)∧
 IfB (i !=j)
 (Zti b c true a d)
 (∃E k F,a.cell ⟨b,1,none⟩=some (vS E k F)∧
 ∃G l H,a.cell ⟨c,1,none⟩=some (vS G l H)∧
 Zti b c (((k:Int):Int) !=(l:Int)) a d)))
theorem Zclu (d:Int) (e:Option Addr) (g f:Nat) (h i j k:Int) (l:Option Addr) (n m:Nat) (o p q:Int) {a:Heap} {c:Value->Heap->Prop} (s:Zbtt d e g f h i j k l n m o p q a fun t r=>∀b,Shut a r b->c t b):FnW wP Zqu ⟨[(vA ⟨[(vI wI d),(vS e g f),(vI vU h),(vI wI i),(vI wI j)]⟩),(vA ⟨[(vI wI k),(vS l n m),(vI vU o),(vI wI p),(vI wI q)]⟩)]⟩ a c:=Zj Tryz.func58 ⟨[],[(4,[5],[.int wI],[2,3])],[],[]⟩ (by kernel_rfl) (by kernel_rfl) s
def Zbvp (j:Option Addr) (e p:Nat) (h:FuncId) (k:Value) (a:Int) (b:Heap) (i:(Int×Unit)->Heap->Prop) (d:Value->Heap->Prop):Prop:=
 IfB (decide (a<(e:Int)))
 (NilP j fun n=>
 InB a e fun l=>
 elemAt n l 1 fun m=>
 ∃f,b.cell m=some (Value.string f)∧
 FnW wP h ⟨[k,(Value.string f)]⟩ b fun o c=>
 ∃g,o=vB g∧
 IfB g
 (d (vI wI a) c)
 (i ((vW wI (a+1)),()) c))
 (d (vI wI (-1)) b)
def Zbvq (e:Option Addr) (g f:Nat) (c:FuncId) (h:Value) (a:Heap) (b:Value->Heap->Prop):Prop:=
 Zbw (Int×Unit) (0,()) a fun i a d=>∀j:Env,Zbvp e g f c h i.1 a d b
theorem Zcnb (e:Option Addr) (g f:Nat) (d:FuncId) (h:Value) {a:Heap} {c:Value->Heap->Prop} (j:Zbvq e g f d h a fun k i=>∀b,Shut a i b->c k b):FnW wP Zbkf ⟨[(vS e g f),(vF (.func d) #[h] #[])]⟩ a c:=Zj Tryz.func84 ⟨[],[(2,[8],[.int wI],[0,1,7])],[],[]⟩ (by kernel_rfl) (by kernel_rfl) j
end Go.Proofs.YtlkdgfolbllngaaGreatDoor
end
section
set_option maxRecDepth 100000
namespace Go.Proofs.YtlkdgfolbllngaaGreatDoor
open Go.Sh
open Value renaming int -> vI, slice -> vS, pointer -> vP, bool -> vB, tuple -> vT, agg -> vA, func -> vF
open IntKind renaming wrap -> vW, i64 -> wI, u32 -> vU
open Go.Proofs.Tryz renaming prog -> wP
def Zbwa (P:Heap) (d:Value->Heap->Prop):Prop:=
 FnW wP Zlj ⟨[(Value.string (ByteArray.mk #[115,121,115,116,101,109,32,54,53,48,48,48,59,32,114,111,117,116,101,114,32,49,48,46,48,46,48,46,49,59,32,112,101,101,114,32,97,32,49,48,46,48,46,48,46,50,32,97,115,32,54,53,48,48,49,32,119,97,105,116,115,59]))]⟩ P fun a6 Q=>
 ∃D,∃E:Int,∃F:Int,∃G:Int,∃H:Int,∃(I:Option Addr) (K J:Nat),∃(L:Option Addr) (N M:Nat),∃a5:Int,∃O:Int,a6=(vT ⟨[(vA ⟨[(vI vU D),(vI vU E),(vI wI F),(vI wI G),(vI wI H),(vS I K J),(vS L N M)]⟩),(vI wI a5),(vI wI O)]⟩)∧
 NewW Q (Obj.cells ⟨[(vI vU 0),(vI vU 0),(vI wI 0),(vI wI 0),(vI wI 0),(vS none 0 0),(vS none 0 0)]⟩ Zcc) fun b S=>
 Za S ⟨b,0,none⟩ (vI vU D) fun T=>
 Za T ⟨b,1,none⟩ (vI vU E) fun U=>
 Za U ⟨b,2,none⟩ (vI wI F) fun V=>
 Za V ⟨b,3,none⟩ (vI wI G) fun W=>
 Za W ⟨b,4,none⟩ (vI wI H) fun X=>
 Za X ⟨b,5,none⟩ (vS I K J) fun Y=>
 Za Y ⟨b,6,none⟩ (vS L N M) fun a=>
 IfB (O==0)
 (∃e,a.cell ⟨b,0,none⟩=some (vI vU e)∧
 IfB (e==65000)
 (∃f,a.cell ⟨b,1,none⟩=some (vI vU f)∧
 IfB (f==167772161)
 (∃g,a.cell ⟨b,2,none⟩=some (vI wI g)∧
 IfB (g==90)
 (∃Z h a0,a.cell ⟨b,6,none⟩=some (vS Z h a0)∧
 IfB (((h:Int):Int)==1)
 (∃i j a1,a.cell ⟨b,6,none⟩=some (vS i j a1)∧
 NilP i fun a3=>
 InB 0 j fun a2=>
 elemAt a3 a2 7 fun c=>
 ∃k,a.cell c=some (Value.string k)∧∃l,a.cell ⟨c.block,c.off+1,none⟩=some (vI vU l)∧∃m,a.cell ⟨c.block,c.off+2,none⟩=some (vI vU m)∧∃n,a.cell ⟨c.block,c.off+3,none⟩=some (vB n)∧∃o,a.cell ⟨c.block,c.off+4,none⟩=some (vI wI o)∧∃p,a.cell ⟨c.block,c.off+5,none⟩=some (Value.string p)∧∃q,a.cell ⟨c.block,c.off+6,none⟩=some (Value.string q)∧Program.eqGuardType wP (Program.depth wP) Zbh=false∧
 IfB ((k==(ByteArray.mk #[97]))&&((l==167772162)&&((m==65001)&&((n==true)&&((o==0)&&((p==(ByteArray.mk #[]))&&((q==(ByteArray.mk #[]))&&true)))))))
 (∃r,a.cell ⟨b,0,none⟩=some (vI vU r)∧∃s,a.cell ⟨b,1,none⟩=some (vI vU s)∧∃t,a.cell ⟨b,2,none⟩=some (vI wI t)∧∃u,a.cell ⟨b,3,none⟩=some (vI wI u)∧∃v,a.cell ⟨b,4,none⟩=some (vI wI v)∧∃w y x,a.cell ⟨b,5,none⟩=some (vS w y x)∧∃z B A,a.cell ⟨b,6,none⟩=some (vS z B A)∧FnW wP Zll ⟨[(vA ⟨[(vI vU r),(vI vU s),(vI wI t),(vI wI u),(vI wI v),(vS w y x),(vS z B A)]⟩)]⟩ a fun a4 R=>
 ∃C,a4=vI wI C∧
 d (vB (C==0)) R)
 (d (vB false) a))
 (d (vB false) a))
 (d (vB false) a))
 (d (vB false) a))
 (d (vB false) a))
 (d (vB false) a)
theorem Zcnl {a:Heap} {c:Value->Heap->Prop} (e:Zbwa a fun f d=>∀b,Shut a d b->c f b):FnW wP Zbcj ⟨[]⟩ a c:=Zj Tryz.func10 ⟨[],[],[],[]⟩ (by kernel_rfl) (by kernel_rfl) e
def Zpl (d:Nat) (n:Bool) (b:Heap) (a:Value->Heap->Prop):Prop:=
 IfB n
 (a (vI wI 2) b)
 (∃f h g,b.cell ⟨d,5,none⟩=some (vS f h g)∧
 FnW wP Zni ⟨[(vS f h g),(vF (.func 35) #[] #[])]⟩ b fun o c=>
 ∃i,o=vB i∧
 IfB i
 (a (vI wI 2) c)
 (∃j l k,c.cell ⟨d,6,none⟩=some (vS j l k)∧
 FnW wP Zbcg ⟨[(vS j l k),(vF (.func Znl) #[] #[(vP (some ⟨d,0,none⟩))])]⟩ c fun p e=>
 ∃m,p=vB m∧
 IfB m
 (a (vI wI 2) e)
 (a (vI wI 0) e)))
def Ztm (a:Nat) (s:Bool) (c:Heap) (b:Value->Heap->Prop):Prop:=
 IfB s
 (b (vI wI 2) c)
 (∃f h g,c.cell ⟨a,5,none⟩=some (vS f h g)∧
 FnW wP Zuv ⟨[(vS f h g),(vF (.func 29) #[] #[])]⟩ c fun t d=>
 ∃i,t=vB i∧
 IfB i
 (Zpl a true d b)
 (∃j l k,d.cell ⟨a,6,none⟩=some (vS j l k)∧
 FnW wP Zut ⟨[(vS j l k),(vF (.func 31) #[] #[])]⟩ d fun u e=>
 ∃m,u=vB m∧
 IfB m
 (Zpl a true e b)
 (∃n p o,e.cell ⟨a,6,none⟩=some (vS n p o)∧
 FnW wP Zuu ⟨[(vS n p o),(vF (.func 33) #[] #[])]⟩ e fun v r=>
 ∃q,v=vB q∧
 Zpl a q r b)))
def Zml (b:Nat) (f:Bool) (a:Heap) (c:Value->Heap->Prop):Prop:=
 IfB f
 (c (vI wI 2) a)
 (∃g d h,a.cell ⟨b,5,none⟩=some (vS g d h)∧
 IfB (decide (((d:Int):Int)>32))
 (Ztm b true a c)
 (∃i e j,a.cell ⟨b,6,none⟩=some (vS i e j)∧
 Ztm b (decide (((e:Int):Int)>16)) a c))
def Zjp (b:Nat) (h:Bool) (a:Heap) (c:Value->Heap->Prop):Prop:=
 IfB h
 (c (vI wI 2) a)
 (∃d,a.cell ⟨b,3,none⟩=some (vI wI d)∧
 IfB (decide (d<1))
 (Zml b true a c)
 (∃e,a.cell ⟨b,3,none⟩=some (vI wI e)∧
 IfB (decide (e>100000))
 (Zml b true a c)
 (∃f,a.cell ⟨b,4,none⟩=some (vI wI f)∧
 IfB (decide (f<0))
 (Zml b true a c)
 (∃g,a.cell ⟨b,4,none⟩=some (vI wI g)∧
 Zml b (decide (g>4095)) a c))))
def Zbhj (k l m n o:Int) (p:Option Addr) (r q:Nat) (s:Option Addr) (u t:Nat) (j:Heap) (c:Value->Heap->Prop):Prop:=
 NewW j (Obj.cells ⟨[(vI vU k),(vI vU l),(vI wI m),(vI wI n),(vI wI o),(vS p r q),(vS s u t)]⟩ Zcc) fun b a=>
 ∃h,a.cell ⟨b,0,none⟩=some (vI vU h)∧
 IfB (h==0)
 (Zjp b true a c)
 (∃i,a.cell ⟨b,1,none⟩=some (vI vU i)∧
 IfB (i==0)
 (Zjp b true a c)
 (∃d,a.cell ⟨b,2,none⟩=some (vI wI d)∧
 IfB (decide (d<0))
 (Zjp b true a c)
 (∃e,a.cell ⟨b,2,none⟩=some (vI wI e)∧
 IfB (e==1)
 (Zjp b true a c)
 (∃f,a.cell ⟨b,2,none⟩=some (vI wI f)∧
 IfB (f==2)
 (Zjp b true a c)
 (∃g,a.cell ⟨b,2,none⟩=some (vI wI g)∧
 Zjp b (decide (g>65535)) a c)))))
theorem Zbuq (d e f g h:Int) (i:Option Addr) (k j:Nat) (l:Option Addr) (n m:Nat) {a:Heap} {c:Value->Heap->Prop} (p:Zbhj d e f g h i k j l n m a fun q o=>∀b,Shut a o b->c q b):FnW wP Zll ⟨[(vA ⟨[(vI vU d),(vI vU e),(vI wI f),(vI wI g),(vI wI h),(vS i k j),(vS l n m)]⟩)]⟩ a c:=Zj Tryz.func13 ⟨[],[],[],[]⟩ (by kernel_rfl) (by kernel_rfl) p
def Zbhg (k:FuncId) (h:Value) (G:Option Addr) (l O:Nat) (e:Int) (b:Heap) (H:(Int×Unit)->Heap->Prop) (j:Value->Heap->Prop):Prop:=
 IfB (decide (e<(l:Int)))
 (NilP G fun J=>
 InB e l fun I=>
 elemAt J I 2 fun f=>
 ∃m,b.cell f=some (Value.string m)∧∃n p o,b.cell ⟨f.block,f.off+1,none⟩=some (vS n p o)∧NewW b (Obj.cells ⟨[(Value.string (ByteArray.mk #[])),(vS none 0 0)]⟩ Zdx) fun a B=>
 Za B ⟨a,0,none⟩ (Value.string m) fun C=>
 Za C ⟨a,1,none⟩ (vS n p o) fun c=>
 ∃q,c.cell ⟨a,0,none⟩=some (Value.string q)∧∃r t s,c.cell ⟨a,1,none⟩=some (vS r t s)∧FnW wP k ⟨[(vA ⟨[(Value.string q),(vS r t s)]⟩)]⟩ c fun K D=>
 ∃g,K=Value.string g∧
 SemW wP (Instr.lookup Ziz h (Value.string g) false) D fun L E=>
 ∃u,L=vI wI u∧
 MuW wP Ziz h (Value.string g) (vI wI (vW wI (u+1))) E fun P d=>
 ∃v,d.cell ⟨a,0,none⟩=some (Value.string v)∧∃w y x,d.cell ⟨a,1,none⟩=some (vS w y x)∧FnW wP k ⟨[(vA ⟨[(Value.string v),(vS w y x)]⟩)]⟩ d fun M F=>
 ∃z,M=Value.string z∧
 SemW wP (Instr.lookup Ziz h (Value.string z) false) F fun N i=>
 ∃A,N=vI wI A∧
 IfB (decide (A>1))
 (j (vB true) i)
 (H ((vW wI (e+1)),()) i))
 (j (vB false) b)
def Zbhh (e:Option Addr) (g f:Nat) (d:FuncId) (a:Heap) (c:Value->Heap->Prop):Prop:=
 MkW wP Ziz a fun j b=>
 Zbw (Int×Unit) (0,()) b fun i a h=>∀k:Env,Zbhg d j e g f i.1 a h c
theorem Zbui (e:Option Addr) (g f:Nat) (d:FuncId) {a:Heap} {c:Value->Heap->Prop} (i:Zbhh e g f d a fun j h=>∀b,Shut a h b->c j b):FnW wP Zuv ⟨[(vS e g f),(vF (.func d) #[] #[])]⟩ a c:=Zj Tryz.func28 ⟨[],[(3,[11],[.int wI],[1,5,9,10])],[],[]⟩ (by kernel_rfl) (by kernel_rfl) i
def Zbvn (e:ByteArray) (f:Option Addr) (h g:Nat) (c:Heap) (d:Value->Heap->Prop):Prop:=
 NewW c (Obj.cells ⟨[(Value.string e),(vS f h g)]⟩ Zdx) fun i a=>
 ∃b,a.cell ⟨i,0,none⟩=some (Value.string b)∧
 d (Value.string b) a
theorem Zcna (d:ByteArray) (e:Option Addr) (g f:Nat) {a:Heap} {c:Value->Heap->Prop} (i:Zbvn d e g f a fun j h=>∀b,Shut a h b->c j b):FnW wP Zrc ⟨[(vA ⟨[(Value.string d),(vS e g f)]⟩)]⟩ a c:=Zj Tryz.func29 ⟨[],[],[],[]⟩ (by kernel_rfl) (by kernel_rfl) i
def Zzg (k:FuncId) (h:Value) (U:Option Addr) (l a2:Nat) (f:Int) (c:Heap) (V:(Int×Unit)->Heap->Prop) (j:Value->Heap->Prop):Prop:=
 IfB (decide (f<(l:Int)))
 (NilP U fun X=>
 InB f l fun W=>
 elemAt X W 7 fun b=>
 ∃m,c.cell b=some (Value.string m)∧∃n,c.cell ⟨b.block,b.off+1,none⟩=some (vI vU n)∧∃o,c.cell ⟨b.block,b.off+2,none⟩=some (vI vU o)∧∃p,c.cell ⟨b.block,b.off+3,none⟩=some (vB p)∧∃q,c.cell ⟨b.block,b.off+4,none⟩=some (vI wI q)∧∃r,c.cell ⟨b.block,b.off+5,none⟩=some (Value.string r)∧∃s,c.cell ⟨b.block,b.off+6,none⟩=some (Value.string s)∧NewW c (Obj.cells ⟨[(Value.string (ByteArray.mk #[])),(vI vU 0),(vI vU 0),(vB false),(vI wI 0),(Value.string (ByteArray.mk #[])),(Value.string (ByteArray.mk #[]))]⟩ Zbh) fun a N=>
 Za N ⟨a,0,none⟩ (Value.string m) fun O=>
 Za O ⟨a,1,none⟩ (vI vU n) fun P=>
 Za P ⟨a,2,none⟩ (vI vU o) fun Q=>
 Za Q ⟨a,3,none⟩ (vB p) fun R=>
 Za R ⟨a,4,none⟩ (vI wI q) fun S=>
 Za S ⟨a,5,none⟩ (Value.string r) fun T=>
 Za T ⟨a,6,none⟩ (Value.string s) fun d=>
 ∃t,d.cell ⟨a,0,none⟩=some (Value.string t)∧∃u,d.cell ⟨a,1,none⟩=some (vI vU u)∧∃v,d.cell ⟨a,2,none⟩=some (vI vU v)∧∃w,d.cell ⟨a,3,none⟩=some (vB w)∧∃x,d.cell ⟨a,4,none⟩=some (vI wI x)∧∃y,d.cell ⟨a,5,none⟩=some (Value.string y)∧∃z,d.cell ⟨a,6,none⟩=some (Value.string z)∧FnW wP k ⟨[(vA ⟨[(Value.string t),(vI vU u),(vI vU v),(vB w),(vI wI x),(Value.string y),(Value.string z)]⟩)]⟩ d fun Y K=>
 ∃g,Y=Value.string g∧
 SemW wP (Instr.lookup Ziz h (Value.string g) false) K fun Z L=>
 ∃A,Z=vI wI A∧
 MuW wP Ziz h (Value.string g) (vI wI (vW wI (A+1))) L fun a3 e=>
 ∃B,e.cell ⟨a,0,none⟩=some (Value.string B)∧∃C,e.cell ⟨a,1,none⟩=some (vI vU C)∧∃D,e.cell ⟨a,2,none⟩=some (vI vU D)∧∃E,e.cell ⟨a,3,none⟩=some (vB E)∧∃F,e.cell ⟨a,4,none⟩=some (vI wI F)∧∃G,e.cell ⟨a,5,none⟩=some (Value.string G)∧∃H,e.cell ⟨a,6,none⟩=some (Value.string H)∧FnW wP k ⟨[(vA ⟨[(Value.string B),(vI vU C),(vI vU D),(vB E),(vI wI F),(Value.string G),(Value.string H)]⟩)]⟩ e fun a0 M=>
 ∃I,a0=Value.string I∧
 SemW wP (Instr.lookup Ziz h (Value.string I) false) M fun a1 i=>
 ∃J,a1=vI wI J∧
 IfB (decide (J>1))
 (j (vB true) i)
 (V ((vW wI (f+1)),()) i))
 (j (vB false) c)
def Zbhe (e:Option Addr) (g f:Nat) (d:FuncId) (a:Heap) (c:Value->Heap->Prop):Prop:=
 MkW wP Ziz a fun j b=>
 Zbw (Int×Unit) (0,()) b fun i a h=>∀k:Env,Zzg d j e g f i.1 a h c
theorem Zbud (e:Option Addr) (g f:Nat) (d:FuncId) {a:Heap} {c:Value->Heap->Prop} (i:Zbhe e g f d a fun j h=>∀b,Shut a h b->c j b):FnW wP Zut ⟨[(vS e g f),(vF (.func d) #[] #[])]⟩ a c:=Zj Tryz.func30 ⟨[],[(3,[11],[.int wI],[1,5,9,10])],[],[]⟩ (by kernel_rfl) (by kernel_rfl) i
def Zbvc (e:ByteArray) (f g:Int) (h:Bool) (i:Int) (j k:ByteArray) (c:Heap) (d:Value->Heap->Prop):Prop:=
 NewW c (Obj.cells ⟨[(Value.string e),(vI vU f),(vI vU g),(vB h),(vI wI i),(Value.string j),(Value.string k)]⟩ Zbh) fun l a=>
 ∃b,a.cell ⟨l,0,none⟩=some (Value.string b)∧
 d (Value.string b) a
theorem Zcmr (d:ByteArray) (e f:Int) (g:Bool) (h:Int) (i j:ByteArray) {a:Heap} {c:Value->Heap->Prop} (l:Zbvc d e f g h i j a fun m k=>∀b,Shut a k b->c m b):FnW wP Znm ⟨[(vA ⟨[(Value.string d),(vI vU e),(vI vU f),(vB g),(vI wI h),(Value.string i),(Value.string j)]⟩)]⟩ a c:=Zj Tryz.func31 ⟨[],[],[],[]⟩ (by kernel_rfl) (by kernel_rfl) l
def Zzh (k:FuncId) (h:Value) (U:Option Addr) (l a2:Nat) (f:Int) (c:Heap) (V:(Int×Unit)->Heap->Prop) (j:Value->Heap->Prop):Prop:=
 IfB (decide (f<(l:Int)))
 (NilP U fun X=>
 InB f l fun W=>
 elemAt X W 7 fun b=>
 ∃m,c.cell b=some (Value.string m)∧∃n,c.cell ⟨b.block,b.off+1,none⟩=some (vI vU n)∧∃o,c.cell ⟨b.block,b.off+2,none⟩=some (vI vU o)∧∃p,c.cell ⟨b.block,b.off+3,none⟩=some (vB p)∧∃q,c.cell ⟨b.block,b.off+4,none⟩=some (vI wI q)∧∃r,c.cell ⟨b.block,b.off+5,none⟩=some (Value.string r)∧∃s,c.cell ⟨b.block,b.off+6,none⟩=some (Value.string s)∧NewW c (Obj.cells ⟨[(Value.string (ByteArray.mk #[])),(vI vU 0),(vI vU 0),(vB false),(vI wI 0),(Value.string (ByteArray.mk #[])),(Value.string (ByteArray.mk #[]))]⟩ Zbh) fun a N=>
 Za N ⟨a,0,none⟩ (Value.string m) fun O=>
 Za O ⟨a,1,none⟩ (vI vU n) fun P=>
 Za P ⟨a,2,none⟩ (vI vU o) fun Q=>
 Za Q ⟨a,3,none⟩ (vB p) fun R=>
 Za R ⟨a,4,none⟩ (vI wI q) fun S=>
 Za S ⟨a,5,none⟩ (Value.string r) fun T=>
 Za T ⟨a,6,none⟩ (Value.string s) fun d=>
 ∃t,d.cell ⟨a,0,none⟩=some (Value.string t)∧∃u,d.cell ⟨a,1,none⟩=some (vI vU u)∧∃v,d.cell ⟨a,2,none⟩=some (vI vU v)∧∃w,d.cell ⟨a,3,none⟩=some (vB w)∧∃x,d.cell ⟨a,4,none⟩=some (vI wI x)∧∃y,d.cell ⟨a,5,none⟩=some (Value.string y)∧∃z,d.cell ⟨a,6,none⟩=some (Value.string z)∧FnW wP k ⟨[(vA ⟨[(Value.string t),(vI vU u),(vI vU v),(vB w),(vI wI x),(Value.string y),(Value.string z)]⟩)]⟩ d fun Y K=>
 ∃g,Y=vI vU g∧
 SemW wP (Instr.lookup Zqa h (vI vU g) false) K fun Z L=>
 ∃A,Z=vI wI A∧
 MuW wP Zqa h (vI vU g) (vI wI (vW wI (A+1))) L fun a3 e=>
 ∃B,e.cell ⟨a,0,none⟩=some (Value.string B)∧∃C,e.cell ⟨a,1,none⟩=some (vI vU C)∧∃D,e.cell ⟨a,2,none⟩=some (vI vU D)∧∃E,e.cell ⟨a,3,none⟩=some (vB E)∧∃F,e.cell ⟨a,4,none⟩=some (vI wI F)∧∃G,e.cell ⟨a,5,none⟩=some (Value.string G)∧∃H,e.cell ⟨a,6,none⟩=some (Value.string H)∧FnW wP k ⟨[(vA ⟨[(Value.string B),(vI vU C),(vI vU D),(vB E),(vI wI F),(Value.string G),(Value.string H)]⟩)]⟩ e fun a0 M=>
 ∃I,a0=vI vU I∧
 SemW wP (Instr.lookup Zqa h (vI vU I) false) M fun a1 i=>
 ∃J,a1=vI wI J∧
 IfB (decide (J>1))
 (j (vB true) i)
 (V ((vW wI (f+1)),()) i))
 (j (vB false) c)
def Zbhf (e:Option Addr) (g f:Nat) (d:FuncId) (a:Heap) (c:Value->Heap->Prop):Prop:=
 MkW wP Zqa a fun j b=>
 Zbw (Int×Unit) (0,()) b fun i a h=>∀k:Env,Zzh d j e g f i.1 a h c
theorem Zbue (e:Option Addr) (g f:Nat) (d:FuncId) {a:Heap} {c:Value->Heap->Prop} (i:Zbhf e g f d a fun j h=>∀b,Shut a h b->c j b):FnW wP Zuu ⟨[(vS e g f),(vF (.func d) #[] #[])]⟩ a c:=Zj Tryz.func32 ⟨[],[(3,[11],[.int wI],[1,5,9,10])],[],[]⟩ (by kernel_rfl) (by kernel_rfl) i
def Zbvd (e:ByteArray) (f g:Int) (h:Bool) (i:Int) (j k:ByteArray) (c:Heap) (d:Value->Heap->Prop):Prop:=
 NewW c (Obj.cells ⟨[(Value.string e),(vI vU f),(vI vU g),(vB h),(vI wI i),(Value.string j),(Value.string k)]⟩ Zbh) fun l a=>
 ∃b,a.cell ⟨l,1,none⟩=some (vI vU b)∧
 d (vI vU b) a
theorem Zcms (d:ByteArray) (e f:Int) (g:Bool) (h:Int) (i j:ByteArray) {a:Heap} {c:Value->Heap->Prop} (l:Zbvd d e f g h i j a fun m k=>∀b,Shut a k b->c m b):FnW wP Znn ⟨[(vA ⟨[(Value.string d),(vI vU e),(vI vU f),(vB g),(vI wI h),(Value.string i),(Value.string j)]⟩)]⟩ a c:=Zj Tryz.func33 ⟨[],[],[],[]⟩ (by kernel_rfl) (by kernel_rfl) l
def Zbhc (f:Option Addr) (h g:Nat) (e:FuncId) (b:Heap) (d:Value->Heap->Prop):Prop:=
 FnW wP Zup ⟨[(vS f h g),(vF (.func e) #[] #[])]⟩ b fun i c=>
 ∃a,i=vI wI a∧
 d (vB (decide (a≥0))) c
theorem Zbtx (e:Option Addr) (g f:Nat) (d:FuncId) {a:Heap} {c:Value->Heap->Prop} (i:Zbhc e g f d a fun j h=>∀b,Shut a h b->c j b):FnW wP Zni ⟨[(vS e g f),(vF (.func d) #[] #[])]⟩ a c:=Zj Tryz.func34 ⟨[],[],[],[]⟩ (by kernel_rfl) (by kernel_rfl) i
def Zbwb (i:ByteArray) (j:Option Addr) (l k:Nat) (f:Heap) (h:Value->Heap->Prop):Prop:=
 NewW f (Obj.cells ⟨[(Value.string i),(vS j l k)]⟩ Zdx) fun m a=>
 ∃b d c,a.cell ⟨m,1,none⟩=some (vS b d c)∧
 FnW wP Zno ⟨[(vS b d c)]⟩ a fun n g=>
 ∃e,n=vB e∧
 h (vB (!e)) g
theorem Zcnm (d:ByteArray) (e:Option Addr) (g f:Nat) {a:Heap} {c:Value->Heap->Prop} (i:Zbwb d e g f a fun j h=>∀b,Shut a h b->c j b):FnW wP Zbck ⟨[(vA ⟨[(Value.string d),(vS e g f)]⟩)]⟩ a c:=Zj Tryz.func35 ⟨[],[],[],[]⟩ (by kernel_rfl) (by kernel_rfl) i
def Zbvf (e:Option Addr) (g f:Nat) (b:Heap) (d:Value->Heap->Prop):Prop:=
 FnW wP Zbcl ⟨[(vS e g f),(vF (.func 71) #[] #[])]⟩ b fun h c=>
 ∃a,h=vB a∧
 d (vB (!a)) c
theorem Zcmu (d:Option Addr) (f e:Nat) {a:Heap} {c:Value->Heap->Prop} (h:Zbvf d f e a fun i g=>∀b,Shut a g b->c i b):FnW wP Zno ⟨[(vS d f e)]⟩ a c:=Zj Tryz.func36 ⟨[],[],[],[]⟩ (by kernel_rfl) (by kernel_rfl) h
def Zbhn (f:Option Addr) (h g:Nat) (e:FuncId) (i:Value) (b:Heap) (d:Value->Heap->Prop):Prop:=
 FnW wP Zbke ⟨[(vS f h g),(vF (.func e) #[] #[i])]⟩ b fun j c=>
 ∃a,j=vI wI a∧
 d (vB (decide (a≥0))) c
theorem Zbvo (e:Option Addr) (g f:Nat) (d:FuncId) (h:Value) {a:Heap} {c:Value->Heap->Prop} (j:Zbhn e g f d h a fun k i=>∀b,Shut a i b->c k b):FnW wP Zbcg ⟨[(vS e g f),(vF (.func d) #[] #[h])]⟩ a c:=Zj Tryz.func37 ⟨[],[],[],[]⟩ (by kernel_rfl) (by kernel_rfl) j
def Zbhl (A:ByteArray) (B C:Int) (D:Bool) (E:Int) (F G:ByteArray) (b c:Nat) (x:Heap) (z:Value->Heap->Prop):Prop:=
 NewW x (Obj.cells ⟨[(Value.string A),(vI vU B),(vI vU C),(vB D),(vI wI E),(Value.string F),(Value.string G)]⟩ Zbh) fun d a=>
 ∃e,a.cell ⟨b,c,none⟩=some (vI vU e)∧∃f,a.cell ⟨b,c+1,none⟩=some (vI vU f)∧∃g,a.cell ⟨b,c+2,none⟩=some (vI wI g)∧∃h,a.cell ⟨b,c+3,none⟩=some (vI wI h)∧∃i,a.cell ⟨b,c+4,none⟩=some (vI wI i)∧∃j l k,a.cell ⟨b,c+5,none⟩=some (vS j l k)∧∃m o n,a.cell ⟨b,c+6,none⟩=some (vS m o n)∧∃p,a.cell ⟨d,0,none⟩=some (Value.string p)∧∃q,a.cell ⟨d,1,none⟩=some (vI vU q)∧∃r,a.cell ⟨d,2,none⟩=some (vI vU r)∧∃s,a.cell ⟨d,3,none⟩=some (vB s)∧∃t,a.cell ⟨d,4,none⟩=some (vI wI t)∧∃u,a.cell ⟨d,5,none⟩=some (Value.string u)∧∃v,a.cell ⟨d,6,none⟩=some (Value.string v)∧FnW wP Zur ⟨[(vA ⟨[(vI vU e),(vI vU f),(vI wI g),(vI wI h),(vI wI i),(vS j l k),(vS m o n)]⟩),(vA ⟨[(Value.string p),(vI vU q),(vI vU r),(vB s),(vI wI t),(Value.string u),(Value.string v)]⟩)]⟩ a fun H y=>
 ∃w,H=vB w∧
 z (vB (!w)) y
theorem Zbuu (f:ByteArray) (g h:Int) (i:Bool) (j:Int) (k l:ByteArray) (d e:Nat) {a:Heap} {c:Value->Heap->Prop} (n:Zbhl f g h i j k l d e a fun o m=>∀b,Shut a m b->c o b):FnW wP Znl ⟨[(vA ⟨[(Value.string f),(vI vU g),(vI vU h),(vB i),(vI wI j),(Value.string k),(Value.string l)]⟩),(vP (some ⟨d,e,none⟩))]⟩ a c:=Zj Tryz.func38 ⟨[],[],[],[]⟩ (by kernel_rfl) (by kernel_rfl) n
def Zkx (d e:Nat) (k:Bool) (a:Heap) (c:Value->Heap->Prop):Prop:=
 IfB k
 (c (vB false) a)
 (∃f,a.cell ⟨d,5,none⟩=some (Value.string f)∧
 FnW wP Zra ⟨[(Value.string f),(vP (some ⟨e,0,none⟩))]⟩ a fun l b=>
 ∃g,l=vB g∧
 IfB g
 (∃h,b.cell ⟨d,6,none⟩=some (Value.string h)∧
 FnW wP Zra ⟨[(Value.string h),(vP (some ⟨e,0,none⟩))]⟩ b fun m j=>
 ∃i,m=vB i∧
 c (vB i) j)
 (c (vB false) b))
def Zbhb (t u v w x:Int) (y:Option Addr) (A z:Nat) (B:Option Addr) (D C:Nat) (m:ByteArray) (n o:Int) (p:Bool) (q:Int) (r s:ByteArray) (k:Heap) (d:Value->Heap->Prop):Prop:=
 NewW k (Obj.cells ⟨[(vI vU t),(vI vU u),(vI wI v),(vI wI w),(vI wI x),(vS y A z),(vS B D C)]⟩ Zcc) fun c l=>
 NewW l (Obj.cells ⟨[(Value.string m),(vI vU n),(vI vU o),(vB p),(vI wI q),(Value.string r),(Value.string s)]⟩ Zbh) fun b a=>
 ∃j,a.cell ⟨b,1,none⟩=some (vI vU j)∧
 IfB (j==0)
 (Zkx b c true a d)
 (∃e,a.cell ⟨b,1,none⟩=some (vI vU e)∧
 ∃f,a.cell ⟨c,1,none⟩=some (vI vU f)∧
 IfB (e==f)
 (Zkx b c true a d)
 (∃g,a.cell ⟨b,2,none⟩=some (vI vU g)∧
 IfB (g==0)
 (Zkx b c true a d)
 (∃h,a.cell ⟨b,4,none⟩=some (vI wI h)∧
 IfB (decide (h<0))
 (Zkx b c true a d)
 (∃i,a.cell ⟨b,4,none⟩=some (vI wI i)∧
 Zkx b c (decide (i>4096)) a d))))
theorem Zbtq (k l m n o:Int) (p:Option Addr) (r q:Nat) (s:Option Addr) (u t:Nat) (d:ByteArray) (e f:Int) (g:Bool) (h:Int) (i j:ByteArray) {a:Heap} {c:Value->Heap->Prop} (w:Zbhb k l m n o p r q s u t d e f g h i j a fun x v=>∀b,Shut a v b->c x b):FnW wP Zur ⟨[(vA ⟨[(vI vU k),(vI vU l),(vI wI m),(vI wI n),(vI wI o),(vS p r q),(vS s u t)]⟩),(vA ⟨[(Value.string d),(vI vU e),(vI vU f),(vB g),(vI wI h),(Value.string i),(Value.string j)]⟩)]⟩ a c:=Zj Tryz.func39 ⟨[],[],[],[]⟩ (by kernel_rfl) (by kernel_rfl) w
def Zbgz (n:Option Addr) (f r:Nat) (l:FuncId) (b:Int) (a:Heap) (m:(Int×Unit)->Heap->Prop) (e:Value->Heap->Prop):Prop:=
 IfB (decide (b<(f:Int)))
 (NilP n fun p=>
 InB b f fun o=>
 elemAt p o 2 fun c=>
 ∃g,a.cell c=some (Value.string g)∧∃h j i,a.cell ⟨c.block,c.off+1,none⟩=some (vS h j i)∧FnW wP l ⟨[(vA ⟨[(Value.string g),(vS h j i)]⟩)]⟩ a fun q d=>
 ∃k,q=vB k∧
 IfB k
 (e (vI wI b) d)
 (m ((vW wI (b+1)),()) d))
 (e (vI wI (-1)) a)
def Zbha (e:Option Addr) (g f:Nat) (c:FuncId) (a:Heap) (b:Value->Heap->Prop):Prop:=
 Zbw (Int×Unit) (0,()) a fun h a d=>∀i:Env,Zbgz e g f c h.1 a d b
theorem Zbtg (e:Option Addr) (g f:Nat) (d:FuncId) {a:Heap} {c:Value->Heap->Prop} (i:Zbha e g f d a fun j h=>∀b,Shut a h b->c j b):FnW wP Zup ⟨[(vS e g f),(vF (.func d) #[] #[])]⟩ a c:=Zj Tryz.func69 ⟨[],[(2,[8],[.int wI],[0,1,7])],[],[]⟩ (by kernel_rfl) (by kernel_rfl) i
def Zbwc (f:Option Addr) (h g:Nat) (e:FuncId) (b:Heap) (d:Value->Heap->Prop):Prop:=
 FnW wP Zbkg ⟨[(vS f h g),(vF (.func e) #[] #[])]⟩ b fun i c=>
 ∃a,i=vI wI a∧
 d (vB (decide (a≥0))) c
theorem Zcnn (e:Option Addr) (g f:Nat) (d:FuncId) {a:Heap} {c:Value->Heap->Prop} (i:Zbwc e g f d a fun j h=>∀b,Shut a h b->c j b):FnW wP Zbcl ⟨[(vS e g f),(vF (.func d) #[] #[])]⟩ a c:=Zj Tryz.func70 ⟨[],[],[],[]⟩ (by kernel_rfl) (by kernel_rfl) i
def Zpk (b:Nat) (w:Bool) (a:Heap) (c:Value->Heap->Prop):Prop:=
 IfB w
 (c (vB true) a)
 (∃f,a.cell ⟨b,1,none⟩=some (vI wI f)∧∃g i h,a.cell ⟨b,2,none⟩=some (vS g i h)∧∃j,a.cell ⟨b,3,none⟩=some (vI vU j)∧∃k,a.cell ⟨b,4,none⟩=some (vI wI k)∧∃l,a.cell ⟨b,5,none⟩=some (vI wI l)∧FnW wP Znj ⟨[(vA ⟨[(vI wI f),(vS g i h),(vI vU j),(vI wI k),(vI wI l)]⟩)]⟩ a fun x d=>
 ∃m,x=vB m∧
 IfB (!m)
 (c (vB true) d)
 (∃n p o,d.cell ⟨b,6,none⟩=some (vS n p o)∧
 FnW wP Zno ⟨[(vS n p o)]⟩ d fun y e=>
 ∃q,y=vB q∧
 IfB (!q)
 (c (vB true) e)
 (∃r t s,e.cell ⟨b,7,none⟩=some (vS r t s)∧
 FnW wP Zno ⟨[(vS r t s)]⟩ e fun z v=>
 ∃u,z=vB u∧
 c (vB (!u)) v)))
def Zbuo (i j:Int) (k:Option Addr) (m l:Nat) (n o p:Int) (q:Option Addr) (s r:Nat) (t:Option Addr) (v u:Nat) (w x:Int) (h:Heap) (c:Value->Heap->Prop):Prop:=
 NewW h (Obj.cells ⟨[(vI wI i),(vI wI j),(vS k m l),(vI vU n),(vI wI o),(vI wI p),(vS q s r),(vS t v u),(vI wI w),(vI wI x)]⟩ Zbf) fun b a=>
 ∃f,a.cell ⟨b,0,none⟩=some (vI wI f)∧
 IfB (f==4)
 (∃g,a.cell ⟨b,8,none⟩=some (vI wI g)∧
 IfB (g==0)
 (Zpk b true a c)
 (∃d,a.cell ⟨b,9,none⟩=some (vI wI d)∧
 IfB (decide (d<1))
 (Zpk b true a c)
 (∃e,a.cell ⟨b,9,none⟩=some (vI wI e)∧
 Zpk b (decide (e>10)) a c)))
 (Zpk b false a c)
theorem Zcmi (d e:Int) (f:Option Addr) (h g:Nat) (i j k:Int) (l:Option Addr) (n m:Nat) (o:Option Addr) (q p:Nat) (r s:Int) {a:Heap} {c:Value->Heap->Prop} (u:Zbuo d e f h g i j k l n m o q p r s a fun v t=>∀b,Shut a t b->c v b):FnW wP Zbkd ⟨[(vA ⟨[(vI wI d),(vI wI e),(vS f h g),(vI vU i),(vI wI j),(vI wI k),(vS l n m),(vS o q p),(vI wI r),(vI wI s)]⟩)]⟩ a c:=Zj Tryz.func71 ⟨[],[],[],[]⟩ (by kernel_rfl) (by kernel_rfl) u
def Ztl (h:Nat) (i:Bool) (a:Heap) (b:Value->Heap->Prop):Prop:=
 IfB i
 (b (vB false) a)
 (∃c e d,a.cell ⟨h,1,none⟩=some (vS c e d)∧
 FnW wP Zbcn ⟨[(vS c e d),(vF (.func 107) #[] #[])]⟩ a fun j g=>
 ∃f,j=vB f∧
 b (vB (!f)) g)
def Zbua (i:Int) (j:Option Addr) (l k:Nat) (m n o:Int) (h:Heap) (c:Value->Heap->Prop):Prop:=
 NewW h (Obj.cells ⟨[(vI wI i),(vS j l k),(vI vU m),(vI wI n),(vI wI o)]⟩ Zba) fun b a=>
 ∃f,a.cell ⟨b,0,none⟩=some (vI wI f)∧
 IfB (f==4)
 (∃g,a.cell ⟨b,4,none⟩=some (vI wI g)∧
 ∃d,a.cell ⟨b,3,none⟩=some (vI wI d)∧
 IfB (decide (g<d))
 (Ztl b true a c)
 (∃e,a.cell ⟨b,4,none⟩=some (vI wI e)∧
 Ztl b (decide (e>32)) a c))
 (Ztl b false a c)
theorem Zclz (d:Int) (e:Option Addr) (g f:Nat) (h i j:Int) {a:Heap} {c:Value->Heap->Prop} (l:Zbua d e g f h i j a fun m k=>∀b,Shut a k b->c m b):FnW wP Znj ⟨[(vA ⟨[(vI wI d),(vS e g f),(vI vU h),(vI wI i),(vI wI j)]⟩)]⟩ a c:=Zj Tryz.func72 ⟨[],[],[],[]⟩ (by kernel_rfl) (by kernel_rfl) l
def Zzk (q:Option Addr) (f v:Nat) (o:FuncId) (r:Value) (c:Int) (b:Heap) (p:(Int×Unit)->Heap->Prop) (e:Value->Heap->Prop):Prop:=
 IfB (decide (c<(f:Int)))
 (NilP q fun t=>
 InB c f fun s=>
 elemAt t s 7 fun a=>
 ∃g,b.cell a=some (Value.string g)∧∃h,b.cell ⟨a.block,a.off+1,none⟩=some (vI vU h)∧∃i,b.cell ⟨a.block,a.off+2,none⟩=some (vI vU i)∧∃j,b.cell ⟨a.block,a.off+3,none⟩=some (vB j)∧∃k,b.cell ⟨a.block,a.off+4,none⟩=some (vI wI k)∧∃l,b.cell ⟨a.block,a.off+5,none⟩=some (Value.string l)∧∃m,b.cell ⟨a.block,a.off+6,none⟩=some (Value.string m)∧FnW wP o ⟨[(vA ⟨[(Value.string g),(vI vU h),(vI vU i),(vB j),(vI wI k),(Value.string l),(Value.string m)]⟩),r]⟩ b fun u d=>
 ∃n,u=vB n∧
 IfB n
 (e (vI wI c) d)
 (p ((vW wI (c+1)),()) d))
 (e (vI wI (-1)) b)
def Zbhi (e:Option Addr) (g f:Nat) (c:FuncId) (h:Value) (a:Heap) (b:Value->Heap->Prop):Prop:=
 Zbw (Int×Unit) (0,()) a fun i a d=>∀j:Env,Zzk e g f c h i.1 a d b
theorem Zbup (e:Option Addr) (g f:Nat) (d:FuncId) (h:Value) {a:Heap} {c:Value->Heap->Prop} (j:Zbhi e g f d h a fun k i=>∀b,Shut a i b->c k b):FnW wP Zbke ⟨[(vS e g f),(vF (.func d) #[] #[h])]⟩ a c:=Zj Tryz.func73 ⟨[],[(2,[8],[.int wI],[0,1,7])],[],[]⟩ (by kernel_rfl) (by kernel_rfl) j
def Zbhm (l:ByteArray) (k m:Nat) (i:Heap) (b:Value->Heap->Prop):Prop:=
 NewW i (Obj.cells ⟨[(Value.string l)]⟩ Zm) fun c a=>
 ∃e,a.cell ⟨c,0,none⟩=some (Value.string e)∧
 IfB (e.toList==(ByteArray.mk #[]).toList)
 (b (vB true) a)
 (∃f h g,a.cell ⟨k,m+5,none⟩=some (vS f h g)∧
 FnW wP Zni ⟨[(vS f h g),(vF (.func Zbcm) #[] #[(vP (some ⟨c,0,none⟩))])]⟩ a fun n j=>
 ∃d,n=vB d∧
 b (vB d) j)
theorem Zbuz (e:ByteArray) (d f:Nat) {a:Heap} {c:Value->Heap->Prop} (h:Zbhm e d f a fun i g=>∀b,Shut a g b->c i b):FnW wP Zra ⟨[(Value.string e),(vP (some ⟨d,f,none⟩))]⟩ a c:=Zj Tryz.func74 ⟨[],[],[],[]⟩ (by kernel_rfl) (by kernel_rfl) h
def Zbwd (h:ByteArray) (i:Option Addr) (k j f g:Nat) (d:Heap) (e:Value->Heap->Prop):Prop:=
 NewW d (Obj.cells ⟨[(Value.string h),(vS i k j)]⟩ Zdx) fun l a=>
 ∃b,a.cell ⟨l,0,none⟩=some (Value.string b)∧
 ∃c,a.cell ⟨f,g,none⟩=some (Value.string c)∧
 e (vB (b.toList==c.toList)) a
theorem Zcno (f:ByteArray) (g:Option Addr) (i h d e:Nat) {a:Heap} {c:Value->Heap->Prop} (k:Zbwd f g i h d e a fun l j=>∀b,Shut a j b->c l b):FnW wP Zbcm ⟨[(vA ⟨[(Value.string f),(vS g i h)]⟩),(vP (some ⟨d,e,none⟩))]⟩ a c:=Zj Tryz.func75 ⟨[],[],[],[]⟩ (by kernel_rfl) (by kernel_rfl) k
def Zbvr (z:Option Addr) (f D:Nat) (x:FuncId) (c:Int) (b:Heap) (y:(Int×Unit)->Heap->Prop) (e:Value->Heap->Prop):Prop:=
 IfB (decide (c<(f:Int)))
 (NilP z fun B=>
 InB c f fun A=>
 elemAt B A 10 fun a=>
 ∃g,b.cell a=some (vI wI g)∧∃h,b.cell ⟨a.block,a.off+1,none⟩=some (vI wI h)∧∃i k j,b.cell ⟨a.block,a.off+2,none⟩=some (vS i k j)∧∃l,b.cell ⟨a.block,a.off+3,none⟩=some (vI vU l)∧∃m,b.cell ⟨a.block,a.off+4,none⟩=some (vI wI m)∧∃n,b.cell ⟨a.block,a.off+5,none⟩=some (vI wI n)∧∃o q p,b.cell ⟨a.block,a.off+6,none⟩=some (vS o q p)∧∃r t s,b.cell ⟨a.block,a.off+7,none⟩=some (vS r t s)∧∃u,b.cell ⟨a.block,a.off+8,none⟩=some (vI wI u)∧∃v,b.cell ⟨a.block,a.off+9,none⟩=some (vI wI v)∧FnW wP x ⟨[(vA ⟨[(vI wI g),(vI wI h),(vS i k j),(vI vU l),(vI wI m),(vI wI n),(vS o q p),(vS r t s),(vI wI u),(vI wI v)]⟩)]⟩ b fun C d=>
 ∃w,C=vB w∧
 IfB w
 (e (vI wI c) d)
 (y ((vW wI (c+1)),()) d))
 (e (vI wI (-1)) b)
def Zbvs (e:Option Addr) (g f:Nat) (c:FuncId) (a:Heap) (b:Value->Heap->Prop):Prop:=
 Zbw (Int×Unit) (0,()) a fun h a d=>∀i:Env,Zbvr e g f c h.1 a d b
theorem Zcnc (e:Option Addr) (g f:Nat) (d:FuncId) {a:Heap} {c:Value->Heap->Prop} (i:Zbvs e g f d a fun j h=>∀b,Shut a h b->c j b):FnW wP Zbkg ⟨[(vS e g f),(vF (.func d) #[] #[])]⟩ a c:=Zj Tryz.func105 ⟨[],[(2,[8],[.int wI],[0,1,7])],[],[]⟩ (by kernel_rfl) (by kernel_rfl) i
def Zbwe (f:Option Addr) (h g:Nat) (e:FuncId) (b:Heap) (d:Value->Heap->Prop):Prop:=
 FnW wP Zbkh ⟨[(vS f h g),(vF (.func e) #[] #[])]⟩ b fun i c=>
 ∃a,i=vI wI a∧
 d (vB (decide (a≥0))) c
theorem Zcnp (e:Option Addr) (g f:Nat) (d:FuncId) {a:Heap} {c:Value->Heap->Prop} (i:Zbwe e g f d a fun j h=>∀b,Shut a h b->c j b):FnW wP Zbcn ⟨[(vS e g f),(vF (.func d) #[] #[])]⟩ a c:=Zj Tryz.func106 ⟨[],[],[],[]⟩ (by kernel_rfl) (by kernel_rfl) i
def Zbwh (n:Int) (o:Option Addr) (q p:Nat) (r s t:Int) (k:Heap) (m:Value->Heap->Prop):Prop:=
 NewW k (Obj.cells ⟨[(vI wI n),(vS o q p),(vI vU r),(vI wI s),(vI wI t)]⟩ Zba) fun b a=>
 ∃c,a.cell ⟨b,0,none⟩=some (vI wI c)∧∃d f e,a.cell ⟨b,1,none⟩=some (vS d f e)∧∃g,a.cell ⟨b,2,none⟩=some (vI vU g)∧∃h,a.cell ⟨b,3,none⟩=some (vI wI h)∧∃i,a.cell ⟨b,4,none⟩=some (vI wI i)∧FnW wP Znj ⟨[(vA ⟨[(vI wI c),(vS d f e),(vI vU g),(vI wI h),(vI wI i)]⟩)]⟩ a fun u l=>
 ∃j,u=vB j∧
 m (vB (!j)) l
theorem Zcns (d:Int) (e:Option Addr) (g f:Nat) (h i j:Int) {a:Heap} {c:Value->Heap->Prop} (l:Zbwh d e g f h i j a fun m k=>∀b,Shut a k b->c m b):FnW wP Zbyy ⟨[(vA ⟨[(vI wI d),(vS e g f),(vI vU h),(vI wI i),(vI wI j)]⟩)]⟩ a c:=Zj Tryz.func107 ⟨[],[],[],[]⟩ (by kernel_rfl) (by kernel_rfl) l
def Zbvu (q:Option Addr) (f u:Nat) (o:FuncId) (c:Int) (b:Heap) (p:(Int×Unit)->Heap->Prop) (e:Value->Heap->Prop):Prop:=
 IfB (decide (c<(f:Int)))
 (NilP q fun s=>
 InB c f fun r=>
 elemAt s r 5 fun a=>
 ∃g,b.cell a=some (vI wI g)∧∃h j i,b.cell ⟨a.block,a.off+1,none⟩=some (vS h j i)∧∃k,b.cell ⟨a.block,a.off+2,none⟩=some (vI vU k)∧∃l,b.cell ⟨a.block,a.off+3,none⟩=some (vI wI l)∧∃m,b.cell ⟨a.block,a.off+4,none⟩=some (vI wI m)∧FnW wP o ⟨[(vA ⟨[(vI wI g),(vS h j i),(vI vU k),(vI wI l),(vI wI m)]⟩)]⟩ b fun t d=>
 ∃n,t=vB n∧
 IfB n
 (e (vI wI c) d)
 (p ((vW wI (c+1)),()) d))
 (e (vI wI (-1)) b)
def Zbvv (e:Option Addr) (g f:Nat) (c:FuncId) (a:Heap) (b:Value->Heap->Prop):Prop:=
 Zbw (Int×Unit) (0,()) a fun h a d=>∀i:Env,Zbvu e g f c h.1 a d b
theorem Zcnf (e:Option Addr) (g f:Nat) (d:FuncId) {a:Heap} {c:Value->Heap->Prop} (i:Zbvv e g f d a fun j h=>∀b,Shut a h b->c j b):FnW wP Zbkh ⟨[(vS e g f),(vF (.func d) #[] #[])]⟩ a c:=Zj Tryz.func137 ⟨[],[(2,[8],[.int wI],[0,1,7])],[],[]⟩ (by kernel_rfl) (by kernel_rfl) i
end Go.Proofs.YtlkdgfolbllngaaGreatDoor
end
section
set_option maxRecDepth 100000
namespace Go.Proofs.YtlkdgfolbllngaaGreatDoor
open Go.Sh
open Value renaming int -> vI, slice -> vS, pointer -> vP, bool -> vB, tuple -> vT, agg -> vA, func -> vF
open IntKind renaming wrap -> vW, i64 -> wI, u32 -> vU
open Go.Proofs.Tryz renaming prog -> wP
def Zbtw (f:Option Addr) (h g:Nat) (e:FuncId) (i:Value) (b:Heap) (d:Value->Heap->Prop):Prop:=
 FnW wP Zup ⟨[(vS f h g),(vF (.func e) #[] #[i])]⟩ b fun j c=>
 ∃a,j=vI wI a∧
 d (vB (decide (a≥0))) c
theorem Zclw (e:Option Addr) (g f:Nat) (d:FuncId) (h:Value) {a:Heap} {c:Value->Heap->Prop} (j:Zbtw e g f d h a fun k i=>∀b,Shut a i b->c k b):FnW wP Zni ⟨[(vS e g f),(vF (.func d) #[] #[h])]⟩ a c:=Zj Tryz.func34 ⟨[],[],[],[]⟩ (by kernel_rfl) (by kernel_rfl) j
def Zbte (n:Option Addr) (f s:Nat) (l:FuncId) (o:Value) (b:Int) (a:Heap) (m:(Int×Unit)->Heap->Prop) (e:Value->Heap->Prop):Prop:=
 IfB (decide (b<(f:Int)))
 (NilP n fun q=>
 InB b f fun p=>
 elemAt q p 2 fun c=>
 ∃g,a.cell c=some (Value.string g)∧∃h j i,a.cell ⟨c.block,c.off+1,none⟩=some (vS h j i)∧FnW wP l ⟨[(vA ⟨[(Value.string g),(vS h j i)]⟩),o]⟩ a fun r d=>
 ∃k,r=vB k∧
 IfB k
 (e (vI wI b) d)
 (m ((vW wI (b+1)),()) d))
 (e (vI wI (-1)) a)
def Zbtf (e:Option Addr) (g f:Nat) (c:FuncId) (h:Value) (a:Heap) (b:Value->Heap->Prop):Prop:=
 Zbw (Int×Unit) (0,()) a fun i a d=>∀j:Env,Zbte e g f c h i.1 a d b
theorem Zclk (e:Option Addr) (g f:Nat) (d:FuncId) (h:Value) {a:Heap} {c:Value->Heap->Prop} (j:Zbtf e g f d h a fun k i=>∀b,Shut a i b->c k b):FnW wP Zup ⟨[(vS e g f),(vF (.func d) #[] #[h])]⟩ a c:=Zj Tryz.func69 ⟨[],[(2,[8],[.int wI],[0,1,7])],[],[]⟩ (by kernel_rfl) (by kernel_rfl) j
end Go.Proofs.YtlkdgfolbllngaaGreatDoor
end
section
set_option maxRecDepth 100000
namespace Go.Proofs.YtlkdgfolbllngaaGreatDoor
open Go.Sh
open Value renaming int -> vI, slice -> vS, pointer -> vP, bool -> vB, tuple -> vT, agg -> vA, func -> vF
open IntKind renaming wrap -> vW, i64 -> wI, u32 -> vU
open Go.Proofs.Tryz renaming prog -> wP
def Zpj (c:ByteArray) (d:Int) (e:Bool) (a:Heap) (b:Value->Heap->Prop):Prop:=
 IfB e
 (b (vT ⟨[(Value.string (ByteArray.mk #[])),(vI wI 2)]⟩) a)
 (b (vT ⟨[(Value.string c),(vI wI d)]⟩) a)
def Zbgy (g l:Nat) (d1:Option Addr) (m e0:Nat) (d9:(Int×Unit)->Heap->Prop) (j:Int) (e:Heap) (d0:(Int×Unit)->Heap->Prop) (k:Value->Heap->Prop):Prop:=
 IfB (decide (j<(m:Int)))
 (NilP d1 fun d3=>
 InB j m fun d2=>
 elemAt d3 d2 7 fun d=>
 ∃n,e.cell d=some (Value.string n)∧∃o,e.cell ⟨d.block,d.off+1,none⟩=some (vI vU o)∧∃p,e.cell ⟨d.block,d.off+2,none⟩=some (vI vU p)∧∃q,e.cell ⟨d.block,d.off+3,none⟩=some (vB q)∧∃r,e.cell ⟨d.block,d.off+4,none⟩=some (vI wI r)∧∃s,e.cell ⟨d.block,d.off+5,none⟩=some (Value.string s)∧∃t,e.cell ⟨d.block,d.off+6,none⟩=some (Value.string t)∧NewW e (Obj.cells ⟨[(Value.string (ByteArray.mk #[])),(vI vU 0),(vI vU 0),(vB false),(vI wI 0),(Value.string (ByteArray.mk #[])),(Value.string (ByteArray.mk #[]))]⟩ Zbh) fun c b2=>
 Za b2 ⟨c,0,none⟩ (Value.string n) fun b3=>
 Za b3 ⟨c,1,none⟩ (vI vU o) fun b4=>
 Za b4 ⟨c,2,none⟩ (vI vU p) fun b5=>
 Za b5 ⟨c,3,none⟩ (vB q) fun b6=>
 Za b6 ⟨c,4,none⟩ (vI wI r) fun b7=>
 Za b7 ⟨c,5,none⟩ (Value.string s) fun b8=>
 Za b8 ⟨c,6,none⟩ (Value.string t) fun f=>
 ∃u,f.cell ⟨c,0,none⟩=some (Value.string u)∧∃v,f.cell ⟨c,1,none⟩=some (vI vU v)∧∃w,f.cell ⟨c,2,none⟩=some (vI vU w)∧∃x,f.cell ⟨c,3,none⟩=some (vB x)∧∃y,f.cell ⟨c,4,none⟩=some (vI wI y)∧∃z,f.cell ⟨c,5,none⟩=some (Value.string z)∧∃A,f.cell ⟨c,6,none⟩=some (Value.string A)∧FnW wP Zbbt ⟨[(vP (some ⟨l,0,none⟩)),(vA ⟨[(Value.string u),(vI vU v),(vI vU w),(vB x),(vI wI y),(Value.string z),(Value.string A)]⟩)]⟩ f fun d4 b9=>
 d4=vT ⟨[]⟩∧
 d0 ((vW wI (j+1)),()) b9)
 (∃B D C,e.cell ⟨l,0,none⟩=some (vS B D C)∧
 FnW wP Zjw ⟨[(vS B D C),(Value.string (ByteArray.mk #[32]))]⟩ e fun d5 c0=>
 ∃h,d5=Value.string h∧
 FnW wP Zlj ⟨[(Value.string h)]⟩ c0 fun d7 c1=>
 ∃E,∃F:Int,∃G:Int,∃H:Int,∃I:Int,∃(J:Option Addr) (L K:Nat),∃(M:Option Addr) (O N:Nat),∃d6:Int,∃i:Int,d7=(vT ⟨[(vA ⟨[(vI vU E),(vI vU F),(vI wI G),(vI wI H),(vI wI I),(vS J L K),(vS M O N)]⟩),(vI wI d6),(vI wI i)]⟩)∧
 NewW c1 (Obj.cells ⟨[(vI vU 0),(vI vU 0),(vI wI 0),(vI wI 0),(vI wI 0),(vS none 0 0),(vS none 0 0)]⟩ Zcc) fun b c2=>
 Za c2 ⟨b,0,none⟩ (vI vU E) fun c3=>
 Za c3 ⟨b,1,none⟩ (vI vU F) fun c4=>
 Za c4 ⟨b,2,none⟩ (vI wI G) fun c5=>
 Za c5 ⟨b,3,none⟩ (vI wI H) fun c6=>
 Za c6 ⟨b,4,none⟩ (vI wI I) fun c7=>
 Za c7 ⟨b,5,none⟩ (vS J L K) fun c8=>
 Za c8 ⟨b,6,none⟩ (vS M O N) fun a=>
 IfB (i !=0)
 (Zpj h i true a k)
 (∃P,a.cell ⟨b,0,none⟩=some (vI vU P)∧∃Q,a.cell ⟨b,1,none⟩=some (vI vU Q)∧∃R,a.cell ⟨b,2,none⟩=some (vI wI R)∧∃S,a.cell ⟨b,3,none⟩=some (vI wI S)∧∃T,a.cell ⟨b,4,none⟩=some (vI wI T)∧∃U W V,a.cell ⟨b,5,none⟩=some (vS U W V)∧∃X Z Y,a.cell ⟨b,6,none⟩=some (vS X Z Y)∧∃a0,a.cell ⟨g,0,none⟩=some (vI vU a0)∧∃a1,a.cell ⟨g,1,none⟩=some (vI vU a1)∧∃a2,a.cell ⟨g,2,none⟩=some (vI wI a2)∧∃a3,a.cell ⟨g,3,none⟩=some (vI wI a3)∧∃a4,a.cell ⟨g,4,none⟩=some (vI wI a4)∧∃a5 a7 a6,a.cell ⟨g,5,none⟩=some (vS a5 a7 a6)∧∃a8 b0 a9,a.cell ⟨g,6,none⟩=some (vS a8 b0 a9)∧FnW wP Zuy ⟨[(vA ⟨[(vI vU P),(vI vU Q),(vI wI R),(vI wI S),(vI wI T),(vS U W V),(vS X Z Y)]⟩),(vA ⟨[(vI vU a0),(vI vU a1),(vI wI a2),(vI wI a3),(vI wI a4),(vS a5 a7 a6),(vS a8 b0 a9)]⟩)]⟩ a fun d8 c9=>
 ∃b1,d8=vB b1∧
 Zpj h i (!b1) c9 k))
def Zbsx (i c:Nat) (D:Option Addr) (j K:Nat) (d:Int) (a:Heap) (h:(Int×Unit)->Heap->Prop) (A:Value->Heap->Prop):Prop:=
 IfB (decide (d<(j:Int)))
 (NilP D fun F=>
 InB d j fun E=>
 elemAt F E 2 fun e=>
 ∃k,a.cell e=some (Value.string k)∧∃l n m,a.cell ⟨e.block,e.off+1,none⟩=some (vS l n m)∧NewW a (Obj.cells ⟨[(Value.string (ByteArray.mk #[])),(vS none 0 0)]⟩ Zdx) fun b w=>
 Za w ⟨b,0,none⟩ (Value.string k) fun x=>
 Za x ⟨b,1,none⟩ (vS l n m) fun f=>
 ∃o,f.cell ⟨b,0,none⟩=some (Value.string o)∧
 NewW f (Obj.cells ⟨[(Value.string (ByteArray.mk #[112,111,108,105,99,121])),(Value.string o)]⟩ Zm) fun G y=>
 FnW wP Zbi ⟨[(vP (some ⟨c,0,none⟩)),(vS (some ⟨G,0,none⟩) 2 2)]⟩ y fun H g=>
 H=vT ⟨[]⟩∧
 ∃p r q,g.cell ⟨b,1,none⟩=some (vS p r q)∧
 FnW wP Zqx ⟨[(vP (some ⟨c,0,none⟩)),(vS p r q)]⟩ g fun I z=>
 I=vT ⟨[]⟩∧
 h ((vW wI (d+1)),()) z)
 (∃s u t,a.cell ⟨i,6,none⟩=some (vS s u t)∧
 Zbw (Int×Unit) (0,()) a fun C v B=>∀J:Env,Zbgy i c s u t h C.1 v B A)
def Zyv (b j:Nat) (a:Heap) (g:Value->Heap->Prop):Prop:=
 ∃c e d,a.cell ⟨b,5,none⟩=some (vS c e d)∧
 Zbw (Int×Unit) (0,()) a fun i f h=>∀k:Env,Zbsx b j c e d i.1 f h g
def Zbsy (Q R S T U:Int) (V:Option Addr) (X W:Nat) (Y:Option Addr) (a0 Z:Nat) (K:Heap) (h:Value->Heap->Prop):Prop:=
 NewW K (Obj.cells ⟨[(vI vU Q),(vI vU R),(vI wI S),(vI wI T),(vI wI U),(vS V X W),(vS Y a0 Z)]⟩ Zcc) fun a d=>
 ∃o,d.cell ⟨a,0,none⟩=some (vI vU o)∧∃p,d.cell ⟨a,1,none⟩=some (vI vU p)∧∃q,d.cell ⟨a,2,none⟩=some (vI wI q)∧∃r,d.cell ⟨a,3,none⟩=some (vI wI r)∧∃s,d.cell ⟨a,4,none⟩=some (vI wI s)∧∃t v u,d.cell ⟨a,5,none⟩=some (vS t v u)∧∃w y x,d.cell ⟨a,6,none⟩=some (vS w y x)∧FnW wP Zll ⟨[(vA ⟨[(vI vU o),(vI vU p),(vI wI q),(vI wI r),(vI wI s),(vS t v u),(vS w y x)]⟩)]⟩ d fun a1 j=>
 ∃i,a1=vI wI i∧
 IfB (i !=0)
 (h (vT ⟨[(Value.string (ByteArray.mk #[])),(vI wI i)]⟩) j)
 (NewW j (Obj.cells ⟨[(vS none 0 0)]⟩ Zbhx) fun g c=>
 ∃e:List Nat,(∀b∈e,∃P,c b=some P)∧
 ∃z,c.cell ⟨a,0,none⟩=some (vI vU z)∧
 a∈e∧∃B,c.cell ⟨a,1,none⟩=some (vI vU B)∧
 a∈e∧∃D,c.cell ⟨a,2,none⟩=some (vI wI D)∧
 a∈e∧∃F,c.cell ⟨a,3,none⟩=some (vI wI F)∧
 FnW wP Zfg ⟨[(vI wI (vW wI z))]⟩ c fun a2 k=>
 ∃A,a2=Value.string A∧
 Zdw e c k∧FnW wP Zqp ⟨[(vI vU B)]⟩ k fun a3 l=>
 ∃C,a3=Value.string C∧
 Zdw e c l∧FnW wP Zfg ⟨[(vI wI D)]⟩ l fun a4 m=>
 ∃E,a4=Value.string E∧
 Zdw e c m∧FnW wP Zfg ⟨[(vI wI F)]⟩ m fun a5 n=>
 ∃G,a5=Value.string G∧
 Zdw e c n∧NewW n (Obj.cells ⟨[(Value.string (ByteArray.mk #[115,121,115,116,101,109])),(Value.string A),(Value.string (ByteArray.mk #[59])),(Value.string (ByteArray.mk #[114,111,117,116,101,114])),(Value.string C),(Value.string (ByteArray.mk #[59])),(Value.string (ByteArray.mk #[104,111,108,100])),(Value.string E),(Value.string (ByteArray.mk #[59])),(Value.string (ByteArray.mk #[114,101,116,114,121])),(Value.string G),(Value.string (ByteArray.mk #[59]))]⟩ Zm) fun a6 O=>
 FnW wP Zbi ⟨[(vP (some ⟨g,0,none⟩)),(vS (some ⟨a6,0,none⟩) 12 12)]⟩ O fun a7 f=>
 a7=vT ⟨[]⟩∧
 ∃H,f.cell ⟨a,4,none⟩=some (vI wI H)∧
 IfB (decide (H>0))
 (∃I,f.cell ⟨a,4,none⟩=some (vI wI I)∧
 FnW wP Zfg ⟨[(vI wI I)]⟩ f fun a8 L=>
 ∃J,a8=Value.string J∧
 NewW L (Obj.cells ⟨[(Value.string (ByteArray.mk #[103,114,97,99,101,102,117,108])),(Value.string J),(Value.string (ByteArray.mk #[59]))]⟩ Zm) fun a9 M=>
 FnW wP Zbi ⟨[(vP (some ⟨g,0,none⟩)),(vS (some ⟨a9,0,none⟩) 3 3)]⟩ M fun b0 N=>
 b0=vT ⟨[]⟩∧
 Zyv a g N h)
 (Zyv a g f h))
theorem Zclf (d e f g h:Int) (i:Option Addr) (k j:Nat) (l:Option Addr) (n m:Nat) {a:Heap} {c:Value->Heap->Prop} (p:Zbsy d e f g h i k j l n m a fun q o=>∀b,Shut a o b->c q b):FnW wP Zbbw ⟨[(vA ⟨[(vI vU d),(vI vU e),(vI wI f),(vI wI g),(vI wI h),(vS i k j),(vS l n m)]⟩)]⟩ a c:=Zj Tryz.func12 ⟨[(5,[0,1,2,3,5,6,8,9,11,12,4,7,10,13,14,15],[27,30,33])],[(9,[49],[.int wI],[1,5,47,48]),(15,[66],[.int wI],[1,5,64,65])],[],[]⟩ (by kernel_rfl) (by kernel_rfl) p
def Zbho (b:Nat) (l:Option Addr) (n m:Nat) (a:Heap) (k:Value->Heap->Prop):Prop:=
 ∃f h g,a.cell ⟨b,0,none⟩=some (vS f h g)∧
 AppW wP #[Ztw,Ztw] Ztw [(vS f h g),(vS l n m)] a fun o i=>
 ∃c e d,o=vS c e d∧
 Za i ⟨b,0,none⟩ (vS c e d) fun j=>
 k (vT ⟨[]⟩) j
theorem Zcne (g:Nat) (d:Option Addr) (f e:Nat) {a:Heap} {c:Value->Heap->Prop} (i:Zbho g d f e a fun j h=>∀b,Shut a h b->c j b):FnW wP Zbi ⟨[(vP (some ⟨g,0,none⟩)),(vS d f e)]⟩ a c:=Zj Tryz.func21 ⟨[],[],[],[]⟩ (by kernel_rfl) (by kernel_rfl) i
def Zbus (g:Nat) (a1:Option Addr) (f a8:Nat) (e:Int) (c:Heap) (a2:(Int×Unit)->Heap->Prop) (a0:Value->Heap->Prop):Prop:=
 IfB (decide (e<(f:Int)))
 (NilP a1 fun a4=>
 InB e f fun a3=>
 elemAt a4 a3 10 fun b=>
 ∃h,c.cell b=some (vI wI h)∧∃i,c.cell ⟨b.block,b.off+1,none⟩=some (vI wI i)∧∃j l k,c.cell ⟨b.block,b.off+2,none⟩=some (vS j l k)∧∃m,c.cell ⟨b.block,b.off+3,none⟩=some (vI vU m)∧∃n,c.cell ⟨b.block,b.off+4,none⟩=some (vI wI n)∧∃o,c.cell ⟨b.block,b.off+5,none⟩=some (vI wI o)∧∃p r q,c.cell ⟨b.block,b.off+6,none⟩=some (vS p r q)∧∃s u t,c.cell ⟨b.block,b.off+7,none⟩=some (vS s u t)∧∃v,c.cell ⟨b.block,b.off+8,none⟩=some (vI wI v)∧∃w,c.cell ⟨b.block,b.off+9,none⟩=some (vI wI w)∧NewW c (Obj.cells ⟨[(vI wI 0),(vI wI 0),(vS none 0 0),(vI vU 0),(vI wI 0),(vI wI 0),(vS none 0 0),(vS none 0 0),(vI wI 0),(vI wI 0)]⟩ Zbf) fun a U=>
 Za U ⟨a,0,none⟩ (vI wI h) fun V=>
 Za V ⟨a,1,none⟩ (vI wI i) fun W=>
 Za W ⟨a,2,none⟩ (vS j l k) fun X=>
 Za X ⟨a,3,none⟩ (vI vU m) fun Y=>
 Za Y ⟨a,4,none⟩ (vI wI n) fun Z=>
 Za Z ⟨a,5,none⟩ (vI wI o) fun N=>
 Za N ⟨a,6,none⟩ (vS p r q) fun O=>
 Za O ⟨a,7,none⟩ (vS s u t) fun P=>
 Za P ⟨a,8,none⟩ (vI wI v) fun Q=>
 Za Q ⟨a,9,none⟩ (vI wI w) fun d=>
 ∃x,d.cell ⟨a,0,none⟩=some (vI wI x)∧∃y,d.cell ⟨a,1,none⟩=some (vI wI y)∧∃z B A,d.cell ⟨a,2,none⟩=some (vS z B A)∧∃C,d.cell ⟨a,3,none⟩=some (vI vU C)∧∃D,d.cell ⟨a,4,none⟩=some (vI wI D)∧∃E,d.cell ⟨a,5,none⟩=some (vI wI E)∧∃F H G,d.cell ⟨a,6,none⟩=some (vS F H G)∧∃I K J,d.cell ⟨a,7,none⟩=some (vS I K J)∧∃L,d.cell ⟨a,8,none⟩=some (vI wI L)∧∃M,d.cell ⟨a,9,none⟩=some (vI wI M)∧FnW wP Zbbs ⟨[(vP (some ⟨g,0,none⟩)),(vA ⟨[(vI wI x),(vI wI y),(vS z B A),(vI vU C),(vI wI D),(vI wI E),(vS F H G),(vS I K J),(vI wI L),(vI wI M)]⟩)]⟩ d fun a5 R=>
 a5=vT ⟨[]⟩∧
 a2 ((vW wI (e+1)),()) R)
 (NewW c (Obj.cells ⟨[(Value.string (ByteArray.mk #[125]))]⟩ Zm) fun a6 S=>
 FnW wP Zbi ⟨[(vP (some ⟨g,0,none⟩)),(vS (some ⟨a6,0,none⟩) 1 1)]⟩ S fun a7 T=>
 a7=vT ⟨[]⟩∧
 a0 (vT ⟨[]⟩) T)
def Zbut (b:Nat) (f:Option Addr) (h g:Nat) (a:Heap) (e:Value->Heap->Prop):Prop:=
 NewW a (Obj.cells ⟨[(Value.string (ByteArray.mk #[123]))]⟩ Zm) fun k c=>
 FnW wP Zbi ⟨[(vP (some ⟨b,0,none⟩)),(vS (some ⟨k,0,none⟩) 1 1)]⟩ c fun l d=>
 l=vT ⟨[]⟩∧
 Zbw (Int×Unit) (0,()) d fun j a i=>∀m:Env,Zbus b f h g j.1 a i e
theorem Zcmk (g:Nat) (d:Option Addr) (f e:Nat) {a:Heap} {c:Value->Heap->Prop} (i:Zbut g d f e a fun j h=>∀b,Shut a h b->c j b):FnW wP Zqx ⟨[(vP (some ⟨g,0,none⟩)),(vS d f e)]⟩ a c:=Zj Tryz.func24 ⟨[],[(2,[11],[.int wI],[0,9,10])],[],[]⟩ (by kernel_rfl) (by kernel_rfl) i
def Zyr (e:Nat) (a:Heap) (d:Value->Heap->Prop):Prop:=
 NewW a (Obj.cells ⟨[(Value.string (ByteArray.mk #[59]))]⟩ Zm) fun f b=>
 FnW wP Zbi ⟨[(vP (some ⟨e,0,none⟩)),(vS (some ⟨f,0,none⟩) 1 1)]⟩ b fun g c=>
 g=vT ⟨[]⟩∧
 d (vT ⟨[]⟩) c
def Zyq (b d:Nat) (a:Heap) (c:Value->Heap->Prop):Prop:=
 ∃e,a.cell ⟨d,6,none⟩=some (Value.string e)∧
 IfB (!(e.toList==(ByteArray.mk #[]).toList))
 (∃f,a.cell ⟨d,6,none⟩=some (Value.string f)∧
 NewW a (Obj.cells ⟨[(Value.string (ByteArray.mk #[111,117,116])),(Value.string f)]⟩ Zm) fun i g=>
 FnW wP Zbi ⟨[(vP (some ⟨b,0,none⟩)),(vS (some ⟨i,0,none⟩) 2 2)]⟩ g fun j h=>
 j=vT ⟨[]⟩∧
 Zyr b h c)
 (Zyr b a c)
def Zyp (c b:Nat) (a:Heap) (d:Value->Heap->Prop):Prop:=
 ∃e,a.cell ⟨b,5,none⟩=some (Value.string e)∧
 IfB (!(e.toList==(ByteArray.mk #[]).toList))
 (∃f,a.cell ⟨b,5,none⟩=some (Value.string f)∧
 NewW a (Obj.cells ⟨[(Value.string (ByteArray.mk #[105,110])),(Value.string f)]⟩ Zm) fun i g=>
 FnW wP Zbi ⟨[(vP (some ⟨c,0,none⟩)),(vS (some ⟨i,0,none⟩) 2 2)]⟩ g fun j h=>
 j=vT ⟨[]⟩∧
 Zyq c b h d)
 (Zyq c b a d)
def Zyo (b a:Nat) (c:Heap) (e:Value->Heap->Prop):Prop:=
 ∃f,c.cell ⟨a,4,none⟩=some (vI wI f)∧
 IfB (decide (f>0))
 (NewW c (Obj.cells ⟨[(Value.string (ByteArray.mk #[109,97,120]))]⟩ Zm) fun j i=>
 FnW wP Zbi ⟨[(vP (some ⟨b,0,none⟩)),(vS (some ⟨j,0,none⟩) 1 1)]⟩ i fun k d=>
 k=vT ⟨[]⟩∧
 ∃g,d.cell ⟨a,4,none⟩=some (vI wI g)∧
 FnW wP Zhl ⟨[(vP (some ⟨b,0,none⟩)),(vI wI g)]⟩ d fun l h=>
 l=vT ⟨[]⟩∧
 Zyp b a h e)
 (Zyp b a c e)
def Zbsp (d:Nat) (t:ByteArray) (u v:Int) (w:Bool) (x:Int) (y z:ByteArray) (o:Heap) (i:Value->Heap->Prop):Prop:=
 NewW o (Obj.cells ⟨[(Value.string t),(vI vU u),(vI vU v),(vB w),(vI wI x),(Value.string y),(Value.string z)]⟩ Zbh) fun a c=>
 ∃f:List Nat,(∀b∈f,∃s,c b=some s)∧
 a∈f∧∃l,c.cell ⟨a,0,none⟩=some (Value.string l)∧
 ∃m,c.cell ⟨a,1,none⟩=some (vI vU m)∧
 FnW wP Zqp ⟨[(vI vU m)]⟩ c fun F g=>
 ∃n,F=Value.string n∧
 Zdw f c g∧NewW g (Obj.cells ⟨[(Value.string (ByteArray.mk #[112,101,101,114])),(Value.string l),(Value.string n),(Value.string (ByteArray.mk #[97,115]))]⟩ Zm) fun A p=>
 FnW wP Zbi ⟨[(vP (some ⟨d,0,none⟩)),(vS (some ⟨A,0,none⟩) 4 4)]⟩ p fun B h=>
 B=vT ⟨[]⟩∧
 ∃j,h.cell ⟨a,2,none⟩=some (vI vU j)∧
 FnW wP Zhl ⟨[(vP (some ⟨d,0,none⟩)),(vI wI (vW wI j))]⟩ h fun C e=>
 C=vT ⟨[]⟩∧
 ∃k,e.cell ⟨a,3,none⟩=some (vB k)∧
 IfB k
 (NewW e (Obj.cells ⟨[(Value.string (ByteArray.mk #[119,97,105,116,115]))]⟩ Zm) fun D q=>
 FnW wP Zbi ⟨[(vP (some ⟨d,0,none⟩)),(vS (some ⟨D,0,none⟩) 1 1)]⟩ q fun E r=>
 E=vT ⟨[]⟩∧
 Zyo d a r i)
 (Zyo d a e i)
theorem Zcla (k:Nat) (d:ByteArray) (e f:Int) (g:Bool) (h:Int) (i j:ByteArray) {a:Heap} {c:Value->Heap->Prop} (m:Zbsp k d e f g h i j a fun n l=>∀b,Shut a l b->c n b):FnW wP Zbbt ⟨[(vP (some ⟨k,0,none⟩)),(vA ⟨[(Value.string d),(vI vU e),(vI vU f),(vB g),(vI wI h),(Value.string i),(Value.string j)]⟩)]⟩ a c:=Zj Tryz.func25 ⟨[(1,[0,1,2,3,4,5,6,7],[6])],[],[],[]⟩ (by kernel_rfl) (by kernel_rfl) m
def Zpf (e:Nat) (a:Heap) (d:Value->Heap->Prop):Prop:=
 NewW a (Obj.cells ⟨[(Value.string (ByteArray.mk #[59]))]⟩ Zm) fun f b=>
 FnW wP Zbi ⟨[(vP (some ⟨e,0,none⟩)),(vS (some ⟨f,0,none⟩) 1 1)]⟩ b fun g c=>
 g=vT ⟨[]⟩∧
 d (vT ⟨[]⟩) c
def Zyn (b f:Nat) (g:Bool) (a:Heap) (c:Value->Heap->Prop):Prop:=
 IfB g
 (∃d,a.cell ⟨f,8,none⟩=some (vI wI d)∧
 FnW wP Zuz ⟨[(vP (some ⟨b,0,none⟩)),(vI wI d)]⟩ a fun h e=>
 h=vT ⟨[]⟩∧
 Zpf b e c)
 (Zpf b a c)
def Zym (b d:Nat) (e:Int) (h:Bool) (a:Heap) (c:Value->Heap->Prop):Prop:=
 IfB h
 (∃f,a.cell ⟨d,8,none⟩=some (vI wI f)∧
 FnW wP Zhl ⟨[(vP (some ⟨b,0,none⟩)),(vI wI f)]⟩ a fun i g=>
 i=vT ⟨[]⟩∧
 Zpf b g c)
 (IfB (e==7)
 (Zyn b d (e==7) a c)
 (Zyn b d (e==8) a c))
def Zyl (a c w:Nat) (p:Bool) (e:Heap) (f:Value->Heap->Prop):Prop:=
 IfB p
 (NewW e (Obj.cells ⟨[(Value.string (ByteArray.mk #[63])),(Value.string (ByteArray.mk #[59]))]⟩ Zm) fun q l=>
 FnW wP Zbi ⟨[(vP (some ⟨a,0,none⟩)),(vS (some ⟨q,0,none⟩) 2 2)]⟩ l fun r m=>
 r=vT ⟨[]⟩∧
 f (vT ⟨[]⟩) m)
 (∃h,e.cell ⟨c,0,none⟩=some (vI wI h)∧
 InB (vW wI (h - 2)) 8 fun s=>
 ∃i,e.cell ⟨w,0+s*1,none⟩=some (Value.string i)∧
 NewW e (Obj.cells ⟨[(Value.string i)]⟩ Zm) fun t n=>
 FnW wP Zbi ⟨[(vP (some ⟨a,0,none⟩)),(vS (some ⟨t,0,none⟩) 1 1)]⟩ n fun u d=>
 u=vT ⟨[]⟩∧
 ∃b,d.cell ⟨c,0,none⟩=some (vI wI b)∧
 IfB (b==4)
 (∃j,d.cell ⟨c,8,none⟩=some (vI wI j)∧
 FnW wP Zhl ⟨[(vP (some ⟨a,0,none⟩)),(vI wI j)]⟩ d fun v g=>
 v=vT ⟨[]⟩∧
 ∃k,g.cell ⟨c,9,none⟩=some (vI wI k)∧
 FnW wP Zhl ⟨[(vP (some ⟨a,0,none⟩)),(vI wI k)]⟩ g fun x o=>
 x=vT ⟨[]⟩∧
 Zpf a o f)
 (IfB (b==5)
 (Zym a c b (b==5) d f)
 (Zym a c b (b==6) d f)))
def Zbsn (b:Nat) (F G:Int) (H:Option Addr) (J I:Nat) (K L M:Int) (N:Option Addr) (P O:Nat) (Q:Option Addr) (S R:Nat) (T U:Int) (A:Heap) (e:Value->Heap->Prop):Prop:=
 NewW A (Obj.cells ⟨[(vI wI F),(vI wI G),(vS H J I),(vI vU K),(vI wI L),(vI wI M),(vS N P O),(vS Q S R),(vI wI T),(vI wI U)]⟩ Zbf) fun a B=>
 NewW B (Obj.cells ⟨[(Value.string (ByteArray.mk #[97,99,99,101,112,116])),(Value.string (ByteArray.mk #[114,101,106,101,99,116])),(Value.string (ByteArray.mk #[112,114,101,112,101,110,100])),(Value.string (ByteArray.mk #[108,111,99,97,108])),(Value.string (ByteArray.mk #[109,101,100])),(Value.string (ByteArray.mk #[97,100,100])),(Value.string (ByteArray.mk #[100,114,111,112])),(Value.string (ByteArray.mk #[99,108,101,97,114]))]⟩ Zm) fun y c=>
 ∃z,c.cell ⟨a,0,none⟩=some (vI wI z)∧
 IfB (z==1)
 (NewW c (Obj.cells ⟨[(Value.string (ByteArray.mk #[105,102]))]⟩ Zm) fun V C=>
 FnW wP Zbi ⟨[(vP (some ⟨b,0,none⟩)),(vS (some ⟨V,0,none⟩) 1 1)]⟩ C fun W d=>
 W=vT ⟨[]⟩∧
 ∃i,d.cell ⟨a,1,none⟩=some (vI wI i)∧∃j l k,d.cell ⟨a,2,none⟩=some (vS j l k)∧∃m,d.cell ⟨a,3,none⟩=some (vI vU m)∧∃n,d.cell ⟨a,4,none⟩=some (vI wI n)∧∃o,d.cell ⟨a,5,none⟩=some (vI wI o)∧FnW wP Zqy ⟨[(vP (some ⟨b,0,none⟩)),(vA ⟨[(vI wI i),(vS j l k),(vI vU m),(vI wI n),(vI wI o)]⟩),(vI wI 0)]⟩ d fun X g=>
 X=vT ⟨[]⟩∧
 ∃p r q,g.cell ⟨a,6,none⟩=some (vS p r q)∧
 FnW wP Zqx ⟨[(vP (some ⟨b,0,none⟩)),(vS p r q)]⟩ g fun Y f=>
 Y=vT ⟨[]⟩∧
 ∃Z s a0,f.cell ⟨a,7,none⟩=some (vS Z s a0)∧
 IfB (decide (((s:Int):Int)>0))
 (NewW f (Obj.cells ⟨[(Value.string (ByteArray.mk #[101,108,115,101]))]⟩ Zm) fun a1 D=>
 FnW wP Zbi ⟨[(vP (some ⟨b,0,none⟩)),(vS (some ⟨a1,0,none⟩) 1 1)]⟩ D fun a2 h=>
 a2=vT ⟨[]⟩∧
 ∃t v u,h.cell ⟨a,7,none⟩=some (vS t v u)∧
 FnW wP Zqx ⟨[(vP (some ⟨b,0,none⟩)),(vS t v u)]⟩ h fun a3 E=>
 a3=vT ⟨[]⟩∧
 e (vT ⟨[]⟩) E)
 (e (vT ⟨[]⟩) f))
 (∃w,c.cell ⟨a,0,none⟩=some (vI wI w)∧
 IfB (decide (w<2))
 (Zyl b a y true c e)
 (∃x,c.cell ⟨a,0,none⟩=some (vI wI x)∧
 Zyl b a y (decide (x>9)) c e))
theorem Zcky (t:Nat) (d e:Int) (f:Option Addr) (h g:Nat) (i j k:Int) (l:Option Addr) (n m:Nat) (o:Option Addr) (q p:Nat) (r s:Int) {a:Heap} {c:Value->Heap->Prop} (v:Zbsn t d e f h g i j k l n m o q p r s a fun w u=>∀b,Shut a u b->c w b):FnW wP Zbbs ⟨[(vP (some ⟨t,0,none⟩)),(vA ⟨[(vI wI d),(vI wI e),(vS f h g),(vI vU i),(vI wI j),(vI wI k),(vS l n m),(vS o q p),(vI wI r),(vI wI s)]⟩)]⟩ a c:=Zj Tryz.func61 ⟨[],[],[],[]⟩ (by kernel_rfl) (by kernel_rfl) v
def Zbuf (h:Nat) (g:Int) (b:Heap) (f:Value->Heap->Prop):Prop:=
 FnW wP Zfg ⟨[(vI wI g)]⟩ b fun i c=>
 ∃a,i=Value.string a∧
 NewW c (Obj.cells ⟨[(Value.string a)]⟩ Zm) fun j d=>
 FnW wP Zbi ⟨[(vP (some ⟨h,0,none⟩)),(vS (some ⟨j,0,none⟩) 1 1)]⟩ d fun k e=>
 k=vT ⟨[]⟩∧
 f (vT ⟨[]⟩) e
theorem Zcmb (e:Nat) (d:Int) {a:Heap} {c:Value->Heap->Prop} (g:Zbuf e d a fun h f=>∀b,Shut a f b->c h b):FnW wP Zhl ⟨[(vP (some ⟨e,0,none⟩)),(vI wI d)]⟩ a c:=Zj Tryz.func62 ⟨[],[],[],[]⟩ (by kernel_rfl) (by kernel_rfl) g
def Zbuv (C:Nat) (D:Option Addr) (f H:Nat) (e:Int) (c:Heap) (B:(Int×Unit)->Heap->Prop) (A:Value->Heap->Prop):Prop:=
 IfB (decide (e<(f:Int)))
 (NilP D fun F=>
 InB e f fun E=>
 elemAt F E 5 fun b=>
 ∃g,c.cell b=some (vI wI g)∧∃h j i,c.cell ⟨b.block,b.off+1,none⟩=some (vS h j i)∧∃k,c.cell ⟨b.block,b.off+2,none⟩=some (vI vU k)∧∃l,c.cell ⟨b.block,b.off+3,none⟩=some (vI wI l)∧∃m,c.cell ⟨b.block,b.off+4,none⟩=some (vI wI m)∧NewW c (Obj.cells ⟨[(vI wI 0),(vS none 0 0),(vI vU 0),(vI wI 0),(vI wI 0)]⟩ Zba) fun a x=>
 Za x ⟨a,0,none⟩ (vI wI g) fun y=>
 Za y ⟨a,1,none⟩ (vS h j i) fun z=>
 Za z ⟨a,2,none⟩ (vI vU k) fun u=>
 Za u ⟨a,3,none⟩ (vI wI l) fun v=>
 Za v ⟨a,4,none⟩ (vI wI m) fun d=>
 ∃n,d.cell ⟨a,0,none⟩=some (vI wI n)∧∃o q p,d.cell ⟨a,1,none⟩=some (vS o q p)∧∃r,d.cell ⟨a,2,none⟩=some (vI vU r)∧∃s,d.cell ⟨a,3,none⟩=some (vI wI s)∧∃t,d.cell ⟨a,4,none⟩=some (vI wI t)∧FnW wP Zqy ⟨[(vP (some ⟨C,0,none⟩)),(vA ⟨[(vI wI n),(vS o q p),(vI vU r),(vI wI s),(vI wI t)]⟩),(vI wI 2)]⟩ d fun G w=>
 G=vT ⟨[]⟩∧
 B ((vW wI (e+1)),()) w)
 (A (vT ⟨[]⟩) c)
def Zbuw (c:Nat) (C:Int) (D:Option Addr) (F E:Nat) (G H I h:Int) (f:Heap) (d:Value->Heap->Prop):Prop:=
 NewW f (Obj.cells ⟨[(vI wI C),(vS D F E),(vI vU G),(vI wI H),(vI wI I)]⟩ Zba) fun b a=>
 ∃e,a.cell ⟨b,0,none⟩=some (vI wI e)∧
 IfB (e==1)
 (∃p r q,a.cell ⟨b,1,none⟩=some (vS p r q)∧
 FnW wP Zus ⟨[(vP (some ⟨c,0,none⟩)),(vS p r q),(Value.string (ByteArray.mk #[97,110,100])),(vI wI h),(vI wI 2)]⟩ a fun M z=>
 M=vT ⟨[]⟩∧
 d (vT ⟨[]⟩) z)
 (IfB (e==2)
 (∃s u t,a.cell ⟨b,1,none⟩=some (vS s u t)∧
 FnW wP Zus ⟨[(vP (some ⟨c,0,none⟩)),(vS s u t),(Value.string (ByteArray.mk #[111,114])),(vI wI h),(vI wI 1)]⟩ a fun N A=>
 N=vT ⟨[]⟩∧
 d (vT ⟨[]⟩) A)
 (IfB (e==3)
 (NewW a (Obj.cells ⟨[(Value.string (ByteArray.mk #[110,111,116]))]⟩ Zm) fun O B=>
 FnW wP Zbi ⟨[(vP (some ⟨c,0,none⟩)),(vS (some ⟨O,0,none⟩) 1 1)]⟩ B fun P g=>
 P=vT ⟨[]⟩∧
 ∃v x w,g.cell ⟨b,1,none⟩=some (vS v x w)∧
 Zbw (Int×Unit) (0,()) g fun K f J=>∀Q:Env,Zbuv c v x w K.1 f J d)
 (∃i,a.cell ⟨b,0,none⟩=some (vI wI i)∧∃j l k,a.cell ⟨b,1,none⟩=some (vS j l k)∧∃m,a.cell ⟨b,2,none⟩=some (vI vU m)∧∃n,a.cell ⟨b,3,none⟩=some (vI wI n)∧∃o,a.cell ⟨b,4,none⟩=some (vI wI o)∧FnW wP Zbbu ⟨[(vP (some ⟨c,0,none⟩)),(vA ⟨[(vI wI i),(vS j l k),(vI vU m),(vI wI n),(vI wI o)]⟩)]⟩ a fun L y=>
 L=vT ⟨[]⟩∧
 d (vT ⟨[]⟩) y)))
theorem Zcml (l:Nat) (d:Int) (e:Option Addr) (g f:Nat) (h i j k:Int) {a:Heap} {c:Value->Heap->Prop} (n:Zbuw l d e g f h i j k a fun o m=>∀b,Shut a m b->c o b):FnW wP Zqy ⟨[(vP (some ⟨l,0,none⟩)),(vA ⟨[(vI wI d),(vS e g f),(vI vU h),(vI wI i),(vI wI j)]⟩),(vI wI k)]⟩ a c:=Zj Tryz.func99 ⟨[],[(10,[35],[.int wI],[0,33,34])],[],[]⟩ (by kernel_rfl) (by kernel_rfl) n
def Zbvx (j:Nat) (a:Int) (d:Heap) (i:Value->Heap->Prop):Prop:=
 (65536:Int)≠0∧
 FnW wP Zfg ⟨[(vI wI (vW wI (Int.tdiv a 65536)))]⟩ d fun o e=>
 ∃c,o=Value.string c∧
 CatK c (ByteArray.mk #[58]) fun p=>
 (65536:Int)≠0∧
 FnW wP Zfg ⟨[(vI wI (Int.tmod a 65536))]⟩ e fun k f=>
 ∃b,k=Value.string b∧
 CatK p b fun l=>
 NewW f (Obj.cells ⟨[(Value.string l)]⟩ Zm) fun m g=>
 FnW wP Zbi ⟨[(vP (some ⟨j,0,none⟩)),(vS (some ⟨m,0,none⟩) 1 1)]⟩ g fun n h=>
 n=vT ⟨[]⟩∧
 i (vT ⟨[]⟩) h
theorem Zcni (e:Nat) (d:Int) {a:Heap} {c:Value->Heap->Prop} (g:Zbvx e d a fun h f=>∀b,Shut a f b->c h b):FnW wP Zuz ⟨[(vP (some ⟨e,0,none⟩)),(vI wI d)]⟩ a c:=Zj Tryz.func100 ⟨[],[],[],[]⟩ (by kernel_rfl) (by kernel_rfl) g
def Zzc (m:Nat) (q:ByteArray) (k:Int) (b:Nat) (r:Option Addr) (t s:Nat) (n:Int) (l:(Int×Unit)->Heap->Prop) (a:Heap) (p:Value->Heap->Prop):Prop:=
 ∃c,a.cell ⟨b,0,none⟩=some (vI wI c)∧∃d f e,a.cell ⟨b,1,none⟩=some (vS d f e)∧∃g,a.cell ⟨b,2,none⟩=some (vI vU g)∧∃h,a.cell ⟨b,3,none⟩=some (vI wI h)∧∃i,a.cell ⟨b,4,none⟩=some (vI wI i)∧FnW wP Zqy ⟨[(vP (some ⟨m,0,none⟩)),(vA ⟨[(vI wI c),(vS d f e),(vI vU g),(vI wI h),(vI wI i)]⟩),(vI wI k)]⟩ a fun o j=>
 o=vT ⟨[]⟩∧
 l ((vW wI (n+1)),()) j
def Zbub (i:Nat) (g:ByteArray) (k:Int) (h:Option Addr) (e l:Nat) (d:Int) (b:Heap) (m:(Int×Unit)->Heap->Prop) (f:Value->Heap->Prop):Prop:=
 IfB (decide (d<(e:Int)))
 (NilP h fun C=>
 InB d e fun B=>
 elemAt C B 5 fun a=>
 ∃n,b.cell a=some (vI wI n)∧∃o q p,b.cell ⟨a.block,a.off+1,none⟩=some (vS o q p)∧∃r,b.cell ⟨a.block,a.off+2,none⟩=some (vI vU r)∧∃s,b.cell ⟨a.block,a.off+3,none⟩=some (vI wI s)∧∃t,b.cell ⟨a.block,a.off+4,none⟩=some (vI wI t)∧NewW b (Obj.cells ⟨[(vI wI 0),(vS none 0 0),(vI vU 0),(vI wI 0),(vI wI 0)]⟩ Zba) fun c x=>
 Za x ⟨c,0,none⟩ (vI wI n) fun y=>
 Za y ⟨c,1,none⟩ (vS o q p) fun z=>
 Za z ⟨c,2,none⟩ (vI vU r) fun A=>
 Za A ⟨c,3,none⟩ (vI wI s) fun u=>
 Za u ⟨c,4,none⟩ (vI wI t) fun j=>
 IfB (decide (d>0))
 (NewW j (Obj.cells ⟨[(Value.string g)]⟩ Zm) fun D v=>
 FnW wP Zbi ⟨[(vP (some ⟨i,0,none⟩)),(vS (some ⟨D,0,none⟩) 1 1)]⟩ v fun E w=>
 E=vT ⟨[]⟩∧
 Zzc i g k c h e l d m w f)
 (Zzc i g k c h e l d m j f))
 (f (vT ⟨[]⟩) b)
def Zzb (j:Nat) (f:Option Addr) (h g:Nat) (d:ByteArray) (e:Int) (b:Heap) (c:Value->Heap->Prop):Prop:=
 Zbw (Int×Unit) (0,()) b fun k a i=>∀l:Env,Zbub j d e f h g k.1 a i c
def Zbgw (f e:Nat) (a:Heap) (d:Value->Heap->Prop):Prop:=
 ∃b,a.cell ⟨e,4,none⟩=some (vI wI b)∧
 FnW wP Zhl ⟨[(vP (some ⟨f,0,none⟩)),(vI wI b)]⟩ a fun g c=>
 g=vT ⟨[]⟩∧
 d (vT ⟨[]⟩) c
def Zte (i h:Nat) (j:Bool) (b:Heap) (c:Value->Heap->Prop):Prop:=
 IfB j
 (NewW b (Obj.cells ⟨[(Value.string (ByteArray.mk #[105,110,110,101,114])),(Value.string (ByteArray.mk #[111,117,116,101,114])),(Value.string (ByteArray.mk #[117,110,107,110,111,119,110]))]⟩ Zm) fun k a=>
 ∃d,a.cell ⟨h,4,none⟩=some (vI wI d)∧
 InB d 3 fun l=>
 ∃e,a.cell ⟨k,0+l*1,none⟩=some (Value.string e)∧
 NewW a (Obj.cells ⟨[(Value.string e)]⟩ Zm) fun m f=>
 FnW wP Zbi ⟨[(vP (some ⟨i,0,none⟩)),(vS (some ⟨m,0,none⟩) 1 1)]⟩ f fun n g=>
 n=vT ⟨[]⟩∧
 c (vT ⟨[]⟩) g)
 (c (vT ⟨[]⟩) b)
def Zbss (a b:Nat) (f:Int) (d:Heap) (c:Value->Heap->Prop):Prop:=
 IfB (f==10)
 (NewW d (Obj.cells ⟨[(Value.string (ByteArray.mk #[99,111,109,109,117,110,105,116,121]))]⟩ Zm) fun t m=>
 FnW wP Zbi ⟨[(vP (some ⟨a,0,none⟩)),(vS (some ⟨t,0,none⟩) 1 1)]⟩ m fun u g=>
 u=vT ⟨[]⟩∧
 ∃i,g.cell ⟨b,4,none⟩=some (vI wI i)∧
 FnW wP Zuz ⟨[(vP (some ⟨a,0,none⟩)),(vI wI i)]⟩ g fun v n=>
 v=vT ⟨[]⟩∧
 c (vT ⟨[]⟩) n)
 (IfB (f==11)
 (NewW d (Obj.cells ⟨[(Value.string (ByteArray.mk #[111,114,105,103,105,110]))]⟩ Zm) fun w o=>
 FnW wP Zbi ⟨[(vP (some ⟨a,0,none⟩)),(vS (some ⟨w,0,none⟩) 1 1)]⟩ o fun x e=>
 x=vT ⟨[]⟩∧
 ∃j,e.cell ⟨b,4,none⟩=some (vI wI j)∧
 IfB (decide (j≥0))
 (∃k,e.cell ⟨b,4,none⟩=some (vI wI k)∧
 Zte a b (decide (k <= 2)) e c)
 (Zte a b false e c))
 (IfB (f==12)
 (NewW d (Obj.cells ⟨[(Value.string (ByteArray.mk #[109,101,100])),(Value.string (ByteArray.mk #[97,98,111,118,101]))]⟩ Zm) fun z p=>
 FnW wP Zbi ⟨[(vP (some ⟨a,0,none⟩)),(vS (some ⟨z,0,none⟩) 2 2)]⟩ p fun A h=>
 A=vT ⟨[]⟩∧
 ∃l,h.cell ⟨b,4,none⟩=some (vI wI l)∧
 FnW wP Zhl ⟨[(vP (some ⟨a,0,none⟩)),(vI wI l)]⟩ h fun B q=>
 B=vT ⟨[]⟩∧
 c (vT ⟨[]⟩) q)
 (NewW d (Obj.cells ⟨[(Value.string (ByteArray.mk #[63]))]⟩ Zm) fun y r=>
 FnW wP Zbi ⟨[(vP (some ⟨a,0,none⟩)),(vS (some ⟨y,0,none⟩) 1 1)]⟩ r fun C s=>
 C=vT ⟨[]⟩∧
 c (vT ⟨[]⟩) s)))
def Zpi (c b:Nat) (o:Int) (j:Bool) (d:Heap) (e:Value->Heap->Prop):Prop:=
 IfB j
 (NewW d (Obj.cells ⟨[(Value.string (ByteArray.mk #[104,97,115])),(Value.string (ByteArray.mk #[102,114,111,109])),(Value.string (ByteArray.mk #[111,114,105,103,105,110])),(Value.string (ByteArray.mk #[108,111,110,103,101,114]))]⟩ Zm) fun k a=>
 ∃f,a.cell ⟨b,0,none⟩=some (vI wI f)∧
 InB (vW wI (f - 6)) 4 fun l=>
 ∃g,a.cell ⟨k,0+l*1,none⟩=some (Value.string g)∧
 NewW a (Obj.cells ⟨[(Value.string (ByteArray.mk #[112,97,116,104])),(Value.string g)]⟩ Zm) fun m h=>
 FnW wP Zbi ⟨[(vP (some ⟨c,0,none⟩)),(vS (some ⟨m,0,none⟩) 2 2)]⟩ h fun n i=>
 n=vT ⟨[]⟩∧
 Zbgw c b i e)
 (Zbss c b o d e)
def Zbst (d:Nat) (u:Int) (v:Option Addr) (x w:Nat) (y z A:Int) (n:Heap) (e:Value->Heap->Prop):Prop:=
 NewW n (Obj.cells ⟨[(vI wI u),(vS v x w),(vI vU y),(vI wI z),(vI wI A)]⟩ Zba) fun c b=>
 ∃a,b.cell ⟨c,0,none⟩=some (vI wI a)∧
 IfB (a==4)
 (∃g,b.cell ⟨c,2,none⟩=some (vI vU g)∧∃h,b.cell ⟨c,3,none⟩=some (vI wI h)∧FnW wP Zqs ⟨[(vA ⟨[(vI vU g),(vI wI h)]⟩)]⟩ b fun B o=>
 ∃i,B=Value.string i∧
 NewW o (Obj.cells ⟨[(Value.string (ByteArray.mk #[112,114,101,102,105,120])),(Value.string (ByteArray.mk #[105,110])),(Value.string i),(Value.string (ByteArray.mk #[108,101]))]⟩ Zm) fun C p=>
 FnW wP Zbi ⟨[(vP (some ⟨d,0,none⟩)),(vS (some ⟨C,0,none⟩) 4 4)]⟩ p fun D f=>
 D=vT ⟨[]⟩∧
 ∃j,f.cell ⟨c,4,none⟩=some (vI wI j)∧
 FnW wP Zhl ⟨[(vP (some ⟨d,0,none⟩)),(vI wI j)]⟩ f fun E q=>
 E=vT ⟨[]⟩∧
 e (vT ⟨[]⟩) q)
 (IfB (a==5)
 (∃k,b.cell ⟨c,2,none⟩=some (vI vU k)∧∃l,b.cell ⟨c,3,none⟩=some (vI wI l)∧FnW wP Zqs ⟨[(vA ⟨[(vI vU k),(vI wI l)]⟩)]⟩ b fun F r=>
 ∃m,F=Value.string m∧
 NewW r (Obj.cells ⟨[(Value.string (ByteArray.mk #[112,114,101,102,105,120])),(Value.string (ByteArray.mk #[105,115])),(Value.string m)]⟩ Zm) fun G s=>
 FnW wP Zbi ⟨[(vP (some ⟨d,0,none⟩)),(vS (some ⟨G,0,none⟩) 3 3)]⟩ s fun H t=>
 H=vT ⟨[]⟩∧
 e (vT ⟨[]⟩) t)
 (IfB (a==6)
 (Zpi d c a (a==6) b e)
 (IfB (a==7)
 (Zpi d c a (a==7) b e)
 (IfB (a==8)
 (Zpi d c a (a==8) b e)
 (Zpi d c a (a==9) b e)))))
theorem Zcld (k:Nat) (d:Int) (e:Option Addr) (g f:Nat) (h i j:Int) {a:Heap} {c:Value->Heap->Prop} (m:Zbst k d e g f h i j a fun n l=>∀b,Shut a l b->c n b):FnW wP Zbbu ⟨[(vP (some ⟨k,0,none⟩)),(vA ⟨[(vI wI d),(vS e g f),(vI vU h),(vI wI i),(vI wI j)]⟩)]⟩ a c:=Zj Tryz.func133 ⟨[],[],[],[]⟩ (by kernel_rfl) (by kernel_rfl) m
end Go.Proofs.YtlkdgfolbllngaaGreatDoor
end
section
set_option maxRecDepth 100000
namespace Go.Proofs.YtlkdgfolbllngaaGreatDoor
open Go.Sh
open Value renaming int -> vI, slice -> vS, pointer -> vP, bool -> vB, tuple -> vT, agg -> vA, func -> vF
open IntKind renaming wrap -> vW, i64 -> wI, u32 -> vU
open Go.Proofs.Tryz renaming prog -> wP
def Zbvb (G H I J K:Int) (L:Option Addr) (N M:Nat) (O:Option Addr) (Q P:Nat) (R S T U V:Int) (W:Option Addr) (Y X:Nat) (Z:Option Addr) (a1 a0:Nat) (D:Heap) (b:Value->Heap->Prop):Prop:=
 NewW D (Obj.cells ⟨[(vI vU G),(vI vU H),(vI wI I),(vI wI J),(vI wI K),(vS L N M),(vS O Q P)]⟩ Zcc) fun c E=>
 NewW E (Obj.cells ⟨[(vI vU R),(vI vU S),(vI wI T),(vI wI U),(vI wI V),(vS W Y X),(vS Z a1 a0)]⟩ Zcc) fun d a=>
 ∃B,a.cell ⟨c,0,none⟩=some (vI vU B)∧
 ∃C,a.cell ⟨d,0,none⟩=some (vI vU C)∧
 IfB (B==C)
 (∃f,a.cell ⟨c,1,none⟩=some (vI vU f)∧
 ∃g,a.cell ⟨d,1,none⟩=some (vI vU g)∧
 IfB (f==g)
 (∃h,a.cell ⟨c,2,none⟩=some (vI wI h)∧
 ∃i,a.cell ⟨d,2,none⟩=some (vI wI i)∧
 IfB (h==i)
 (∃j,a.cell ⟨c,3,none⟩=some (vI wI j)∧
 ∃k,a.cell ⟨d,3,none⟩=some (vI wI k)∧
 IfB (j==k)
 (∃l,a.cell ⟨c,4,none⟩=some (vI wI l)∧
 ∃m,a.cell ⟨d,4,none⟩=some (vI wI m)∧
 IfB (l==m)
 (∃n p o,a.cell ⟨c,5,none⟩=some (vS n p o)∧
 ∃q s r,a.cell ⟨d,5,none⟩=some (vS q s r)∧
 FnW wP Zbcc ⟨[(vS n p o),(vS q s r),(vF (.func 67) #[] #[])]⟩ a fun a2 e=>
 ∃t,a2=vB t∧
 IfB t
 (∃u w v,e.cell ⟨c,6,none⟩=some (vS u w v)∧
 ∃x z y,e.cell ⟨d,6,none⟩=some (vS x z y)∧
 FnW wP Zbcd ⟨[(vS u w v),(vS x z y)]⟩ e fun a3 F=>
 ∃A,a3=vB A∧
 b (vB A) F)
 (b (vB false) e))
 (b (vB false) a))
 (b (vB false) a))
 (b (vB false) a))
 (b (vB false) a))
 (b (vB false) a)
theorem Zcmq (d e f g h:Int) (i:Option Addr) (k j:Nat) (l:Option Addr) (n m:Nat) (o p q r s:Int) (t:Option Addr) (v u:Nat) (w:Option Addr) (y x:Nat) {a:Heap} {c:Value->Heap->Prop} (A:Zbvb d e f g h i k j l n m o p q r s t v u w y x a fun B z=>∀b,Shut a z b->c B b):FnW wP Zuy ⟨[(vA ⟨[(vI vU d),(vI vU e),(vI wI f),(vI wI g),(vI wI h),(vS i k j),(vS l n m)]⟩),(vA ⟨[(vI vU o),(vI vU p),(vI wI q),(vI wI r),(vI wI s),(vS t v u),(vS w y x)]⟩)]⟩ a c:=Zj Tryz.func27 ⟨[],[],[],[]⟩ (by kernel_rfl) (by kernel_rfl) A
def Zbvg (J:Option Addr) (K R:Nat) (G:FuncId) (I:Option Addr) (k Q:Nat) (e:Int) (b:Heap) (H:(Int×Unit)->Heap->Prop) (j:Value->Heap->Prop):Prop:=
 IfB (decide (e<(k:Int)))
 (NilP I fun M=>
 InB e k fun L=>
 elemAt M L 2 fun g=>
 ∃l,b.cell g=some (Value.string l)∧∃m o n,b.cell ⟨g.block,g.off+1,none⟩=some (vS m o n)∧NewW b (Obj.cells ⟨[(Value.string (ByteArray.mk #[])),(vS none 0 0)]⟩ Zdx) fun c C=>
 Za C ⟨c,0,none⟩ (Value.string l) fun D=>
 Za D ⟨c,1,none⟩ (vS m o n) fun f=>
 NilP J fun O=>
 InB e K fun N=>
 elemAt O N 2 fun h=>
 ∃p,f.cell h=some (Value.string p)∧∃q s r,f.cell ⟨h.block,h.off+1,none⟩=some (vS q s r)∧NewW f (Obj.cells ⟨[(Value.string (ByteArray.mk #[])),(vS none 0 0)]⟩ Zdx) fun d E=>
 Za E ⟨d,0,none⟩ (Value.string p) fun F=>
 Za F ⟨d,1,none⟩ (vS q s r) fun a=>
 ∃t,a.cell ⟨c,0,none⟩=some (Value.string t)∧∃u w v,a.cell ⟨c,1,none⟩=some (vS u w v)∧∃x,a.cell ⟨d,0,none⟩=some (Value.string x)∧∃y A z,a.cell ⟨d,1,none⟩=some (vS y A z)∧FnW wP G ⟨[(vA ⟨[(Value.string t),(vS u w v)]⟩),(vA ⟨[(Value.string x),(vS y A z)]⟩)]⟩ a fun P i=>
 ∃B,P=vB B∧
 IfB (!B)
 (j (vB false) i)
 (H ((vW wI (e+1)),()) i))
 (j (vB true) b)
def Zbvh (g:Option Addr) (c h:Nat) (i:Option Addr) (d j:Nat) (e:FuncId) (a:Heap) (b:Value->Heap->Prop):Prop:=
 IfB (((c:Int):Int) !=(d:Int))
 (b (vB false) a)
 (Zbw (Int×Unit) (0,()) a fun k a f=>∀l:Env,Zbvg i d j e g c h k.1 a f b)
theorem Zcmv (e:Option Addr) (g f:Nat) (h:Option Addr) (j i:Nat) (d:FuncId) {a:Heap} {c:Value->Heap->Prop} (l:Zbvh e g f h j i d a fun m k=>∀b,Shut a k b->c m b):FnW wP Zbcc ⟨[(vS e g f),(vS h j i),(vF (.func d) #[] #[])]⟩ a c:=Zj Tryz.func66 ⟨[],[(4,[17],[.int wI],[1,2,15,16])],[],[]⟩ (by kernel_rfl) (by kernel_rfl) l
def Zbwg (q:ByteArray) (r:Option Addr) (t s:Nat) (u:ByteArray) (v:Option Addr) (x w:Nat) (n:Heap) (b:Value->Heap->Prop):Prop:=
 NewW n (Obj.cells ⟨[(Value.string q),(vS r t s)]⟩ Zdx) fun c o=>
 NewW o (Obj.cells ⟨[(Value.string u),(vS v x w)]⟩ Zdx) fun d a=>
 ∃l,a.cell ⟨c,0,none⟩=some (Value.string l)∧
 ∃m,a.cell ⟨d,0,none⟩=some (Value.string m)∧
 IfB (l.toList==m.toList)
 (∃e g f,a.cell ⟨c,1,none⟩=some (vS e g f)∧
 ∃h j i,a.cell ⟨d,1,none⟩=some (vS h j i)∧
 FnW wP Zqz ⟨[(vS e g f),(vS h j i),(vF (.func 104) #[] #[])]⟩ a fun y p=>
 ∃k,y=vB k∧
 b (vB k) p)
 (b (vB false) a)
theorem Zcnr (d:ByteArray) (e:Option Addr) (g f:Nat) (h:ByteArray) (i:Option Addr) (k j:Nat) {a:Heap} {c:Value->Heap->Prop} (m:Zbwg d e g f h i k j a fun n l=>∀b,Shut a l b->c n b):FnW wP Zbki ⟨[(vA ⟨[(Value.string d),(vS e g f)]⟩),(vA ⟨[(Value.string h),(vS i k j)]⟩)]⟩ a c:=Zj Tryz.func67 ⟨[],[],[],[]⟩ (by kernel_rfl) (by kernel_rfl) m
def Zbvi (v:Option Addr) (f C:Nat) (w:Option Addr) (x D:Nat) (d:Int) (a:Heap) (u:(Int×Unit)->Heap->Prop) (e:Value->Heap->Prop):Prop:=
 IfB (decide (d<(f:Int)))
 (NilP v fun z=>
 InB d f fun y=>
 elemAt z y 7 fun b=>
 ∃g,a.cell b=some (Value.string g)∧∃h,a.cell ⟨b.block,b.off+1,none⟩=some (vI vU h)∧∃i,a.cell ⟨b.block,b.off+2,none⟩=some (vI vU i)∧∃j,a.cell ⟨b.block,b.off+3,none⟩=some (vB j)∧∃k,a.cell ⟨b.block,b.off+4,none⟩=some (vI wI k)∧∃l,a.cell ⟨b.block,b.off+5,none⟩=some (Value.string l)∧∃m,a.cell ⟨b.block,b.off+6,none⟩=some (Value.string m)∧NilP w fun B=>
 InB d x fun A=>
 elemAt B A 7 fun c=>
 ∃n,a.cell c=some (Value.string n)∧∃o,a.cell ⟨c.block,c.off+1,none⟩=some (vI vU o)∧∃p,a.cell ⟨c.block,c.off+2,none⟩=some (vI vU p)∧∃q,a.cell ⟨c.block,c.off+3,none⟩=some (vB q)∧∃r,a.cell ⟨c.block,c.off+4,none⟩=some (vI wI r)∧∃s,a.cell ⟨c.block,c.off+5,none⟩=some (Value.string s)∧∃t,a.cell ⟨c.block,c.off+6,none⟩=some (Value.string t)∧Program.eqGuardType wP (Program.depth wP) Zbh=false∧
 IfB (!((g==n)&&((h==o)&&((i==p)&&((j==q)&&((k==r)&&((l==s)&&((m==t)&&true))))))))
 (e (vB false) a)
 (u ((vW wI (d+1)),()) a))
 (e (vB true) a)
def Zbvj (f:Option Addr) (c g:Nat) (h:Option Addr) (d i:Nat) (a:Heap) (b:Value->Heap->Prop):Prop:=
 IfB (((c:Int):Int) !=(d:Int))
 (b (vB false) a)
 (Zbw (Int×Unit) (0,()) a fun j a e=>∀k:Env,Zbvi f c g h d i j.1 a e b)
theorem Zcmw (d:Option Addr) (f e:Nat) (g:Option Addr) (i h:Nat) {a:Heap} {c:Value->Heap->Prop} (k:Zbvj d f e g i h a fun l j=>∀b,Shut a j b->c l b):FnW wP Zbcd ⟨[(vS d f e),(vS g i h)]⟩ a c:=Zj Tryz.func68 ⟨[],[(4,[13],[.int wI],[0,1,12])],[],[]⟩ (by kernel_rfl) (by kernel_rfl) k
def Zbux (e7:Option Addr) (e8 f5:Nat) (e4:FuncId) (e6:Option Addr) (k f4:Nat) (h:Int) (f:Heap) (e5:(Int×Unit)->Heap->Prop) (j:Value->Heap->Prop):Prop:=
 IfB (decide (h<(k:Int)))
 (NilP e6 fun f0=>
 InB h k fun e9=>
 elemAt f0 e9 10 fun d=>
 ∃l,f.cell d=some (vI wI l)∧∃m,f.cell ⟨d.block,d.off+1,none⟩=some (vI wI m)∧∃n p o,f.cell ⟨d.block,d.off+2,none⟩=some (vS n p o)∧∃q,f.cell ⟨d.block,d.off+3,none⟩=some (vI vU q)∧∃r,f.cell ⟨d.block,d.off+4,none⟩=some (vI wI r)∧∃s,f.cell ⟨d.block,d.off+5,none⟩=some (vI wI s)∧∃t v u,f.cell ⟨d.block,d.off+6,none⟩=some (vS t v u)∧∃w y x,f.cell ⟨d.block,d.off+7,none⟩=some (vS w y x)∧∃z,f.cell ⟨d.block,d.off+8,none⟩=some (vI wI z)∧∃A,f.cell ⟨d.block,d.off+9,none⟩=some (vI wI A)∧NewW f (Obj.cells ⟨[(vI wI 0),(vI wI 0),(vS none 0 0),(vI vU 0),(vI wI 0),(vI wI 0),(vS none 0 0),(vS none 0 0),(vI wI 0),(vI wI 0)]⟩ Zbf) fun b d3=>
 Za d3 ⟨b,0,none⟩ (vI wI l) fun d7=>
 Za d7 ⟨b,1,none⟩ (vI wI m) fun d8=>
 Za d8 ⟨b,2,none⟩ (vS n p o) fun d9=>
 Za d9 ⟨b,3,none⟩ (vI vU q) fun e0=>
 Za e0 ⟨b,4,none⟩ (vI wI r) fun e1=>
 Za e1 ⟨b,5,none⟩ (vI wI s) fun e2=>
 Za e2 ⟨b,6,none⟩ (vS t v u) fun e3=>
 Za e3 ⟨b,7,none⟩ (vS w y x) fun c4=>
 Za c4 ⟨b,8,none⟩ (vI wI z) fun c5=>
 Za c5 ⟨b,9,none⟩ (vI wI A) fun g=>
 NilP e7 fun f2=>
 InB h e8 fun f1=>
 elemAt f2 f1 10 fun e=>
 ∃B,g.cell e=some (vI wI B)∧∃C,g.cell ⟨e.block,e.off+1,none⟩=some (vI wI C)∧∃D F E,g.cell ⟨e.block,e.off+2,none⟩=some (vS D F E)∧∃G,g.cell ⟨e.block,e.off+3,none⟩=some (vI vU G)∧∃H,g.cell ⟨e.block,e.off+4,none⟩=some (vI wI H)∧∃I,g.cell ⟨e.block,e.off+5,none⟩=some (vI wI I)∧∃J L K,g.cell ⟨e.block,e.off+6,none⟩=some (vS J L K)∧∃M O N,g.cell ⟨e.block,e.off+7,none⟩=some (vS M O N)∧∃P,g.cell ⟨e.block,e.off+8,none⟩=some (vI wI P)∧∃Q,g.cell ⟨e.block,e.off+9,none⟩=some (vI wI Q)∧NewW g (Obj.cells ⟨[(vI wI 0),(vI wI 0),(vS none 0 0),(vI vU 0),(vI wI 0),(vI wI 0),(vS none 0 0),(vS none 0 0),(vI wI 0),(vI wI 0)]⟩ Zbf) fun c c6=>
 Za c6 ⟨c,0,none⟩ (vI wI B) fun c7=>
 Za c7 ⟨c,1,none⟩ (vI wI C) fun c8=>
 Za c8 ⟨c,2,none⟩ (vS D F E) fun c9=>
 Za c9 ⟨c,3,none⟩ (vI vU G) fun d0=>
 Za d0 ⟨c,4,none⟩ (vI wI H) fun d1=>
 Za d1 ⟨c,5,none⟩ (vI wI I) fun d2=>
 Za d2 ⟨c,6,none⟩ (vS J L K) fun d4=>
 Za d4 ⟨c,7,none⟩ (vS M O N) fun d5=>
 Za d5 ⟨c,8,none⟩ (vI wI P) fun d6=>
 Za d6 ⟨c,9,none⟩ (vI wI Q) fun a=>
 ∃R,a.cell ⟨b,0,none⟩=some (vI wI R)∧∃S,a.cell ⟨b,1,none⟩=some (vI wI S)∧∃T V U,a.cell ⟨b,2,none⟩=some (vS T V U)∧∃W,a.cell ⟨b,3,none⟩=some (vI vU W)∧∃X,a.cell ⟨b,4,none⟩=some (vI wI X)∧∃Y,a.cell ⟨b,5,none⟩=some (vI wI Y)∧∃Z a1 a0,a.cell ⟨b,6,none⟩=some (vS Z a1 a0)∧∃a2 a4 a3,a.cell ⟨b,7,none⟩=some (vS a2 a4 a3)∧∃a5,a.cell ⟨b,8,none⟩=some (vI wI a5)∧∃a6,a.cell ⟨b,9,none⟩=some (vI wI a6)∧∃a7,a.cell ⟨c,0,none⟩=some (vI wI a7)∧∃a8,a.cell ⟨c,1,none⟩=some (vI wI a8)∧∃a9 b1 b0,a.cell ⟨c,2,none⟩=some (vS a9 b1 b0)∧∃b2,a.cell ⟨c,3,none⟩=some (vI vU b2)∧∃b3,a.cell ⟨c,4,none⟩=some (vI wI b3)∧∃b4,a.cell ⟨c,5,none⟩=some (vI wI b4)∧∃b5 b7 b6,a.cell ⟨c,6,none⟩=some (vS b5 b7 b6)∧∃b8 c0 b9,a.cell ⟨c,7,none⟩=some (vS b8 c0 b9)∧∃c1,a.cell ⟨c,8,none⟩=some (vI wI c1)∧∃c2,a.cell ⟨c,9,none⟩=some (vI wI c2)∧FnW wP e4 ⟨[(vA ⟨[(vI wI R),(vI wI S),(vS T V U),(vI vU W),(vI wI X),(vI wI Y),(vS Z a1 a0),(vS a2 a4 a3),(vI wI a5),(vI wI a6)]⟩),(vA ⟨[(vI wI a7),(vI wI a8),(vS a9 b1 b0),(vI vU b2),(vI wI b3),(vI wI b4),(vS b5 b7 b6),(vS b8 c0 b9),(vI wI c1),(vI wI c2)]⟩)]⟩ a fun f3 i=>
 ∃c3,f3=vB c3∧
 IfB (!c3)
 (j (vB false) i)
 (e5 ((vW wI (h+1)),()) i))
 (j (vB true) f)
def Zbuy (g:Option Addr) (c h:Nat) (i:Option Addr) (d j:Nat) (e:FuncId) (a:Heap) (b:Value->Heap->Prop):Prop:=
 IfB (((c:Int):Int) !=(d:Int))
 (b (vB false) a)
 (Zbw (Int×Unit) (0,()) a fun k a f=>∀l:Env,Zbux i d j e g c h k.1 a f b)
theorem Zcmm (e:Option Addr) (g f:Nat) (h:Option Addr) (j i:Nat) (d:FuncId) {a:Heap} {c:Value->Heap->Prop} (l:Zbuy e g f h j i d a fun m k=>∀b,Shut a k b->c m b):FnW wP Zqz ⟨[(vS e g f),(vS h j i),(vF (.func d) #[] #[])]⟩ a c:=Zj Tryz.func103 ⟨[],[(4,[17],[.int wI],[1,2,15,16])],[],[]⟩ (by kernel_rfl) (by kernel_rfl) l
def Zbvy (S T:Int) (U:Option Addr) (W V:Nat) (X Y Z:Int) (a0:Option Addr) (a2 a1:Nat) (a3:Option Addr) (a5 a4:Nat) (a6 a7 a8 a9:Int) (b0:Option Addr) (b2 b1:Nat) (b3 b4 b5:Int) (b6:Option Addr) (b8 b7:Nat) (b9:Option Addr) (c1 c0:Nat) (c2 c3:Int) (P:Heap) (d:Value->Heap->Prop):Prop:=
 NewW P (Obj.cells ⟨[(vI wI S),(vI wI T),(vS U W V),(vI vU X),(vI wI Y),(vI wI Z),(vS a0 a2 a1),(vS a3 a5 a4),(vI wI a6),(vI wI a7)]⟩ Zbf) fun b Q=>
 NewW Q (Obj.cells ⟨[(vI wI a8),(vI wI a9),(vS b0 b2 b1),(vI vU b3),(vI wI b4),(vI wI b5),(vS b6 b8 b7),(vS b9 c1 c0),(vI wI c2),(vI wI c3)]⟩ Zbf) fun c a=>
 ∃N,a.cell ⟨b,0,none⟩=some (vI wI N)∧
 ∃O,a.cell ⟨c,0,none⟩=some (vI wI O)∧
 IfB (N==O)
 (∃g,a.cell ⟨b,8,none⟩=some (vI wI g)∧
 ∃h,a.cell ⟨c,8,none⟩=some (vI wI h)∧
 IfB (g==h)
 (∃i,a.cell ⟨b,9,none⟩=some (vI wI i)∧
 ∃j,a.cell ⟨c,9,none⟩=some (vI wI j)∧
 IfB (i==j)
 (∃k,a.cell ⟨b,1,none⟩=some (vI wI k)∧∃l n m,a.cell ⟨b,2,none⟩=some (vS l n m)∧∃o,a.cell ⟨b,3,none⟩=some (vI vU o)∧∃p,a.cell ⟨b,4,none⟩=some (vI wI p)∧∃q,a.cell ⟨b,5,none⟩=some (vI wI q)∧∃r,a.cell ⟨c,1,none⟩=some (vI wI r)∧∃s u t,a.cell ⟨c,2,none⟩=some (vS s u t)∧∃v,a.cell ⟨c,3,none⟩=some (vI vU v)∧∃w,a.cell ⟨c,4,none⟩=some (vI wI w)∧∃x,a.cell ⟨c,5,none⟩=some (vI wI x)∧FnW wP Zrd ⟨[(vA ⟨[(vI wI k),(vS l n m),(vI vU o),(vI wI p),(vI wI q)]⟩),(vA ⟨[(vI wI r),(vS s u t),(vI vU v),(vI wI w),(vI wI x)]⟩)]⟩ a fun c4 e=>
 ∃y,c4=vB y∧
 IfB y
 (∃z B A,e.cell ⟨b,6,none⟩=some (vS z B A)∧
 ∃C E D,e.cell ⟨c,6,none⟩=some (vS C E D)∧
 FnW wP Zqz ⟨[(vS z B A),(vS C E D),(vF (.func 104) #[] #[])]⟩ e fun c5 f=>
 ∃F,c5=vB F∧
 IfB F
 (∃G I H,f.cell ⟨b,7,none⟩=some (vS G I H)∧
 ∃J L K,f.cell ⟨c,7,none⟩=some (vS J L K)∧
 FnW wP Zqz ⟨[(vS G I H),(vS J L K),(vF (.func 104) #[] #[])]⟩ f fun c6 R=>
 ∃M,c6=vB M∧
 d (vB M) R)
 (d (vB false) f))
 (d (vB false) e))
 (d (vB false) a))
 (d (vB false) a))
 (d (vB false) a)
theorem Zcnj (d e:Int) (f:Option Addr) (h g:Nat) (i j k:Int) (l:Option Addr) (n m:Nat) (o:Option Addr) (q p:Nat) (r s t u:Int) (v:Option Addr) (x w:Nat) (y z A:Int) (B:Option Addr) (D C:Nat) (E:Option Addr) (G F:Nat) (H I:Int) {a:Heap} {c:Value->Heap->Prop} (K:Zbvy d e f h g i j k l n m o q p r s t u v x w y z A B D C E G F H I a fun L J=>∀b,Shut a J b->c L b):FnW wP Zva ⟨[(vA ⟨[(vI wI d),(vI wI e),(vS f h g),(vI vU i),(vI wI j),(vI wI k),(vS l n m),(vS o q p),(vI wI r),(vI wI s)]⟩),(vA ⟨[(vI wI t),(vI wI u),(vS v x w),(vI vU y),(vI wI z),(vI wI A),(vS B D C),(vS E G F),(vI wI H),(vI wI I)]⟩)]⟩ a c:=Zj Tryz.func104 ⟨[],[],[],[]⟩ (by kernel_rfl) (by kernel_rfl) K
def Zbvt (w:Int) (x:Option Addr) (z y:Nat) (A B C D:Int) (E:Option Addr) (G F:Nat) (H I J:Int) (t:Heap) (d:Value->Heap->Prop):Prop:=
 NewW t (Obj.cells ⟨[(vI wI w),(vS x z y),(vI vU A),(vI wI B),(vI wI C)]⟩ Zba) fun b u=>
 NewW u (Obj.cells ⟨[(vI wI D),(vS E G F),(vI vU H),(vI wI I),(vI wI J)]⟩ Zba) fun c a=>
 ∃r,a.cell ⟨b,0,none⟩=some (vI wI r)∧
 ∃s,a.cell ⟨c,0,none⟩=some (vI wI s)∧
 IfB (r==s)
 (∃e,a.cell ⟨b,2,none⟩=some (vI vU e)∧∃f,a.cell ⟨b,3,none⟩=some (vI wI f)∧∃g,a.cell ⟨c,2,none⟩=some (vI vU g)∧∃h,a.cell ⟨c,3,none⟩=some (vI wI h)∧Program.eqGuardType wP (Program.depth wP) Zbhs=false∧
 IfB ((e==g)&&((f==h)&&true))
 (∃i,a.cell ⟨b,4,none⟩=some (vI wI i)∧
 ∃j,a.cell ⟨c,4,none⟩=some (vI wI j)∧
 IfB (i==j)
 (∃k m l,a.cell ⟨b,1,none⟩=some (vS k m l)∧
 ∃n p o,a.cell ⟨c,1,none⟩=some (vS n p o)∧
 FnW wP Zbce ⟨[(vS k m l),(vS n p o),(vF (.func 136) #[] #[])]⟩ a fun K v=>
 ∃q,K=vB q∧
 d (vB q) v)
 (d (vB false) a))
 (d (vB false) a))
 (d (vB false) a)
theorem Zcnd (d:Int) (e:Option Addr) (g f:Nat) (h i j k:Int) (l:Option Addr) (n m:Nat) (o p q:Int) {a:Heap} {c:Value->Heap->Prop} (s:Zbvt d e g f h i j k l n m o p q a fun t r=>∀b,Shut a r b->c t b):FnW wP Zrd ⟨[(vA ⟨[(vI wI d),(vS e g f),(vI vU h),(vI wI i),(vI wI j)]⟩),(vA ⟨[(vI wI k),(vS l n m),(vI vU o),(vI wI p),(vI wI q)]⟩)]⟩ a c:=Zj Tryz.func136 ⟨[],[],[],[]⟩ (by kernel_rfl) (by kernel_rfl) s
def Zbvk (a1:Option Addr) (a2 a9:Nat) (Y:FuncId) (a0:Option Addr) (k a8:Nat) (h:Int) (f:Heap) (Z:(Int×Unit)->Heap->Prop) (j:Value->Heap->Prop):Prop:=
 IfB (decide (h<(k:Int)))
 (NilP a0 fun a4=>
 InB h k fun a3=>
 elemAt a4 a3 5 fun d=>
 ∃l,f.cell d=some (vI wI l)∧∃m o n,f.cell ⟨d.block,d.off+1,none⟩=some (vS m o n)∧∃p,f.cell ⟨d.block,d.off+2,none⟩=some (vI vU p)∧∃q,f.cell ⟨d.block,d.off+3,none⟩=some (vI wI q)∧∃r,f.cell ⟨d.block,d.off+4,none⟩=some (vI wI r)∧NewW f (Obj.cells ⟨[(vI wI 0),(vS none 0 0),(vI vU 0),(vI wI 0),(vI wI 0)]⟩ Zba) fun b R=>
 Za R ⟨b,0,none⟩ (vI wI l) fun S=>
 Za S ⟨b,1,none⟩ (vS m o n) fun T=>
 Za T ⟨b,2,none⟩ (vI vU p) fun U=>
 Za U ⟨b,3,none⟩ (vI wI q) fun V=>
 Za V ⟨b,4,none⟩ (vI wI r) fun g=>
 NilP a1 fun a6=>
 InB h a2 fun a5=>
 elemAt a6 a5 5 fun e=>
 ∃s,g.cell e=some (vI wI s)∧∃t v u,g.cell ⟨e.block,e.off+1,none⟩=some (vS t v u)∧∃w,g.cell ⟨e.block,e.off+2,none⟩=some (vI vU w)∧∃x,g.cell ⟨e.block,e.off+3,none⟩=some (vI wI x)∧∃y,g.cell ⟨e.block,e.off+4,none⟩=some (vI wI y)∧NewW g (Obj.cells ⟨[(vI wI 0),(vS none 0 0),(vI vU 0),(vI wI 0),(vI wI 0)]⟩ Zba) fun c W=>
 Za W ⟨c,0,none⟩ (vI wI s) fun X=>
 Za X ⟨c,1,none⟩ (vS t v u) fun O=>
 Za O ⟨c,2,none⟩ (vI vU w) fun P=>
 Za P ⟨c,3,none⟩ (vI wI x) fun Q=>
 Za Q ⟨c,4,none⟩ (vI wI y) fun a=>
 ∃z,a.cell ⟨b,0,none⟩=some (vI wI z)∧∃A C B,a.cell ⟨b,1,none⟩=some (vS A C B)∧∃D,a.cell ⟨b,2,none⟩=some (vI vU D)∧∃E,a.cell ⟨b,3,none⟩=some (vI wI E)∧∃F,a.cell ⟨b,4,none⟩=some (vI wI F)∧∃G,a.cell ⟨c,0,none⟩=some (vI wI G)∧∃H J I,a.cell ⟨c,1,none⟩=some (vS H J I)∧∃K,a.cell ⟨c,2,none⟩=some (vI vU K)∧∃L,a.cell ⟨c,3,none⟩=some (vI wI L)∧∃M,a.cell ⟨c,4,none⟩=some (vI wI M)∧FnW wP Y ⟨[(vA ⟨[(vI wI z),(vS A C B),(vI vU D),(vI wI E),(vI wI F)]⟩),(vA ⟨[(vI wI G),(vS H J I),(vI vU K),(vI wI L),(vI wI M)]⟩)]⟩ a fun a7 i=>
 ∃N,a7=vB N∧
 IfB (!N)
 (j (vB false) i)
 (Z ((vW wI (h+1)),()) i))
 (j (vB true) f)
def Zbvl (g:Option Addr) (c h:Nat) (i:Option Addr) (d j:Nat) (e:FuncId) (a:Heap) (b:Value->Heap->Prop):Prop:=
 IfB (((c:Int):Int) !=(d:Int))
 (b (vB false) a)
 (Zbw (Int×Unit) (0,()) a fun k a f=>∀l:Env,Zbvk i d j e g c h k.1 a f b)
theorem Zcmx (e:Option Addr) (g f:Nat) (h:Option Addr) (j i:Nat) (d:FuncId) {a:Heap} {c:Value->Heap->Prop} (l:Zbvl e g f h j i d a fun m k=>∀b,Shut a k b->c m b):FnW wP Zbce ⟨[(vS e g f),(vS h j i),(vF (.func d) #[] #[])]⟩ a c:=Zj Tryz.func160 ⟨[],[(4,[17],[.int wI],[1,2,15,16])],[],[]⟩ (by kernel_rfl) (by kernel_rfl) l
end Go.Proofs.YtlkdgfolbllngaaGreatDoor
end
section
set_option maxRecDepth 100000
namespace Go.Proofs.YtlkdgfolbllngaaGreatDoor
open Go.Sh
open Value renaming int -> vI, slice -> vS, pointer -> vP, bool -> vB, tuple -> vT, agg -> vA, func -> vF
open IntKind renaming wrap -> vW, i64 -> wI, u32 -> vU
open Go.Proofs.Tryz renaming prog -> wP
def Zth (b:Nat) (b1:Bool) (d:Heap) (e:Value->Heap->Prop):Prop:=
 IfB b1
 (e (vB true) d)
 (∃h,d.cell ⟨b,0,none⟩=some (vI vU h)∧∃i,d.cell ⟨b,1,none⟩=some (vI vU i)∧∃j,d.cell ⟨b,2,none⟩=some (vI wI j)∧∃k,d.cell ⟨b,3,none⟩=some (vI wI k)∧∃l,d.cell ⟨b,4,none⟩=some (vI wI l)∧∃m o n,d.cell ⟨b,5,none⟩=some (vS m o n)∧∃p r q,d.cell ⟨b,6,none⟩=some (vS p r q)∧FnW wP Zbbw ⟨[(vA ⟨[(vI vU h),(vI vU i),(vI wI j),(vI wI k),(vI wI l),(vS m o n),(vS p r q)]⟩)]⟩ d fun b2 a2=>
 ∃f,∃s:Int,b2=(vT ⟨[(Value.string f),(vI wI s)]⟩)∧
 FnW wP Zlj ⟨[(Value.string f)]⟩ a2 fun b4 a3=>
 ∃t,∃u:Int,∃v:Int,∃w:Int,∃x:Int,∃(y:Option Addr) (A z:Nat),∃(B:Option Addr) (D C:Nat),∃b3:Int,∃E:Int,b4=(vT ⟨[(vA ⟨[(vI vU t),(vI vU u),(vI wI v),(vI wI w),(vI wI x),(vS y A z),(vS B D C)]⟩),(vI wI b3),(vI wI E)]⟩)∧
 NewW a3 (Obj.cells ⟨[(vI vU 0),(vI vU 0),(vI wI 0),(vI wI 0),(vI wI 0),(vS none 0 0),(vS none 0 0)]⟩ Zcc) fun c a4=>
 Za a4 ⟨c,0,none⟩ (vI vU t) fun a5=>
 Za a5 ⟨c,1,none⟩ (vI vU u) fun a6=>
 Za a6 ⟨c,2,none⟩ (vI wI v) fun a7=>
 Za a7 ⟨c,3,none⟩ (vI wI w) fun a8=>
 Za a8 ⟨c,4,none⟩ (vI wI x) fun a9=>
 Za a9 ⟨c,5,none⟩ (vS y A z) fun b0=>
 Za b0 ⟨c,6,none⟩ (vS B D C) fun a=>
 IfB (s==0)
 (IfB (E==0)
 (∃F,a.cell ⟨b,0,none⟩=some (vI vU F)∧∃G,a.cell ⟨b,1,none⟩=some (vI vU G)∧∃H,a.cell ⟨b,2,none⟩=some (vI wI H)∧∃I,a.cell ⟨b,3,none⟩=some (vI wI I)∧∃J,a.cell ⟨b,4,none⟩=some (vI wI J)∧∃K M L,a.cell ⟨b,5,none⟩=some (vS K M L)∧∃N P O,a.cell ⟨b,6,none⟩=some (vS N P O)∧∃Q,a.cell ⟨c,0,none⟩=some (vI vU Q)∧∃R,a.cell ⟨c,1,none⟩=some (vI vU R)∧∃S,a.cell ⟨c,2,none⟩=some (vI wI S)∧∃T,a.cell ⟨c,3,none⟩=some (vI wI T)∧∃U,a.cell ⟨c,4,none⟩=some (vI wI U)∧∃V X W,a.cell ⟨c,5,none⟩=some (vS V X W)∧∃Y a0 Z,a.cell ⟨c,6,none⟩=some (vS Y a0 Z)∧FnW wP Zbbv ⟨[(vA ⟨[(vI vU F),(vI vU G),(vI wI H),(vI wI I),(vI wI J),(vS K M L),(vS N P O)]⟩),(vA ⟨[(vI vU Q),(vI vU R),(vI wI S),(vI wI T),(vI wI U),(vS V X W),(vS Y a0 Z)]⟩)]⟩ a fun b5 g=>
 ∃a1,b5=vB a1∧
 IfB a1
 (e (vB (decide (((f.size:Int):Int)>0))) g)
 (e (vB false) g))
 (e (vB false) a))
 (e (vB false) a))
def Zbto (P:ByteArray) (E:Heap) (c:Value->Heap->Prop):Prop:=
 FnW wP Zbcj ⟨[]⟩ E fun Q d=>
 ∃e,Q=vB e∧
 IfB (!e)
 (c (vB false) d)
 (FnW wP Zbci ⟨[(Value.string P)]⟩ d fun R G=>
 ∃f,R=Value.string f∧
 FnW wP Zlj ⟨[(Value.string f)]⟩ G fun T I=>
 ∃g,∃h:Int,∃i:Int,∃j:Int,∃k:Int,∃(l:Option Addr) (n m:Nat),∃(o:Option Addr) (q p:Nat),∃S:Int,∃r:Int,T=(vT ⟨[(vA ⟨[(vI vU g),(vI vU h),(vI wI i),(vI wI j),(vI wI k),(vS l n m),(vS o q p)]⟩),(vI wI S),(vI wI r)]⟩)∧
 NewW I (Obj.cells ⟨[(vI vU 0),(vI vU 0),(vI wI 0),(vI wI 0),(vI wI 0),(vS none 0 0),(vS none 0 0)]⟩ Zcc) fun a J=>
 Za J ⟨a,0,none⟩ (vI vU g) fun K=>
 Za K ⟨a,1,none⟩ (vI vU h) fun L=>
 Za L ⟨a,2,none⟩ (vI wI i) fun M=>
 Za M ⟨a,3,none⟩ (vI wI j) fun N=>
 Za N ⟨a,4,none⟩ (vI wI k) fun O=>
 Za O ⟨a,5,none⟩ (vS l n m) fun F=>
 Za F ⟨a,6,none⟩ (vS o q p) fun b=>
 IfB (r !=0)
 (Zth a true b c)
 (∃s,b.cell ⟨a,0,none⟩=some (vI vU s)∧∃t,b.cell ⟨a,1,none⟩=some (vI vU t)∧∃u,b.cell ⟨a,2,none⟩=some (vI wI u)∧∃v,b.cell ⟨a,3,none⟩=some (vI wI v)∧∃w,b.cell ⟨a,4,none⟩=some (vI wI w)∧∃x z y,b.cell ⟨a,5,none⟩=some (vS x z y)∧∃A C B,b.cell ⟨a,6,none⟩=some (vS A C B)∧FnW wP Zll ⟨[(vA ⟨[(vI vU s),(vI vU t),(vI wI u),(vI wI v),(vI wI w),(vS x z y),(vS A C B)]⟩)]⟩ b fun U H=>
 ∃D,U=vI wI D∧
 Zth a (D !=0) H c))
theorem Zclr (d:ByteArray) {a:Heap} {c:Value->Heap->Prop} (f:Zbto d a fun g e=>∀b,Shut a e b->c g b):FnW wP Zbby ⟨[(Value.string d)]⟩ a c:=Zj Tryz.func5 ⟨[],[],[],[]⟩ (by kernel_rfl) (by kernel_rfl) f
end Go.Proofs.YtlkdgfolbllngaaGreatDoor
end
