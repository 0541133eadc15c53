/-
  SOME FUNCTIONS IN PLAIN LOGIC:printed by a program of ours over this translation.
-/
import Derived.Test.YtaljkjokbdpdoaaGreatBA
import Derived.Test.YtaljkjokbdpdoaaGreatRows
import Derived.Test.YtaljkjokbdpdoaaGreatEB
set_option linter.all false
section
set_option maxRecDepth 100000
namespace Go.Proofs.YtaljkjokbdpdoaaGreat
open Go.Sh
open Value renaming int -> vI, slice -> vS, pointer -> vP, bool -> vB, tuple -> vT, agg -> vA, func -> vF
open IntKind renaming wrap -> vW, i64 -> wI, u32 -> vU, u8 -> wU
open Go.Proofs.Tryz renaming prog -> wP
open Option renaming map -> vM
def Ztk (z B:Int) (A:Nat) (w:Option Addr) (y x:Nat) (g:Heap) (v:Value->Heap->Prop):Prop:=
 ∃h j i,g.cell ⟨A,8,none⟩=some (vS h j i)∧
 AppW wP #[Zd,Zd] Zd [(vS w y x),(vS h j i)] g fun C p=>
 ∃b a d,C=vS b a d∧
 FnW wP Zqc ⟨[(vI vU z),(vI vU B),(vI wU 6),(vI wI (a:Int))]⟩ p fun D q=>
 ∃k,D=vI vU k∧
 FnW wP Zlx ⟨[(vI vU k),(vS b a d)]⟩ q fun E r=>
 ∃l,E=vI vU l∧
 FnW wP Zwi ⟨[(vI vU l)]⟩ r fun F s=>
 ∃m,F=vI .u16 m∧
 FnW wP Zdn ⟨[(vI wI (vW wI m))]⟩ s fun H c=>
 ∃e f G,H=vS e f G∧
 NilP e fun K=>
 InB 0 f fun I=>
 elemAt K I 1 fun J=>
 ∃n,c.cell J=some (vI wU n)∧
 NilP e fun N=>
 InB 1 f fun L=>
 elemAt N L 1 fun M=>
 ∃o,c.cell M=some (vI wU o)∧
 NilP b fun Q=>
 InB 16 a fun O=>
 elemAt Q O 1 fun P=>
 Za c P (vI wU n) fun t=>
 NilP b fun T=>
 InB 17 a fun R=>
 elemAt T R 1 fun S=>
 Za t S (vI wU o) fun u=>
 v (vT ⟨[(vS b a d),(vI wI 0)]⟩) u
def Zbot (j k:Int) (c:Nat) (g:Option Addr) (i h:Nat) (B:Int) (a:Heap) (f:Value->Heap->Prop):Prop:=
 IfB (decide (B>0))
 (∃d:List Nat,(∀b∈d,∃y,a b=some y)∧
 c∈d∧∃u,a.cell ⟨c,7,none⟩=some (vI wI u)∧
 NewW a (Obj.cells ⟨[(vI wU 2),(vI wU 4)]⟩ Zh) fun C v=>
 AppW wP #[Zd,Zd] Zd [(vS g i h),(vS (some ⟨C,0,none⟩) 2 2)] v fun D e=>
 ∃r t s,D=vS r t s∧
 Zb d a e∧FnW wP Zdn ⟨[(vI wI u)]⟩ e fun z w=>
 ∃l n m,z=vS l n m∧
 AppW wP #[Zd,Zd] Zd [(vS r t s),(vS l n m)] w fun A x=>
 ∃o q p,A=vS o q p∧
 Ztk j k c o q p x f)
 (Ztk j k c g i h a f)
def Zkz (h i:Int) (b:Nat) (e:Option Addr) (g f:Nat) (a:Heap) (d:Value->Heap->Prop):Prop:=
 ∃c,a.cell ⟨b,7,none⟩=some (vI wI c)∧
 Zbot h i b e g f c a d
def Ztj (k l:Int) (d:Nat) (c4:Option Addr) (c6 c5:Nat) (c3:Int) (q:Heap) (j:Value->Heap->Prop):Prop:=
 ∃y,q.cell ⟨d,4,none⟩=some (vI wI y)∧
 NewW q (Obj.cells ⟨[(vI wU (vW wU (vW wI (16*c3)))),(vI wU (vW wU y))]⟩ Zh) fun c7 b2=>
 AppW wP #[Zd,Zd] Zd [(vS c4 c6 c5),(vS (some ⟨c7,0,none⟩) 2 2)] b2 fun c8 a=>
 ∃e g f,c8=vS e g f∧
 ∃c:List Nat,(∀b∈c,∃c2,a b=some c2)∧
 d∈c∧∃h,a.cell ⟨d,6,none⟩=some (vI wI h)∧
 ∃m,a.cell ⟨d,5,none⟩=some (vI wI m)∧
 (NewW a (Obj.cells ⟨[(vI wU 0),(vI wU 0)]⟩ Zh) fun d4 b3=>
 FnW wP Zdn ⟨[(vI wI m)]⟩ b3 fun c9 r=>
 ∃z B A,c9=vS z B A∧
 Zb c a r∧AppW wP #[Zd,Zd] Zd [(vS e g f),(vS z B A)] r fun d1 s=>
 ∃C I F,d1=vS C I F∧
 Zb c a s∧AppW wP #[Zd,Zd] Zd [(vS C I F),(vS (some ⟨d4,0,none⟩) 2 2)] s fun d7 t=>
 ∃L R O,d7=vS L R O∧
 Zb c a t∧FnW wP Zdn ⟨[(vI wI h)]⟩ t fun e0 b4=>
 ∃U a0 X,e0=vS U a0 X∧
 AppW wP #[Zd,Zd] Zd [(vS L R O),(vS U a0 X)] b4 fun e3 b5=>
 ∃a3 a9 a6,e3=vS a3 a9 a6∧
 Zkz k l d a3 a9 a6 b5 j)∧
 (FnW wP Zdn ⟨[(vI wI m)]⟩ a fun d0 i=>
 ∃n p o,d0=vS n p o∧
 Zb c a i∧(NewW i (Obj.cells ⟨[(vI wU 0),(vI wU 0)]⟩ Zh) fun d5 b6=>
 AppW wP #[Zd,Zd] Zd [(vS e g f),(vS n p o)] b6 fun d2 u=>
 ∃D J G,d2=vS D J G∧
 Zb c a u∧AppW wP #[Zd,Zd] Zd [(vS D J G),(vS (some ⟨d5,0,none⟩) 2 2)] u fun d8 v=>
 ∃M S P,d8=vS M S P∧
 Zb c a v∧FnW wP Zdn ⟨[(vI wI h)]⟩ v fun e1 b7=>
 ∃V a1 Y,e1=vS V a1 Y∧
 AppW wP #[Zd,Zd] Zd [(vS M S P),(vS V a1 Y)] b7 fun e4 b8=>
 ∃a4 b0 a7,e4=vS a4 b0 a7∧
 Zkz k l d a4 b0 a7 b8 j)∧
 (AppW wP #[Zd,Zd] Zd [(vS e g f),(vS n p o)] i fun d3 w=>
 ∃E K H,d3=vS E K H∧
 Zb c a w∧NewW w (Obj.cells ⟨[(vI wU 0),(vI wU 0)]⟩ Zh) fun d6 b9=>
 AppW wP #[Zd,Zd] Zd [(vS E K H),(vS (some ⟨d6,0,none⟩) 2 2)] b9 fun d9 x=>
 ∃N T Q,d9=vS N T Q∧
 Zb c a x∧FnW wP Zdn ⟨[(vI wI h)]⟩ x fun e2 c0=>
 ∃W a2 Z,e2=vS W a2 Z∧
 AppW wP #[Zd,Zd] Zd [(vS N T Q),(vS W a2 Z)] c0 fun e5 c1=>
 ∃a5 b1 a8,e5=vS a5 b1 a8∧
 Zkz k l d a5 b1 a8 c1 j))
def Zgp (o p:Int) (a:Nat) (Q:Bool) (c:Heap) (f:Value->Heap->Prop):Prop:=
 IfB Q
 (f (vT ⟨[(vS none 0 0),(vI wI 2)]⟩) c)
 (∃R q S,c.cell ⟨a,8,none⟩=some (vS R q S)∧
 IfB (decide (((q:Int):Int)>65495))
 (f (vT ⟨[(vS none 0 0),(vI wI 3)]⟩) c)
 (∃d:List Nat,(∀b∈d,∃h,c b=some h)∧
 ∃r,c.cell ⟨a,0,none⟩=some (vI wI r)∧
 a∈d∧∃v,c.cell ⟨a,1,none⟩=some (vI wI v)∧
 FnW wP Zdn ⟨[(vI wI r)]⟩ c fun T l=>
 ∃s u t,T=vS s u t∧
 Zb d c l∧FnW wP Zdn ⟨[(vI wI v)]⟩ l fun U O=>
 ∃w y x,U=vS w y x∧
 AppW wP #[Zd,Zd] Zd [(vS s u t),(vS w y x)] O fun V e=>
 ∃z B A,V=vS z B A∧
 ∃d:List Nat,(∀b∈d,∃h,e b=some h)∧
 ∃C,e.cell ⟨a,2,none⟩=some (vI vU C)∧
 a∈d∧∃J,e.cell ⟨a,3,none⟩=some (vI vU J)∧
 FnW wP Zqb ⟨[(vI vU C)]⟩ e fun W m=>
 ∃D F E,W=vS D F E∧
 Zb d e m∧AppW wP #[Zd,Zd] Zd [(vS z B A),(vS D F E)] m fun X n=>
 ∃G I H,X=vS G I H∧
 Zb d e n∧FnW wP Zqb ⟨[(vI vU J)]⟩ n fun Y P=>
 ∃K M L,Y=vS K M L∧
 AppW wP #[Zd,Zd] Zd [(vS G I H),(vS K M L)] P fun Z g=>
 ∃i k j,Z=vS i k j∧
 ∃N,g.cell ⟨a,7,none⟩=some (vI wI N)∧
 IfB (decide (N>0))
 (Ztj o p a i k j 6 g f)
 (Ztj o p a i k j 5 g f)))
def Zbou (d e x y z A B C D E:Int) (F:Option Addr) (H G:Nat) (v:Heap) (c:Value->Heap->Prop):Prop:=
 NewW v (Obj.cells ⟨[(vI wI x),(vI wI y),(vI vU z),(vI vU A),(vI wI B),(vI wI C),(vI wI D),(vI wI E),(vS F H G)]⟩ Zr) fun a i=>
 ∃j,i.cell ⟨a,0,none⟩=some (vI wI j)∧
 FnW wP Zic ⟨[(vI wI j)]⟩ i fun I f=>
 ∃k,I=vB k∧
 IfB (!k)
 (Zgp d e a true f c)
 (∃l,f.cell ⟨a,1,none⟩=some (vI wI l)∧
 FnW wP Zic ⟨[(vI wI l)]⟩ f fun J b=>
 ∃m,J=vB m∧
 IfB (!m)
 (Zgp d e a true b c)
 (∃n,b.cell ⟨a,4,none⟩=some (vI wI n)∧
 IfB (decide (n<0))
 (Zgp d e a true b c)
 (∃o,b.cell ⟨a,4,none⟩=some (vI wI o)∧
 IfB (decide (o>63))
 (Zgp d e a true b c)
 (∃p,b.cell ⟨a,5,none⟩=some (vI wI p)∧
 FnW wP Zic ⟨[(vI wI p)]⟩ b fun K g=>
 ∃q,K=vB q∧
 IfB (!q)
 (Zgp d e a true g c)
 (∃r,g.cell ⟨a,6,none⟩=some (vI wI r)∧
 FnW wP Zic ⟨[(vI wI r)]⟩ g fun L h=>
 ∃s,L=vB s∧
 IfB (!s)
 (Zgp d e a true h c)
 (∃t,h.cell ⟨a,7,none⟩=some (vI wI t)∧
 FnW wP Zic ⟨[(vI wI t)]⟩ h fun M w=>
 ∃u,M=vB u∧
 Zgp d e a (!u) w c))))))
theorem Zcir (d p e f g h i j k l:Int) (m:Option Addr) (o n:Nat) {a:Heap} {c:Value->Heap->Prop} (r:Zbou d p e f g h i j k l m o n a fun s q=>∀b,Shut a q b->c s b):FnW wP Zlw ⟨[(vI vU d),(vI vU p),(vA ⟨[(vI wI e),(vI wI f),(vI vU g),(vI vU h),(vI wI i),(vI wI j),(vI wI k),(vI wI l),(vS m o n)]⟩)]⟩ a c:=Zc Tryz.func11 ⟨[(5,[0,1,3,4,2,5,6,7],[57]),(6,[0,1,2,5,6,3,4,7,8,9],[66]),(11,[0,1,2,7,8,5,3,4,6,9,10,11],[89]),(13,[0,3,4,1,2,5,6,7],[99])],[],[],[(11,⟨5,[7,8],[0,1,2,3,4],[6],[9,10,11],[3,4]⟩)]⟩ (by kernel_rfl) (by kernel_rfl) r
def Znh (w x b:Nat) (c:Int) (a:Heap) (t:Value->Heap->Prop):Prop:=
 ∃m,a.cell ⟨w,x,none⟩=some (vI vU m)∧
 ∃n,a.cell ⟨b,0,none⟩=some (vI wI n)∧
 ∃o,a.cell ⟨b,1,none⟩=some (vI wI o)∧
 ∃p,a.cell ⟨b,2,none⟩=some (vI vU p)∧
 ∃q,a.cell ⟨b,3,none⟩=some (vI vU q)∧
 ∃r,a.cell ⟨b,4,none⟩=some (vI wI r)∧
 ∃d,a.cell ⟨b,5,none⟩=some (vI wI d)∧
 ∃e,a.cell ⟨b,6,none⟩=some (vI wI e)∧
 ∃f,a.cell ⟨b,7,none⟩=some (vI wI f)∧
 ∃g i h,a.cell ⟨b,8,none⟩=some (vS g i h)∧
 FnW wP Zlw ⟨[(vI vU c),(vI vU m),(vA ⟨[(vI wI n),(vI wI o),(vI vU p),(vI vU q),(vI wI r),(vI wI d),(vI wI e),(vI wI f),(vS g i h)]⟩)]⟩ a fun v s=>
 ∃j l k,∃u:Int,v=(vT ⟨[(vS j l k),(vI wI u)]⟩)∧
 t (vT ⟨[(vI vU c),(vS j l k)]⟩) s
def Ztc (B C d:Nat) (D:Int) (e:Nat) (E:Bool) (f:Heap) (m:Value->Heap->Prop):Prop:=
 IfB E
 (∃a:List Nat,(∀b∈a,∃h,f b=some h)∧
 d∈a∧∃n,f.cell ⟨d,2,none⟩=some (vI vU n)∧
 ∃o,f.cell ⟨e,2,none⟩=some (vP o)∧
 FnW wP Zji ⟨[(vP o)]⟩ f fun F j=>
 ∃p,F=vI vU p∧
 Zb a f j∧Za j ⟨d,2,none⟩ (vI vU (vW vU (n+p))) fun g=>
 ∃q,g.cell ⟨d,3,none⟩=some (vI vU q)∧
 ∃r,g.cell ⟨e,2,none⟩=some (vP r)∧
 NilP r fun s=>
 ∃t,g.cell ⟨s.block,s.off+4,none⟩=some (vP t)∧
 NilP t fun G=>
 ∃u,g.cell G=some (vI vU u)∧
 Za g ⟨d,3,none⟩ (vI vU (vW vU (q+u))) fun c=>
 ∃a:List Nat,(∀b∈a,∃h,c b=some h)∧
 ∃v,c.cell ⟨e,2,none⟩=some (vP v)∧
 NilP v fun w=>
 ∃x,c.cell ⟨w.block,w.off+2,none⟩=some (vI wI x)∧
 e∈a∧∃y,c.cell ⟨e,2,none⟩=some (vP y)∧
 NilP y fun i=>
 i.block∈a∧∃z,c.cell ⟨i.block,i.off+1,none⟩=some (vI wI z)∧
 e∈a∧∃A,c.cell ⟨e,1,none⟩=some (vI vU A)∧
 Za c ⟨d,0,none⟩ (vI wI x) fun k=>
 Zb a c k∧Za k ⟨d,1,none⟩ (vI wI z) fun l=>
 Zb a c l∧Znh B C d A l m)
 (Znh B C d D f m)
def Zbog (g h:Nat) (a2 a3 b3 b4 b5:Int) (b6:Option Addr) (b8 b7:Nat) (b9 c0 c1 c2 a4 a5 a6 a7:Int) (a8:Option Addr) (b0 a9:Nat) (b1 b2:Bool) (N:Heap) (j:Value->Heap->Prop):Prop:=
 NewW N (Obj.cells ⟨[(vI wI a2),(vI wI a3),(vI wI b3),(vI wI b4),(vI vU b5),(vS b6 b8 b7),(vI wI b9),(vI wI c0),(vI vU c1),(vI vU c2),(vI wI a4),(vI wI a5),(vI wI a6),(vI wI a7),(vS a8 b0 a9),(vB b1),(vB b2)]⟩ Ziz) fun c a=>
 ∃p,a.cell ⟨c,15,none⟩=some (vB p)∧
 IfB (!p)
 (∃q,a.cell ⟨c,4,none⟩=some (vI vU q)∧
 ∃r c4 l,a.cell ⟨c,5,none⟩=some (vS r c4 l)∧
 ∃c5 s c6,a.cell ⟨c,5,none⟩=some (vS c5 s c6)∧
 InC (min (s:Int) 100) l fun c7=>
 j (vT ⟨[(vI vU q),(vS r c7 l)]⟩) a)
 (∃k:List Nat,(∀b∈k,∃c3,a b=some c3)∧
 ∃t,a.cell ⟨c,6,none⟩=some (vI wI t)∧∃u,a.cell ⟨c,7,none⟩=some (vI wI u)∧∃v,a.cell ⟨c,8,none⟩=some (vI vU v)∧∃w,a.cell ⟨c,9,none⟩=some (vI vU w)∧∃x,a.cell ⟨c,10,none⟩=some (vI wI x)∧∃y,a.cell ⟨c,11,none⟩=some (vI wI y)∧∃z,a.cell ⟨c,12,none⟩=some (vI wI z)∧∃A,a.cell ⟨c,13,none⟩=some (vI wI A)∧∃B D C,a.cell ⟨c,14,none⟩=some (vS B D C)∧c∈k∧∃m,a.cell ⟨c,4,none⟩=some (vI vU m)∧
 NewW a (Obj.cells ⟨[(vI wI 0),(vI wI 0),(vI vU 0),(vI vU 0),(vI wI 0),(vI wI 0),(vI wI 0),(vI wI 0),(vS none 0 0)]⟩ Zm) fun d U=>
 Za U ⟨d,0,none⟩ (vI wI t) fun V=>
 Za V ⟨d,1,none⟩ (vI wI u) fun W=>
 Za W ⟨d,2,none⟩ (vI vU v) fun X=>
 Za X ⟨d,3,none⟩ (vI vU w) fun Y=>
 Za Y ⟨d,4,none⟩ (vI wI x) fun Z=>
 Za Z ⟨d,5,none⟩ (vI wI y) fun a0=>
 Za a0 ⟨d,6,none⟩ (vI wI z) fun a1=>
 Za a1 ⟨d,7,none⟩ (vI wI A) fun O=>
 Za O ⟨d,8,none⟩ (vS B D C) fun f=>
 Zb k a f∧∃E c8 n,f.cell ⟨d,8,none⟩=some (vS E c8 n)∧
 ∃c9 F d0,f.cell ⟨d,8,none⟩=some (vS c9 F d0)∧
 InC (min (F:Int) 60) n fun d1=>
 Za f ⟨d,8,none⟩ (vS E d1 n) fun o=>
 ∃G,o.cell ⟨c,3,none⟩=some (vI wI G)∧
 FnW wP Zyd ⟨[(vP (some ⟨g,h,none⟩)),(vI wI G)]⟩ o fun d2 P=>
 ∃H,d2=vI wI H∧
 FnW wP Zwe ⟨[(vP (some ⟨g,h,none⟩)),(vI wI H)]⟩ P fun d3 Q=>
 ∃I,∃J:Int,∃K:Option Addr,∃L:Bool,d3=(vT ⟨[(vA ⟨[(vI wI I),(vI vU J),(vP K)]⟩),(vB L)]⟩)∧
 NewW Q (Obj.cells ⟨[(vI wI 0),(vI vU 0),(vP none)]⟩ Zfx) fun e R=>
 Za R ⟨e,0,none⟩ (vI wI I) fun S=>
 Za S ⟨e,1,none⟩ (vI vU J) fun T=>
 Za T ⟨e,2,none⟩ (vP K) fun i=>
 IfB L
 (∃M,i.cell ⟨c,16,none⟩=some (vB M)∧
 Ztc g h d m e M i j)
 (Ztc g h d m e false i j))
theorem Zcih (y z:Nat) (d e o p q:Int) (r:Option Addr) (t s:Nat) (u v w x f g h i:Int) (j:Option Addr) (l k:Nat) (m n:Bool) {a:Heap} {c:Value->Heap->Prop} (B:Zbog y z d e o p q r t s u v w x f g h i j l k m n a fun C A=>∀b,Shut a A b->c C b):FnW wP Zpp ⟨[(vP (some ⟨y,z,none⟩)),(vA ⟨[(vI wI d),(vI wI e),(vI wI o),(vI wI p),(vI vU q),(vS r t s),(vI wI u),(vI wI v),(vI vU w),(vI vU x),(vI wI f),(vI wI g),(vI wI h),(vI wI i),(vS j l k),(vB m),(vB n)]⟩)]⟩ a c:=Zc Tryz.func13 ⟨[(3,[0,1,2,3,4,5,6],[27]),(7,[0,1,2,3,4,5,6,7],[51]),(9,[0,1,2,3,4,5,6,7,8,9,10,11,12,13,14,15,16],[75,78,80])],[],[],[]⟩ (by kernel_rfl) (by kernel_rfl) B
def Zbca (a3:Nat) (a2:Int) (d:Nat) (c:Heap) (e:Value->Heap->Prop):Prop:=
 ∃f,c.cell ⟨d,0,none⟩=some (vI wI f)∧∃g,c.cell ⟨d,1,none⟩=some (vI wI g)∧∃h,c.cell ⟨d,2,none⟩=some (vI vU h)∧∃i,c.cell ⟨d,3,none⟩=some (vI vU i)∧∃j,c.cell ⟨d,4,none⟩=some (vI wI j)∧∃k,c.cell ⟨d,5,none⟩=some (vI wI k)∧∃l,c.cell ⟨d,6,none⟩=some (vI wI l)∧∃m,c.cell ⟨d,7,none⟩=some (vI wI m)∧∃n p o,c.cell ⟨d,8,none⟩=some (vS n p o)∧FnW wP Zqe ⟨[(vA ⟨[(vI wI f),(vI wI g),(vI vU h),(vI vU i),(vI wI j),(vI wI k),(vI wI l),(vI wI m),(vS n p o)]⟩)]⟩ c fun a4 Q=>
 ∃q,∃r:Int,∃s:Int,∃t:Int,∃u:Int,∃v:Int,∃w:Int,∃x:Int,∃(y:Option Addr) (A z:Nat),∃B:Bool,a4=(vT ⟨[(vA ⟨[(vI wI q),(vI wI r),(vI vU s),(vI vU t),(vI wI u),(vI wI v),(vI wI w),(vI wI x),(vS y A z)]⟩),(vB B)]⟩)∧
 NewW Q (Obj.cells ⟨[(vI wI 0),(vI wI 0),(vI vU 0),(vI vU 0),(vI wI 0),(vI wI 0),(vI wI 0),(vI wI 0),(vS none 0 0)]⟩ Zr) fun a R=>
 Za R ⟨a,0,none⟩ (vI wI q) fun S=>
 Za S ⟨a,1,none⟩ (vI wI r) fun T=>
 Za T ⟨a,2,none⟩ (vI vU s) fun U=>
 Za U ⟨a,3,none⟩ (vI vU t) fun V=>
 Za V ⟨a,4,none⟩ (vI wI u) fun W=>
 Za W ⟨a,5,none⟩ (vI wI v) fun X=>
 Za X ⟨a,6,none⟩ (vI wI w) fun Y=>
 Za Y ⟨a,7,none⟩ (vI wI x) fun Z=>
 Za Z ⟨a,8,none⟩ (vS y A z) fun b=>
 IfB (!B)
 (e (vT ⟨[(vS none 0 0),(vS none 0 0),(vI wI 0)]⟩) b)
 (∃C,b.cell ⟨a,0,none⟩=some (vI wI C)∧∃D,b.cell ⟨a,1,none⟩=some (vI wI D)∧∃E,b.cell ⟨a,2,none⟩=some (vI vU E)∧∃F,b.cell ⟨a,3,none⟩=some (vI vU F)∧∃G,b.cell ⟨a,4,none⟩=some (vI wI G)∧∃H,b.cell ⟨a,5,none⟩=some (vI wI H)∧∃I,b.cell ⟨a,6,none⟩=some (vI wI I)∧∃J,b.cell ⟨a,7,none⟩=some (vI wI J)∧∃K M L,b.cell ⟨a,8,none⟩=some (vS K M L)∧NewW b (Obj.cells ⟨[(vI wI C),(vI wI D),(vI vU E),(vI vU F),(vI wI G),(vI wI H),(vI wI I),(vI wI J),(vS K M L)]⟩ Zr) fun a5 a0=>
 FnW wP Zmg ⟨[(vP (some ⟨a3,0,none⟩)),(vI vU a2),(vS (some ⟨a5,0,none⟩) 1 1)]⟩ a0 fun a6 a1=>
 ∃N P O,a6=vS N P O∧
 e (vT ⟨[(vS N P O),(vS none 0 0),(vI wI 0)]⟩) a1)
def Zfr (d:Nat) (Q i:Int) (c:Nat) (S:Bool) (a:Heap) (h:Value->Heap->Prop):Prop:=
 IfB S
 (∃T k U,a.cell ⟨d,3,none⟩=some (vS T k U)∧
 IfB (decide (((k:Int):Int)≥16))
 (h (vT ⟨[(vS none 0 0),(vS none 0 0),(vI wI 0)]⟩) a)
 (∃e:List Nat,(∀b∈e,∃R,a b=some R)∧
 c∈e∧∃l,a.cell ⟨c,0,none⟩=some (vI wI l)∧∃m,a.cell ⟨c,1,none⟩=some (vI wI m)∧∃n,a.cell ⟨c,2,none⟩=some (vI vU n)∧∃o,a.cell ⟨c,3,none⟩=some (vI vU o)∧∃p,a.cell ⟨c,4,none⟩=some (vI wI p)∧∃q,a.cell ⟨c,5,none⟩=some (vI wI q)∧∃r,a.cell ⟨c,6,none⟩=some (vI wI r)∧∃s,a.cell ⟨c,7,none⟩=some (vI wI s)∧∃t v u,a.cell ⟨c,8,none⟩=some (vS t v u)∧FnW wP Zws ⟨[(vP (some ⟨d,0,none⟩))]⟩ a fun V j=>
 ∃w,V=vI vU w∧
 Zb e a j∧FnW wP Zxr ⟨[(vI wI Q),(vA ⟨[(vI wI l),(vI wI m),(vI vU n),(vI vU o),(vI wI p),(vI wI q),(vI wI r),(vI wI s),(vS t v u)]⟩),(vI vU w)]⟩ j fun X f=>
 ∃x,∃(y:Option Addr) (A z:Nat),∃W:Int,X=(vT ⟨[(vP x),(vS y A z),(vI wI W)]⟩)∧
 Zb e a f∧∃B,f.cell ⟨d,4,none⟩=some (vI wI B)∧
 Za f ⟨d,4,none⟩ (vI wI (vW wI (B+1))) fun g=>
 ∃C E D,g.cell ⟨d,3,none⟩=some (vS C E D)∧
 ∃F,g.cell ⟨d,4,none⟩=some (vI wI F)∧
 NewW g (Obj.cells ⟨[(vI wI F),(vI vU i),(vP x)]⟩ Zfx) fun Y M=>
 AppW wP #[Zfe,Zfe] Zfe [(vS C E D),(vS (some ⟨Y,0,none⟩) 1 1)] M fun Z N=>
 ∃G I H,Z=vS G I H∧
 Za N ⟨d,3,none⟩ (vS G I H) fun O=>
 FnW wP Zmg ⟨[(vP (some ⟨d,0,none⟩)),(vI vU i),(vS y A z)]⟩ O fun a0 P=>
 ∃J L K,a0=vS J L K∧
 h (vT ⟨[(vS J L K),(vS none 0 0),(vI wI 0)]⟩) P))
 (Zbca d i c a h)
def Zbnt (c:Nat) (h g:Int) (e4:Option Addr) (e6 e5:Nat) (p:Heap) (f:Value->Heap->Prop):Prop:=
 ∃z,p.cell ⟨c,5,none⟩=some (vI wI z)∧
 IfB (decide (h<z))
 (f (vT ⟨[(vS none 0 0),(vS none 0 0),(vI wI 2)]⟩) p)
 (Za p ⟨c,5,none⟩ (vI wI h) fun r=>
 ∃A,r.cell ⟨c,0,none⟩=some (vI vU A)∧
 FnW wP Zxz ⟨[(vI vU g),(vI vU A),(vS e4 e6 e5)]⟩ r fun f1 d3=>
 ∃B,∃C:Int,∃D:Int,∃E:Int,∃F:Int,∃G:Int,∃H:Int,∃I:Int,∃(J:Option Addr) (L K:Nat),∃M:Int,f1=(vT ⟨[(vA ⟨[(vI wI B),(vI wI C),(vI vU D),(vI vU E),(vI wI F),(vI wI G),(vI wI H),(vI wI I),(vS J L K)]⟩),(vI wI M)]⟩)∧
 NewW d3 (Obj.cells ⟨[(vI wI 0),(vI wI 0),(vI vU 0),(vI vU 0),(vI wI 0),(vI wI 0),(vI wI 0),(vI wI 0),(vS none 0 0)]⟩ Zr) fun a d7=>
 Za d7 ⟨a,0,none⟩ (vI wI B) fun d8=>
 Za d8 ⟨a,1,none⟩ (vI wI C) fun d9=>
 Za d9 ⟨a,2,none⟩ (vI vU D) fun e0=>
 Za e0 ⟨a,3,none⟩ (vI vU E) fun e1=>
 Za e1 ⟨a,4,none⟩ (vI wI F) fun e2=>
 Za e2 ⟨a,5,none⟩ (vI wI G) fun e3=>
 Za e3 ⟨a,6,none⟩ (vI wI H) fun c6=>
 Za c6 ⟨a,7,none⟩ (vI wI I) fun c7=>
 Za c7 ⟨a,8,none⟩ (vS J L K) fun o=>
 IfB (M !=0)
 (f (vT ⟨[(vS none 0 0),(vS none 0 0),(vI wI 0)]⟩) o)
 (∃N,o.cell ⟨a,0,none⟩=some (vI wI N)∧
 ∃O,o.cell ⟨a,1,none⟩=some (vI wI O)∧
 FnW wP Zxs ⟨[(vP (some ⟨c,0,none⟩)),(vI vU g),(vI wI N),(vI wI O)]⟩ o fun f2 j=>
 ∃q,f2=vI wI q∧
 IfB (decide (q≥0))
 (∃P Q f3,j.cell ⟨c,3,none⟩=some (vS P Q f3)∧
 NilP P fun f5=>
 InB q Q fun f4=>
 elemAt f5 f4 3 fun n=>
 ∃R,j.cell n=some (vI wI R)∧∃S,j.cell ⟨n.block,n.off+1,none⟩=some (vI vU S)∧∃T,j.cell ⟨n.block,n.off+2,none⟩=some (vP T)∧NewW j (Obj.cells ⟨[(vI wI 0),(vI vU 0),(vP none)]⟩ Zfx) fun i c8=>
 Za c8 ⟨i,0,none⟩ (vI wI R) fun c9=>
 Za c9 ⟨i,1,none⟩ (vI vU S) fun d0=>
 Za d0 ⟨i,2,none⟩ (vP T) fun s=>
 ∃U,s.cell ⟨i,2,none⟩=some (vP U)∧
 FnW wP Zpq ⟨[(vP U)]⟩ s fun f6 d1=>
 ∃V,∃W:Int,f6=(vA ⟨[(vI wI V),(vI wI W)]⟩)∧
 NewW d1 (Obj.cells ⟨[(vI wI 0),(vI wI 0)]⟩ Zjb) fun l d2=>
 Za d2 ⟨l,0,none⟩ (vI wI V) fun d4=>
 Za d4 ⟨l,1,none⟩ (vI wI W) fun e=>
 ∃X,e.cell ⟨i,2,none⟩=some (vP X)∧
 ∃Y,e.cell ⟨a,0,none⟩=some (vI wI Y)∧∃Z,e.cell ⟨a,1,none⟩=some (vI wI Z)∧∃a0,e.cell ⟨a,2,none⟩=some (vI vU a0)∧∃a1,e.cell ⟨a,3,none⟩=some (vI vU a1)∧∃a2,e.cell ⟨a,4,none⟩=some (vI wI a2)∧∃a3,e.cell ⟨a,5,none⟩=some (vI wI a3)∧∃a4,e.cell ⟨a,6,none⟩=some (vI wI a4)∧∃a5,e.cell ⟨a,7,none⟩=some (vI wI a5)∧∃a6 a8 a7,e.cell ⟨a,8,none⟩=some (vS a6 a8 a7)∧FnW wP Zxu ⟨[(vP X),(vI wI h),(vA ⟨[(vI wI Y),(vI wI Z),(vI vU a0),(vI vU a1),(vI wI a2),(vI wI a3),(vI wI a4),(vI wI a5),(vS a6 a8 a7)]⟩)]⟩ e fun f8 k=>
 ∃a9 b1 b0,∃f7:Int,f8=(vT ⟨[(vS a9 b1 b0),(vI wI f7)]⟩)∧
 ∃m:List Nat,(∀b∈m,∃e7,k b=some e7)∧
 i∈m∧∃b5,k.cell ⟨i,0,none⟩=some (vI wI b5)∧
 l∈m∧∃b6,k.cell ⟨l,0,none⟩=some (vI wI b6)∧∃b7,k.cell ⟨l,1,none⟩=some (vI wI b7)∧i∈m∧∃b8,k.cell ⟨i,2,none⟩=some (vP b8)∧
 FnW wP Zmg ⟨[(vP (some ⟨c,0,none⟩)),(vI vU g),(vS a9 b1 b0)]⟩ k fun f9 t=>
 ∃b2 b4 b3,f9=vS b2 b4 b3∧
 Zb m k t∧FnW wP Zwb ⟨[(vP (some ⟨c,0,none⟩)),(vI wI b5),(vA ⟨[(vI wI b6),(vI wI b7)]⟩),(vP b8)]⟩ t fun g0 d5=>
 ∃b9 c1 c0,g0=vS b9 c1 c0∧
 f (vT ⟨[(vS b2 b4 b3),(vS b9 c1 c0),(vI wI 0)]⟩) d5)
 (∃c2,j.cell ⟨a,1,none⟩=some (vI wI c2)∧
 FnW wP Zqd ⟨[(vP (some ⟨c,0,none⟩)),(vI wI c2)]⟩ j fun g1 d=>
 ∃c3,g1=vB c3∧
 IfB c3
 (∃c4,d.cell ⟨a,4,none⟩=some (vI wI c4)∧
 (2:Int)≠0∧
 IfB (((Int.tmod c4 2):Int)==0)
 (∃c5,d.cell ⟨a,4,none⟩=some (vI wI c5)∧
 (2:Int)≠0∧
 (2:Int)≠0∧
 IfB (((Int.tmod (vW wI (Int.tdiv c5 2)) 2):Int)==1)
 (∃u,d.cell ⟨a,4,none⟩=some (vI wI u)∧
 (4:Int)≠0∧
 (2:Int)≠0∧
 IfB (((Int.tmod (vW wI (Int.tdiv u 4)) 2):Int)==0)
 (∃v,d.cell ⟨a,4,none⟩=some (vI wI v)∧
 (16:Int)≠0∧
 (2:Int)≠0∧
 IfB (((Int.tmod (vW wI (Int.tdiv v 16)) 2):Int)==0)
 (∃e8 w e9,d.cell ⟨a,8,none⟩=some (vS e8 w e9)∧
 IfB (((w:Int):Int)==0)
 (∃x,d.cell ⟨a,0,none⟩=some (vI wI x)∧
 FnW wP Zqa ⟨[(vI wI x)]⟩ d fun f0 d6=>
 ∃y,f0=vB y∧
 Zfr c h g a y d6 f)
 (Zfr c h g a false d f))
 (Zfr c h g a false d f))
 (Zfr c h g a false d f))
 (Zfr c h g a false d f))
 (Zfr c h g a false d f))
 (Zfr c h g a false d f))))
theorem Zchy (i:Nat) (h g:Int) (d:Option Addr) (f e:Nat) {a:Heap} {c:Value->Heap->Prop} (k:Zbnt i h g d f e a fun l j=>∀b,Shut a j b->c l b):FnW wP Zpo ⟨[(vP (some ⟨i,0,none⟩)),(vI wI h),(vI vU g),(vS d f e)]⟩ a c:=Zc Tryz.func14 ⟨[(12,[0,1,2,4,5,6,7,8,9,3,10,11,12,13],[78,79,81]),(16,[0,1,2,3,4,5,6,7,8,9,10,11],[133])],[],[],[]⟩ (by kernel_rfl) (by kernel_rfl) k
def Zbmm (c:Nat) (d:Int) (o:Heap) (b:Value->Heap->Prop):Prop:=
 FnW wP Zqa ⟨[(vI wI d)]⟩ o fun x e=>
 ∃n,x=vB n∧
 IfB (!n)
 (b (vI wI 2) e)
 (FnW wP Zqd ⟨[(vP (some ⟨c,0,none⟩)),(vI wI d)]⟩ e fun s a=>
 ∃f,s=vB f∧
 IfB f
 (b (vI wI 6) a)
 (∃t g u,a.cell ⟨c,2,none⟩=some (vS t g u)∧
 IfB (decide (((g:Int):Int)≥8))
 (b (vI wI 4) a)
 (∃h j i,a.cell ⟨c,2,none⟩=some (vS h j i)∧
 NewW a (Obj.cells ⟨[(vI wI d)]⟩ Zl) fun v p=>
 AppW wP #[Zbt,Zbt] Zbt [(vS h j i),(vS (some ⟨v,0,none⟩) 1 1)] p fun w q=>
 ∃k m l,w=vS k m l∧
 Za q ⟨c,2,none⟩ (vS k m l) fun r=>
 b (vI wI 0) r)))
theorem Zcgn (e:Nat) (d:Int) {a:Heap} {c:Value->Heap->Prop} (g:Zbmm e d a fun h f=>∀b,Shut a f b->c h b):FnW wP Zwr ⟨[(vP (some ⟨e,0,none⟩)),(vI wI d)]⟩ a c:=Zc Tryz.func25 ⟨[],[],[],[]⟩ (by kernel_rfl) (by kernel_rfl) g
def Zbri (c:Int) (a:Heap) (b:Value->Heap->Prop):Prop:=
 IfB (decide (c≥1))
 (b (vB (decide (c <= 65535))) a)
 (b (vB false) a)
theorem Zckt (d:Int) {a:Heap} {c:Value->Heap->Prop} (f:Zbri d a fun g e=>∀b,Shut a e b->c g b):FnW wP Zqa ⟨[(vI wI d)]⟩ a c:=Zc Tryz.func34 ⟨[],[],[],[]⟩ (by kernel_rfl) (by kernel_rfl) f
def Zbok (g:Nat) (f e h b:Int) (c:(Int×Unit)->Heap->Prop) (a:Heap) (d:Value->Heap->Prop):Prop:=
 c ((vW wI (b+1)),()) a
def Zni (g:Nat) (f d h c:Int) (e:(Int×Unit)->Heap->Prop) (i:Bool) (a:Heap) (b:Value->Heap->Prop):Prop:=
 IfB i
 (b (vI wI c) a)
 (Zbok g f d h c e a b)
def Zbol (c:Nat) (f e g b:Int) (a:Heap) (h:(Int×Unit)->Heap->Prop) (d:Value->Heap->Prop):Prop:=
 ∃z i A,a.cell ⟨c,3,none⟩=some (vS z i A)∧
 IfB (decide (b<(i:Int)))
 (∃j k B,a.cell ⟨c,3,none⟩=some (vS j k B)∧
 NilP j fun D=>
 InB b k fun C=>
 elemAt D C 3 fun l=>
 ∃m,a.cell ⟨l.block,l.off+1,none⟩=some (vI vU m)∧
 IfB (m==f)
 (∃n o E,a.cell ⟨c,3,none⟩=some (vS n o E)∧
 NilP n fun G=>
 InB b o fun F=>
 elemAt G F 3 fun p=>
 ∃q,a.cell ⟨p.block,p.off+2,none⟩=some (vP q)∧
 NilP q fun r=>
 ∃s,a.cell ⟨r.block,r.off+2,none⟩=some (vI wI s)∧
 IfB (s==e)
 (∃t u H,a.cell ⟨c,3,none⟩=some (vS t u H)∧
 NilP t fun J=>
 InB b u fun I=>
 elemAt J I 3 fun v=>
 ∃w,a.cell ⟨v.block,v.off+2,none⟩=some (vP w)∧
 NilP w fun x=>
 ∃y,a.cell ⟨x.block,x.off+1,none⟩=some (vI wI y)∧
 Zni c f e g b h (y==g) a d)
 (Zni c f e g b h false a d))
 (Zni c f e g b h false a d))
 (d (vI wI (-1)) a)
def Zbom (f:Nat) (e c g:Int) (a:Heap) (b:Value->Heap->Prop):Prop:=
 Zbe (Int×Unit) (0,()) a fun h a d=>∀i:Env,Zbol f e c g h.1 a d b
theorem Zcil (f:Nat) (e d g:Int) {a:Heap} {c:Value->Heap->Prop} (i:Zbom f e d g a fun j h=>∀b,Shut a h b->c j b):FnW wP Zxs ⟨[(vP (some ⟨f,0,none⟩)),(vI vU e),(vI wI d),(vI wI g)]⟩ a c:=Zc Tryz.func35 ⟨[],[(2,[9],[.int wI],[0,1,2,3])],[],[]⟩ (by kernel_rfl) (by kernel_rfl) i
def Zbmo (b:Nat) (a:Heap) (g:Value->Heap->Prop):Prop:=
 ∃e,a.cell ⟨b,1,none⟩=some (vI vU e)∧
 ∃c,a.cell ⟨b,4,none⟩=some (vI wI c)∧
 FnW wP Zdm ⟨[(vI vU e),(vI wI (vW wI (64000*(vW wI (c+1)))))]⟩ a fun h f=>
 ∃d,h=vI vU d∧
 g (vI vU d) f
theorem Zcgp (d:Nat) {a:Heap} {c:Value->Heap->Prop} (f:Zbmo d a fun g e=>∀b,Shut a e b->c g b):FnW wP Zws ⟨[(vP (some ⟨d,0,none⟩))]⟩ a c:=Zc Tryz.func37 ⟨[],[],[],[]⟩ (by kernel_rfl) (by kernel_rfl) f
def Zbqw (G:Nat) (h:Int) (E:Option Addr) (d N:Nat) (e:Option Addr) (g f:Nat) (c:Int) (b:Heap) (F:((Option Addr×Nat×Nat)×Int×Unit)->Heap->Prop) (D:Value->Heap->Prop):Prop:=
 IfB (decide (c<(d:Int)))
 (∃i,b.cell ⟨G,0,none⟩=some (vI vU i)∧
 NilP E fun I=>
 InB c d fun H=>
 elemAt I H 9 fun a=>
 ∃j,b.cell a=some (vI wI j)∧∃k,b.cell ⟨a.block,a.off+1,none⟩=some (vI wI k)∧∃l,b.cell ⟨a.block,a.off+2,none⟩=some (vI vU l)∧∃m,b.cell ⟨a.block,a.off+3,none⟩=some (vI vU m)∧∃n,b.cell ⟨a.block,a.off+4,none⟩=some (vI wI n)∧∃o,b.cell ⟨a.block,a.off+5,none⟩=some (vI wI o)∧∃p,b.cell ⟨a.block,a.off+6,none⟩=some (vI wI p)∧∃q,b.cell ⟨a.block,a.off+7,none⟩=some (vI wI q)∧∃r t s,b.cell ⟨a.block,a.off+8,none⟩=some (vS r t s)∧FnW wP Zlw ⟨[(vI vU i),(vI vU h),(vA ⟨[(vI wI j),(vI wI k),(vI vU l),(vI vU m),(vI wI n),(vI wI o),(vI wI p),(vI wI q),(vS r t s)]⟩)]⟩ b fun K A=>
 ∃u w v,∃J:Int,K=(vT ⟨[(vS u w v),(vI wI J)]⟩)∧
 NewW A (Obj.cells ⟨[(vI vU h),(vS u w v)]⟩ Zhu) fun L B=>
 AppW wP #[Zny,Zny] Zny [(vS e g f),(vS (some ⟨L,0,none⟩) 1 1)] B fun M C=>
 ∃x z y,M=vS x z y∧
 F ((x,z,y),((vW wI (c+1)),())) C)
 (D (vS e g f) b)
def Zbqx (i:Nat) (j:Int) (e:Option Addr) (g f:Nat) (b:Heap) (d:Value->Heap->Prop):Prop:=
 NewW b (Obj.cells ⟨[]⟩ Zhu) fun k c=>
 Zbe ((Option Addr×Nat×Nat)×Int×Unit) (((some ⟨k,0,none⟩),0,0),(0,())) c fun a b h=>∀l:Env,Zbqw i j e g f a.1.1 a.1.2.1 a.1.2.2 a.2.1 b h d
theorem Zckj (g:Nat) (h:Int) (d:Option Addr) (f e:Nat) {a:Heap} {c:Value->Heap->Prop} (j:Zbqx g h d f e a fun k i=>∀b,Shut a i b->c k b):FnW wP Zmg ⟨[(vP (some ⟨g,0,none⟩)),(vI vU h),(vS d f e)]⟩ a c:=Zc Tryz.func38 ⟨[],[(3,[7,8],[.slice,.int wI],[0,1,2])],[],[]⟩ (by kernel_rfl) (by kernel_rfl) j
def Zbow (c:Int) (a:Heap) (b:Value->Heap->Prop):Prop:=
 IfB (decide (c≥0))
 (b (vB (decide (c <= 65535))) a)
 (b (vB false) a)
theorem Zcit (d:Int) {a:Heap} {c:Value->Heap->Prop} (f:Zbow d a fun g e=>∀b,Shut a e b->c g b):FnW wP Zic ⟨[(vI wI d)]⟩ a c:=Zc Tryz.func39 ⟨[],[],[],[]⟩ (by kernel_rfl) (by kernel_rfl) f
def Zbnl (a:Int) (b:Heap) (d:Value->Heap->Prop):Prop:=
 (256:Int)≠0∧
 (256:Int)≠0∧
 (256:Int)≠0∧
 NewW b (Obj.cells ⟨[(vI wU (vW wU (Int.tmod (vW wI (Int.tdiv a 256)) 256))),(vI wU (vW wU (Int.tmod a 256)))]⟩ Zh) fun e c=>
 d (vS (some ⟨e,0,none⟩) 2 2) c
theorem Zchp (d:Int) {a:Heap} {c:Value->Heap->Prop} (f:Zbnl d a fun g e=>∀b,Shut a e b->c g b):FnW wP Zdn ⟨[(vI wI d)]⟩ a c:=Zc Tryz.func40 ⟨[],[],[],[]⟩ (by kernel_rfl) (by kernel_rfl) f
def Zbrk (a:Int) (k:Heap) (o:Value->Heap->Prop):Prop:=
 (65536:Int)≠0∧
 FnW wP Zdn ⟨[(vI wI (vW wI (vW vU (Int.tdiv a 65536))))]⟩ k fun r l=>
 ∃h j i,r=vS h j i∧
 (65536:Int)≠0∧
 FnW wP Zdn ⟨[(vI wI (vW wI (Int.tmod a 65536)))]⟩ l fun p m=>
 ∃b d c,p=vS b d c∧
 AppW wP #[Zd,Zd] Zd [(vS h j i),(vS b d c)] m fun q n=>
 ∃e g f,q=vS e g f∧
 o (vS e g f) n
theorem Zcku (d:Int) {a:Heap} {c:Value->Heap->Prop} (f:Zbrk d a fun g e=>∀b,Shut a e b->c g b):FnW wP Zqb ⟨[(vI vU d)]⟩ a c:=Zc Tryz.func41 ⟨[],[],[],[]⟩ (by kernel_rfl) (by kernel_rfl) f
def Zbkw (e:Int) (b:Heap) (d:Value->Heap->Prop):Prop:=
 FnW wP Zmb ⟨[(vI vU e)]⟩ b fun f c=>
 ∃a,f=vI vU a∧
 d (vI .u16 (vW .u16 (vW vU (65535 - a)))) c
theorem Zcel (d:Int) {a:Heap} {c:Value->Heap->Prop} (f:Zbkw d a fun g e=>∀b,Shut a e b->c g b):FnW wP Zwi ⟨[(vI vU d)]⟩ a c:=Zc Tryz.func42 ⟨[],[],[],[]⟩ (by kernel_rfl) (by kernel_rfl) f
def Ztd (j:Option Addr) (l k:Nat) (e d:Int) (f:(Int×Int×Unit)->Heap->Prop) (g:Int) (b:Heap) (i:Value->Heap->Prop):Prop:=
 FnW wP Zmb ⟨[(vI vU (vW vU (e+g)))]⟩ b fun h c=>
 ∃a,h=vI vU a∧
 f (a,((vW wI (d+2)),())) c
def Zboh (d:Option Addr) (a h:Nat) (f b:Int) (c:Heap) (i:(Int×Int×Unit)->Heap->Prop) (e:Value->Heap->Prop):Prop:=
 IfB (decide (b<(a:Int)))
 (NilP d fun m=>
 InB b a fun k=>
 elemAt m k 1 fun l=>
 ∃g,c.cell l=some (vI wU g)∧
 IfB (decide (((vW wI (b+1)):Int)<(a:Int)))
 (NilP d fun p=>
 InB (vW wI (b+1)) a fun n=>
 elemAt p n 1 fun o=>
 ∃j,c.cell o=some (vI wU j)∧
 Ztd d a h f b i (vW vU ((vW vU (256*(vW vU g)))+(vW vU j))) c e)
 (Ztd d a h f b i (vW vU (256*(vW vU g))) c e))
 (e (vI vU f) c)
def Zboi (j:Int) (f:Option Addr) (h g:Nat) (a:Heap) (e:Value->Heap->Prop):Prop:=
 FnW wP Zmb ⟨[(vI vU j)]⟩ a fun k d=>
 ∃c,k=vI vU c∧
 Zbe (Int×Int×Unit) (c,(0,())) d fun b a i=>∀l:Env,Zboh f h g b.1 b.2.1 a i e
theorem Zcii (g:Int) (d:Option Addr) (f e:Nat) {a:Heap} {c:Value->Heap->Prop} (i:Zboi g d f e a fun j h=>∀b,Shut a h b->c j b):FnW wP Zlx ⟨[(vI vU g),(vS d f e)]⟩ a c:=Zc Tryz.func43 ⟨[],[(3,[5,6],[.int vU,.int wI],[1])],[],[]⟩ (by kernel_rfl) (by kernel_rfl) i
def Zbrm (a b i c:Int) (e:Heap) (h:Value->Heap->Prop):Prop:=
 (65536:Int)≠0∧
 (16777216:Int)≠0∧
 (65536:Int)≠0∧
 (256:Int)≠0∧
 (256:Int)≠0∧
 (256:Int)≠0∧
 (256:Int)≠0∧
 (16777216:Int)≠0∧
 (65536:Int)≠0∧
 (256:Int)≠0∧
 (256:Int)≠0∧
 (256:Int)≠0∧
 (256:Int)≠0∧
 (256:Int)≠0∧
 (256:Int)≠0∧
 NewW e (Obj.cells ⟨[(vI wU (vW wU (vW vU (Int.tdiv a 16777216)))),(vI wU (vW wU (Int.tmod (vW vU (Int.tdiv a 65536)) 256))),(vI wU (vW wU (Int.tmod (vW vU (Int.tdiv a 256)) 256))),(vI wU (vW wU (Int.tmod a 256))),(vI wU (vW wU (vW vU (Int.tdiv b 16777216)))),(vI wU (vW wU (Int.tmod (vW vU (Int.tdiv b 65536)) 256))),(vI wU (vW wU (Int.tmod (vW vU (Int.tdiv b 256)) 256))),(vI wU (vW wU (Int.tmod b 256))),(vI wU 0),(vI wU i),(vI wU (vW wU (vW vU (Int.tdiv (vW vU (Int.tmod (vW .u64 c) 65536)) 256)))),(vI wU (vW wU (Int.tmod (vW vU (Int.tmod (vW .u64 c) 65536)) 256)))]⟩ Zh) fun j f=>
 FnW wP Zlx ⟨[(vI vU 0),(vS (some ⟨j,0,none⟩) 12 12)]⟩ f fun k g=>
 ∃d,k=vI vU d∧
 h (vI vU d) g
theorem Zckv (d g e f:Int) {a:Heap} {c:Value->Heap->Prop} (i:Zbrm d g e f a fun j h=>∀b,Shut a h b->c j b):FnW wP Zqc ⟨[(vI vU d),(vI vU g),(vI wU e),(vI wI f)]⟩ a c:=Zc Tryz.func44 ⟨[],[],[],[]⟩ (by kernel_rfl) (by kernel_rfl) i
def Zbkb (g:Nat) (B:Int) (a:Nat) (f:Int) (b:Heap) (C:(Int×Unit)->Heap->Prop) (h:Value->Heap->Prop):Prop:=
 ∃D o E,b.cell ⟨g,3,none⟩=some (vS D o E)∧
 IfB (decide (f<(o:Int)))
 (∃p q F,b.cell ⟨g,3,none⟩=some (vS p q F)∧
 NilP p fun I=>
 InB f q fun G=>
 elemAt I G 3 fun H=>
 ∃r,b.cell H=some (vI wI r)∧
 IfB (r==B)
 (∃s t J,b.cell ⟨g,3,none⟩=some (vS s t J)∧
 NilP s fun L=>
 InB f t fun K=>
 elemAt L K 3 fun c=>
 ∃u,b.cell c=some (vI wI u)∧∃v,b.cell ⟨c.block,c.off+1,none⟩=some (vI vU v)∧∃w,b.cell ⟨c.block,c.off+2,none⟩=some (vP w)∧Za b ⟨a,0,none⟩ (vI wI u) fun x=>
 Za x ⟨a,1,none⟩ (vI vU v) fun y=>
 Za y ⟨a,2,none⟩ (vP w) fun d=>
 ∃i,d.cell ⟨a,0,none⟩=some (vI wI i)∧∃k,d.cell ⟨a,1,none⟩=some (vI vU k)∧∃m,d.cell ⟨a,2,none⟩=some (vP m)∧h (vT ⟨[(vA ⟨[(vI wI i),(vI vU k),(vP m)]⟩),(vB true)]⟩) d)
 (C ((vW wI (f+1)),()) b))
 (Za b ⟨a,0,none⟩ (vI wI 0) fun z=>
 Za z ⟨a,1,none⟩ (vI vU 0) fun A=>
 Za A ⟨a,2,none⟩ (vP none) fun e=>
 ∃j,e.cell ⟨a,0,none⟩=some (vI wI j)∧∃l,e.cell ⟨a,1,none⟩=some (vI vU l)∧∃n,e.cell ⟨a,2,none⟩=some (vP n)∧h (vT ⟨[(vA ⟨[(vI wI j),(vI vU l),(vP n)]⟩),(vB false)]⟩) e)
def Zbkc (f:Nat) (d:Int) (a:Heap) (c:Value->Heap->Prop):Prop:=
 NewW a (Obj.cells ⟨[(vI wI 0),(vI vU 0),(vP none)]⟩ Zfx) fun h b=>
 Zbe (Int×Unit) (0,()) b fun g a e=>∀i:Env,Zbkb f d h g.1 a e c
theorem Zcdu (e:Nat) (d:Int) {a:Heap} {c:Value->Heap->Prop} (g:Zbkc e d a fun h f=>∀b,Shut a f b->c h b):FnW wP Zwe ⟨[(vP (some ⟨e,0,none⟩)),(vI wI d)]⟩ a c:=Zc Tryz.func49 ⟨[],[(2,[6],[.int wI],[0,1,4])],[],[]⟩ (by kernel_rfl) (by kernel_rfl) g
def Zub (e m:Nat) (g:Int) (o:Bool) (a:Heap) (f:Value->Heap->Prop):Prop:=
 IfB o
 (f (vI wI g) a)
 (∃d:List Nat,(∀b∈d,∃n,a b=some n)∧
 e∈d∧∃h i p,a.cell ⟨e,m+3,none⟩=some (vS h i p)∧
 ∃q j r,a.cell ⟨e,m+3,none⟩=some (vS q j r)∧
 FnW wP Zos ⟨[(vI wI g),(vI wI (j:Int))]⟩ a fun s c=>
 ∃k,s=vI wI k∧
 Zb d a c∧NilP h fun v=>
 InB k i fun t=>
 elemAt v t 3 fun u=>
 ∃l,c.cell u=some (vI wI l)∧
 f (vI wI l) c)
def Zbqb (c d:Nat) (b:Int) (a:Heap) (e:Value->Heap->Prop):Prop:=
 ∃j g k,a.cell ⟨c,d+3,none⟩=some (vS j g k)∧
 IfB (((g:Int):Int)==0)
 (Zub c d b true a e)
 (FnW wP Zos ⟨[(vI wI b),(vI wI 7)]⟩ a fun i h=>
 ∃f,i=vI wI f∧
 Zub c d b (f==6) h e)
theorem Zcjq (e f:Nat) (d:Int) {a:Heap} {c:Value->Heap->Prop} (h:Zbqb e f d a fun i g=>∀b,Shut a g b->c i b):FnW wP Zyd ⟨[(vP (some ⟨e,f,none⟩)),(vI wI d)]⟩ a c:=Zc Tryz.func50 ⟨[(3,[0,1,2,3,4,5,6,7,8,9,10,11,12,13,14],[20])],[],[],[]⟩ (by kernel_rfl) (by kernel_rfl) h
def Zbkd (b:Nat) (a:Heap) (c:Value->Heap->Prop):Prop:=
 ∃j,a.cell ⟨b,5,none⟩=some (vP j)∧
 IfB j.isNone
 (c (vI vU 0) a)
 (∃d,a.cell ⟨b,9,none⟩=some (vB d)∧
 IfB d
 (∃e,a.cell ⟨b,5,none⟩=some (vP e)∧
 NilP e fun l=>
 ∃f,a.cell l=some (vI vU f)∧
 FnW wP Zdm ⟨[(vI vU f),(vI wI 1)]⟩ a fun m k=>
 ∃g,m=vI vU g∧
 c (vI vU g) k)
 (∃h,a.cell ⟨b,5,none⟩=some (vP h)∧
 NilP h fun n=>
 ∃i,a.cell n=some (vI vU i)∧
 c (vI vU i) a))
theorem Zcdv (d:Nat) {a:Heap} {c:Value->Heap->Prop} (f:Zbkd d a fun g e=>∀b,Shut a e b->c g b):FnW wP Zji ⟨[(vP (some ⟨d,0,none⟩))]⟩ a c:=Zc Tryz.func51 ⟨[],[],[],[]⟩ (by kernel_rfl) (by kernel_rfl) f
def Zno (d:Option Addr) (q c a:Nat) (r0:Int) (H7:Bool) (a6:Heap) (p:Value->Heap->Prop):Prop:=
 IfB H7
 (Za a6 ⟨a,0,none⟩ (vI wI 0) fun z1=>
 Za z1 ⟨a,1,none⟩ (vI wI 0) fun z7=>
 Za z7 ⟨a,2,none⟩ (vI vU 0) fun A3=>
 Za A3 ⟨a,3,none⟩ (vI vU 0) fun B2=>
 Za B2 ⟨a,4,none⟩ (vI wI 0) fun C1=>
 Za C1 ⟨a,5,none⟩ (vI wI 0) fun C9=>
 Za C9 ⟨a,6,none⟩ (vI wI 0) fun D3=>
 Za D3 ⟨a,7,none⟩ (vI wI 0) fun D4=>
 Za D4 ⟨a,8,none⟩ (vS none 0 0) fun x=>
 ∃e9,x.cell ⟨a,0,none⟩=some (vI wI e9)∧∃g0,x.cell ⟨a,1,none⟩=some (vI wI g0)∧∃h1,x.cell ⟨a,2,none⟩=some (vI vU h1)∧∃i2,x.cell ⟨a,3,none⟩=some (vI vU i2)∧∃j3,x.cell ⟨a,4,none⟩=some (vI wI j3)∧∃k4,x.cell ⟨a,5,none⟩=some (vI wI k4)∧∃l5,x.cell ⟨a,6,none⟩=some (vI wI l5)∧∃m6,x.cell ⟨a,7,none⟩=some (vI wI m6)∧∃n7 p9 o8,x.cell ⟨a,8,none⟩=some (vS n7 p9 o8)∧p (vT ⟨[(vA ⟨[(vI wI e9),(vI wI g0),(vI vU h1),(vI vU i2),(vI wI j3),(vI wI k4),(vI wI l5),(vI wI m6),(vS n7 p9 o8)]⟩),(vI wI 110)]⟩) x)
 (InC (vW wI (4*(vW wI (vW wU (Int.tdiv r0 16))))) c fun r1=>
 InC 20 r1 fun Q=>
 FnW wP Zxn ⟨[(vS (if c=Q then d else vM (fun e=>Addr.add e (Q*1)) d) (r1 - Q) (c - Q))]⟩ a6 fun H8 f=>
 ∃C,∃r2:Bool,H8=(vT ⟨[(vI wI C),(vB r2)]⟩)∧
 IfB (!r2)
 (Za f ⟨a,0,none⟩ (vI wI 0) fun D5=>
 Za D5 ⟨a,1,none⟩ (vI wI 0) fun D6=>
 Za D6 ⟨a,2,none⟩ (vI vU 0) fun D7=>
 Za D7 ⟨a,3,none⟩ (vI vU 0) fun D8=>
 Za D8 ⟨a,4,none⟩ (vI wI 0) fun D9=>
 Za D9 ⟨a,5,none⟩ (vI wI 0) fun E0=>
 Za E0 ⟨a,6,none⟩ (vI wI 0) fun E1=>
 Za E1 ⟨a,7,none⟩ (vI wI 0) fun E2=>
 Za E2 ⟨a,8,none⟩ (vS none 0 0) fun y=>
 ∃f2,y.cell ⟨a,0,none⟩=some (vI wI f2)∧∃g3,y.cell ⟨a,1,none⟩=some (vI wI g3)∧∃h4,y.cell ⟨a,2,none⟩=some (vI vU h4)∧∃i5,y.cell ⟨a,3,none⟩=some (vI vU i5)∧∃j6,y.cell ⟨a,4,none⟩=some (vI wI j6)∧∃k7,y.cell ⟨a,5,none⟩=some (vI wI k7)∧∃l8,y.cell ⟨a,6,none⟩=some (vI wI l8)∧∃m9,y.cell ⟨a,7,none⟩=some (vI wI m9)∧∃o0 q2 p1,y.cell ⟨a,8,none⟩=some (vS o0 q2 p1)∧p (vT ⟨[(vA ⟨[(vI wI f2),(vI wI g3),(vI vU h4),(vI vU i5),(vI wI j6),(vI wI k7),(vI wI l8),(vI wI m9),(vS o0 q2 p1)]⟩),(vI wI 110)]⟩) y)
 (∃g:List Nat,(∀b∈g,∃H6,f b=some H6)∧
 NilP d fun K7=>
 InB 13 q fun K6=>
 elemAt K7 K6 1 fun t4=>
 t4.block∈g∧∃D,f.cell t4=some (vI wU D)∧
 InC 2 c fun a0=>
 InC 0 a0 fun H=>
 InC 4 c fun R=>
 InC 2 R fun o=>
 InC 6 c fun O=>
 InC 4 O fun n=>
 InC 8 c fun M=>
 InC 6 M fun m=>
 InC 10 c fun L=>
 InC 8 L fun l=>
 InC 12 c fun J=>
 InC 10 J fun k=>
 (64:Int)≠0∧
 InC 16 c fun G=>
 InC 14 G fun j=>
 InC 20 c fun E=>
 InC 18 E fun h=>
 InC (vW wI (4*(vW wI (vW wU (Int.tdiv r0 16))))) q fun i=>
 (NewW f (Obj.cells ⟨[]⟩ Zh) fun M5 E3=>
 FnW wP Zq ⟨[(vS (if c=H then d else vM (fun e=>Addr.add e (H*1)) d) (a0 - H) (c - H))]⟩ E3 fun H9 b9=>
 ∃r3,H9=vI wI r3∧
 Zb g f b9∧FnW wP Zq ⟨[(vS (if c=o then d else vM (fun e=>Addr.add e (o*1)) d) (R - o) (c - o))]⟩ b9 fun I1 c0=>
 ∃r4,I1=vI wI r4∧
 Zb g f c0∧FnW wP Zq ⟨[(vS (if c=n then d else vM (fun e=>Addr.add e (n*1)) d) (O - n) (c - n))]⟩ c0 fun I4 c1=>
 ∃r6,I4=vI wI r6∧
 Zb g f c1∧FnW wP Zq ⟨[(vS (if c=m then d else vM (fun e=>Addr.add e (m*1)) d) (M - m) (c - m))]⟩ c1 fun I8 c2=>
 ∃r9,I8=vI wI r9∧
 Zb g f c2∧FnW wP Zq ⟨[(vS (if c=l then d else vM (fun e=>Addr.add e (l*1)) d) (L - l) (c - l))]⟩ c2 fun J3 c3=>
 ∃s3,J3=vI wI s3∧
 Zb g f c3∧FnW wP Zq ⟨[(vS (if c=k then d else vM (fun e=>Addr.add e (k*1)) d) (J - k) (c - k))]⟩ c3 fun J9 c4=>
 ∃s8,J9=vI wI s8∧
 Zb g f c4∧FnW wP Zq ⟨[(vS (if c=j then d else vM (fun e=>Addr.add e (j*1)) d) (G - j) (c - j))]⟩ c4 fun K8 c5=>
 ∃t5,K8=vI wI t5∧
 Zb g f c5∧FnW wP Zq ⟨[(vS (if c=h then d else vM (fun e=>Addr.add e (h*1)) d) (E - h) (c - h))]⟩ c5 fun L6 c6=>
 ∃u2,L6=vI wI u2∧
 Zb g f c6∧AppW wP #[Zd,Zd] Zd [(vS (some ⟨M5,0,none⟩) 0 0),(vS (if c=i then d else vM (fun e=>Addr.add e (i*1)) d) (q - i) (c - i))] c6 fun N4 c7=>
 ∃v2 x0 w1,N4=vS v2 x0 w1∧
 Zb g f c7∧Za c7 ⟨a,0,none⟩ (vI wI r3) fun E4=>
 Za E4 ⟨a,1,none⟩ (vI wI r4) fun E5=>
 Za E5 ⟨a,2,none⟩ (vI vU (vW vU (vW wI ((vW wI (65536*r6))+r9)))) fun E6=>
 Za E6 ⟨a,3,none⟩ (vI vU (vW vU (vW wI ((vW wI (65536*s3))+s8)))) fun E7=>
 Za E7 ⟨a,4,none⟩ (vI wI (vW wI (Int.tmod D 64))) fun E8=>
 Za E8 ⟨a,5,none⟩ (vI wI t5) fun E9=>
 Za E9 ⟨a,6,none⟩ (vI wI u2) fun F0=>
 Za F0 ⟨a,7,none⟩ (vI wI C) fun F1=>
 Za F1 ⟨a,8,none⟩ (vS v2 x0 w1) fun z=>
 ∃f3,z.cell ⟨a,0,none⟩=some (vI wI f3)∧∃g4,z.cell ⟨a,1,none⟩=some (vI wI g4)∧∃h5,z.cell ⟨a,2,none⟩=some (vI vU h5)∧∃i6,z.cell ⟨a,3,none⟩=some (vI vU i6)∧∃j7,z.cell ⟨a,4,none⟩=some (vI wI j7)∧∃k8,z.cell ⟨a,5,none⟩=some (vI wI k8)∧∃l9,z.cell ⟨a,6,none⟩=some (vI wI l9)∧∃n0,z.cell ⟨a,7,none⟩=some (vI wI n0)∧∃o1 q3 p2,z.cell ⟨a,8,none⟩=some (vS o1 q3 p2)∧p (vT ⟨[(vA ⟨[(vI wI f3),(vI wI g4),(vI vU h5),(vI vU i6),(vI wI j7),(vI wI k8),(vI wI l9),(vI wI n0),(vS o1 q3 p2)]⟩),(vI wI 0)]⟩) z)∧
 (FnW wP Zq ⟨[(vS (if c=H then d else vM (fun e=>Addr.add e (H*1)) d) (a0 - H) (c - H))]⟩ f fun I0 X=>
 ∃F,I0=vI wI F∧
 Zb g f X∧(NewW X (Obj.cells ⟨[]⟩ Zh) fun M6 F2=>
 FnW wP Zq ⟨[(vS (if c=o then d else vM (fun e=>Addr.add e (o*1)) d) (R - o) (c - o))]⟩ F2 fun I2 c8=>
 ∃r5,I2=vI wI r5∧
 Zb g f c8∧FnW wP Zq ⟨[(vS (if c=n then d else vM (fun e=>Addr.add e (n*1)) d) (O - n) (c - n))]⟩ c8 fun I5 c9=>
 ∃r7,I5=vI wI r7∧
 Zb g f c9∧FnW wP Zq ⟨[(vS (if c=m then d else vM (fun e=>Addr.add e (m*1)) d) (M - m) (c - m))]⟩ c9 fun I9 d0=>
 ∃s0,I9=vI wI s0∧
 Zb g f d0∧FnW wP Zq ⟨[(vS (if c=l then d else vM (fun e=>Addr.add e (l*1)) d) (L - l) (c - l))]⟩ d0 fun J4 d1=>
 ∃s4,J4=vI wI s4∧
 Zb g f d1∧FnW wP Zq ⟨[(vS (if c=k then d else vM (fun e=>Addr.add e (k*1)) d) (J - k) (c - k))]⟩ d1 fun K0 d2=>
 ∃s9,K0=vI wI s9∧
 Zb g f d2∧FnW wP Zq ⟨[(vS (if c=j then d else vM (fun e=>Addr.add e (j*1)) d) (G - j) (c - j))]⟩ d2 fun K9 d3=>
 ∃t6,K9=vI wI t6∧
 Zb g f d3∧FnW wP Zq ⟨[(vS (if c=h then d else vM (fun e=>Addr.add e (h*1)) d) (E - h) (c - h))]⟩ d3 fun L7 d4=>
 ∃u3,L7=vI wI u3∧
 Zb g f d4∧AppW wP #[Zd,Zd] Zd [(vS (some ⟨M6,0,none⟩) 0 0),(vS (if c=i then d else vM (fun e=>Addr.add e (i*1)) d) (q - i) (c - i))] d4 fun N5 d5=>
 ∃v3 x1 w2,N5=vS v3 x1 w2∧
 Zb g f d5∧Za d5 ⟨a,0,none⟩ (vI wI F) fun F3=>
 Za F3 ⟨a,1,none⟩ (vI wI r5) fun F4=>
 Za F4 ⟨a,2,none⟩ (vI vU (vW vU (vW wI ((vW wI (65536*r7))+s0)))) fun F5=>
 Za F5 ⟨a,3,none⟩ (vI vU (vW vU (vW wI ((vW wI (65536*s4))+s9)))) fun F6=>
 Za F6 ⟨a,4,none⟩ (vI wI (vW wI (Int.tmod D 64))) fun F7=>
 Za F7 ⟨a,5,none⟩ (vI wI t6) fun F8=>
 Za F8 ⟨a,6,none⟩ (vI wI u3) fun F9=>
 Za F9 ⟨a,7,none⟩ (vI wI C) fun G0=>
 Za G0 ⟨a,8,none⟩ (vS v3 x1 w2) fun A=>
 ∃f4,A.cell ⟨a,0,none⟩=some (vI wI f4)∧∃g5,A.cell ⟨a,1,none⟩=some (vI wI g5)∧∃h6,A.cell ⟨a,2,none⟩=some (vI vU h6)∧∃i7,A.cell ⟨a,3,none⟩=some (vI vU i7)∧∃j8,A.cell ⟨a,4,none⟩=some (vI wI j8)∧∃k9,A.cell ⟨a,5,none⟩=some (vI wI k9)∧∃m0,A.cell ⟨a,6,none⟩=some (vI wI m0)∧∃n1,A.cell ⟨a,7,none⟩=some (vI wI n1)∧∃o2 q4 p3,A.cell ⟨a,8,none⟩=some (vS o2 q4 p3)∧p (vT ⟨[(vA ⟨[(vI wI f4),(vI wI g5),(vI vU h6),(vI vU i7),(vI wI j8),(vI wI k9),(vI wI m0),(vI wI n1),(vS o2 q4 p3)]⟩),(vI wI 0)]⟩) A)∧
 (FnW wP Zq ⟨[(vS (if c=o then d else vM (fun e=>Addr.add e (o*1)) d) (R - o) (c - o))]⟩ X fun I3 Y=>
 ∃I,I3=vI wI I∧
 Zb g f Y∧(NewW Y (Obj.cells ⟨[]⟩ Zh) fun M7 G1=>
 FnW wP Zq ⟨[(vS (if c=n then d else vM (fun e=>Addr.add e (n*1)) d) (O - n) (c - n))]⟩ G1 fun I6 d6=>
 ∃r8,I6=vI wI r8∧
 Zb g f d6∧FnW wP Zq ⟨[(vS (if c=m then d else vM (fun e=>Addr.add e (m*1)) d) (M - m) (c - m))]⟩ d6 fun J0 d7=>
 ∃s1,J0=vI wI s1∧
 Zb g f d7∧FnW wP Zq ⟨[(vS (if c=l then d else vM (fun e=>Addr.add e (l*1)) d) (L - l) (c - l))]⟩ d7 fun J5 d8=>
 ∃s5,J5=vI wI s5∧
 Zb g f d8∧FnW wP Zq ⟨[(vS (if c=k then d else vM (fun e=>Addr.add e (k*1)) d) (J - k) (c - k))]⟩ d8 fun K1 d9=>
 ∃t0,K1=vI wI t0∧
 Zb g f d9∧FnW wP Zq ⟨[(vS (if c=j then d else vM (fun e=>Addr.add e (j*1)) d) (G - j) (c - j))]⟩ d9 fun L0 e0=>
 ∃t7,L0=vI wI t7∧
 Zb g f e0∧FnW wP Zq ⟨[(vS (if c=h then d else vM (fun e=>Addr.add e (h*1)) d) (E - h) (c - h))]⟩ e0 fun L8 e1=>
 ∃u4,L8=vI wI u4∧
 Zb g f e1∧AppW wP #[Zd,Zd] Zd [(vS (some ⟨M7,0,none⟩) 0 0),(vS (if c=i then d else vM (fun e=>Addr.add e (i*1)) d) (q - i) (c - i))] e1 fun N6 e2=>
 ∃v4 x2 w3,N6=vS v4 x2 w3∧
 Zb g f e2∧Za e2 ⟨a,0,none⟩ (vI wI F) fun G2=>
 Za G2 ⟨a,1,none⟩ (vI wI I) fun G3=>
 Za G3 ⟨a,2,none⟩ (vI vU (vW vU (vW wI ((vW wI (65536*r8))+s1)))) fun G4=>
 Za G4 ⟨a,3,none⟩ (vI vU (vW vU (vW wI ((vW wI (65536*s5))+t0)))) fun G5=>
 Za G5 ⟨a,4,none⟩ (vI wI (vW wI (Int.tmod D 64))) fun G6=>
 Za G6 ⟨a,5,none⟩ (vI wI t7) fun G7=>
 Za G7 ⟨a,6,none⟩ (vI wI u4) fun G8=>
 Za G8 ⟨a,7,none⟩ (vI wI C) fun G9=>
 Za G9 ⟨a,8,none⟩ (vS v4 x2 w3) fun B=>
 ∃f5,B.cell ⟨a,0,none⟩=some (vI wI f5)∧∃g6,B.cell ⟨a,1,none⟩=some (vI wI g6)∧∃h7,B.cell ⟨a,2,none⟩=some (vI vU h7)∧∃i8,B.cell ⟨a,3,none⟩=some (vI vU i8)∧∃j9,B.cell ⟨a,4,none⟩=some (vI wI j9)∧∃l0,B.cell ⟨a,5,none⟩=some (vI wI l0)∧∃m1,B.cell ⟨a,6,none⟩=some (vI wI m1)∧∃n2,B.cell ⟨a,7,none⟩=some (vI wI n2)∧∃o3 q5 p4,B.cell ⟨a,8,none⟩=some (vS o3 q5 p4)∧p (vT ⟨[(vA ⟨[(vI wI f5),(vI wI g6),(vI vU h7),(vI vU i8),(vI wI j9),(vI wI l0),(vI wI m1),(vI wI n2),(vS o3 q5 p4)]⟩),(vI wI 0)]⟩) B)∧
 (FnW wP Zq ⟨[(vS (if c=n then d else vM (fun e=>Addr.add e (n*1)) d) (O - n) (c - n))]⟩ Y fun I7 Z=>
 ∃K,I7=vI wI K∧
 Zb g f Z∧(NewW Z (Obj.cells ⟨[]⟩ Zh) fun M8 H0=>
 FnW wP Zq ⟨[(vS (if c=m then d else vM (fun e=>Addr.add e (m*1)) d) (M - m) (c - m))]⟩ H0 fun J1 e3=>
 ∃s2,J1=vI wI s2∧
 Zb g f e3∧FnW wP Zq ⟨[(vS (if c=l then d else vM (fun e=>Addr.add e (l*1)) d) (L - l) (c - l))]⟩ e3 fun J6 e4=>
 ∃s6,J6=vI wI s6∧
 Zb g f e4∧FnW wP Zq ⟨[(vS (if c=k then d else vM (fun e=>Addr.add e (k*1)) d) (J - k) (c - k))]⟩ e4 fun K2 e5=>
 ∃t1,K2=vI wI t1∧
 Zb g f e5∧FnW wP Zq ⟨[(vS (if c=j then d else vM (fun e=>Addr.add e (j*1)) d) (G - j) (c - j))]⟩ e5 fun L1 e6=>
 ∃t8,L1=vI wI t8∧
 Zb g f e6∧FnW wP Zq ⟨[(vS (if c=h then d else vM (fun e=>Addr.add e (h*1)) d) (E - h) (c - h))]⟩ e6 fun L9 e7=>
 ∃u5,L9=vI wI u5∧
 Zb g f e7∧AppW wP #[Zd,Zd] Zd [(vS (some ⟨M8,0,none⟩) 0 0),(vS (if c=i then d else vM (fun e=>Addr.add e (i*1)) d) (q - i) (c - i))] e7 fun N7 e8=>
 ∃v5 x3 w4,N7=vS v5 x3 w4∧
 Zb g f e8∧Za e8 ⟨a,0,none⟩ (vI wI F) fun H1=>
 Za H1 ⟨a,1,none⟩ (vI wI I) fun H2=>
 Za H2 ⟨a,2,none⟩ (vI vU (vW vU (vW wI ((vW wI (65536*K))+s2)))) fun H3=>
 Za H3 ⟨a,3,none⟩ (vI vU (vW vU (vW wI ((vW wI (65536*s6))+t1)))) fun H4=>
 Za H4 ⟨a,4,none⟩ (vI wI (vW wI (Int.tmod D 64))) fun H5=>
 Za H5 ⟨a,5,none⟩ (vI wI t8) fun x9=>
 Za x9 ⟨a,6,none⟩ (vI wI u5) fun y0=>
 Za y0 ⟨a,7,none⟩ (vI wI C) fun y1=>
 Za y1 ⟨a,8,none⟩ (vS v5 x3 w4) fun r=>
 ∃f6,r.cell ⟨a,0,none⟩=some (vI wI f6)∧∃g7,r.cell ⟨a,1,none⟩=some (vI wI g7)∧∃h8,r.cell ⟨a,2,none⟩=some (vI vU h8)∧∃i9,r.cell ⟨a,3,none⟩=some (vI vU i9)∧∃k0,r.cell ⟨a,4,none⟩=some (vI wI k0)∧∃l1,r.cell ⟨a,5,none⟩=some (vI wI l1)∧∃m2,r.cell ⟨a,6,none⟩=some (vI wI m2)∧∃n3,r.cell ⟨a,7,none⟩=some (vI wI n3)∧∃o4 q6 p5,r.cell ⟨a,8,none⟩=some (vS o4 q6 p5)∧p (vT ⟨[(vA ⟨[(vI wI f6),(vI wI g7),(vI vU h8),(vI vU i9),(vI wI k0),(vI wI l1),(vI wI m2),(vI wI n3),(vS o4 q6 p5)]⟩),(vI wI 0)]⟩) r)∧
 (FnW wP Zq ⟨[(vS (if c=m then d else vM (fun e=>Addr.add e (m*1)) d) (M - m) (c - m))]⟩ Z fun J2 T=>
 ∃N,J2=vI wI N∧
 Zb g f T∧(NewW T (Obj.cells ⟨[]⟩ Zh) fun M9 y2=>
 FnW wP Zq ⟨[(vS (if c=l then d else vM (fun e=>Addr.add e (l*1)) d) (L - l) (c - l))]⟩ y2 fun J7 a2=>
 ∃s7,J7=vI wI s7∧
 Zb g f a2∧FnW wP Zq ⟨[(vS (if c=k then d else vM (fun e=>Addr.add e (k*1)) d) (J - k) (c - k))]⟩ a2 fun K3 a3=>
 ∃t2,K3=vI wI t2∧
 Zb g f a3∧FnW wP Zq ⟨[(vS (if c=j then d else vM (fun e=>Addr.add e (j*1)) d) (G - j) (c - j))]⟩ a3 fun L2 a4=>
 ∃t9,L2=vI wI t9∧
 Zb g f a4∧FnW wP Zq ⟨[(vS (if c=h then d else vM (fun e=>Addr.add e (h*1)) d) (E - h) (c - h))]⟩ a4 fun M0 a5=>
 ∃u6,M0=vI wI u6∧
 Zb g f a5∧AppW wP #[Zd,Zd] Zd [(vS (some ⟨M9,0,none⟩) 0 0),(vS (if c=i then d else vM (fun e=>Addr.add e (i*1)) d) (q - i) (c - i))] a5 fun N8 a7=>
 ∃v6 x4 w5,N8=vS v6 x4 w5∧
 Zb g f a7∧Za a7 ⟨a,0,none⟩ (vI wI F) fun y3=>
 Za y3 ⟨a,1,none⟩ (vI wI I) fun y4=>
 Za y4 ⟨a,2,none⟩ (vI vU (vW vU (vW wI ((vW wI (65536*K))+N)))) fun y5=>
 Za y5 ⟨a,3,none⟩ (vI vU (vW vU (vW wI ((vW wI (65536*s7))+t2)))) fun y6=>
 Za y6 ⟨a,4,none⟩ (vI wI (vW wI (Int.tmod D 64))) fun y7=>
 Za y7 ⟨a,5,none⟩ (vI wI t9) fun y8=>
 Za y8 ⟨a,6,none⟩ (vI wI u6) fun y9=>
 Za y9 ⟨a,7,none⟩ (vI wI C) fun z0=>
 Za z0 ⟨a,8,none⟩ (vS v6 x4 w5) fun s=>
 ∃f7,s.cell ⟨a,0,none⟩=some (vI wI f7)∧∃g8,s.cell ⟨a,1,none⟩=some (vI wI g8)∧∃h9,s.cell ⟨a,2,none⟩=some (vI vU h9)∧∃j0,s.cell ⟨a,3,none⟩=some (vI vU j0)∧∃k1,s.cell ⟨a,4,none⟩=some (vI wI k1)∧∃l2,s.cell ⟨a,5,none⟩=some (vI wI l2)∧∃m3,s.cell ⟨a,6,none⟩=some (vI wI m3)∧∃n4,s.cell ⟨a,7,none⟩=some (vI wI n4)∧∃o5 q7 p6,s.cell ⟨a,8,none⟩=some (vS o5 q7 p6)∧p (vT ⟨[(vA ⟨[(vI wI f7),(vI wI g8),(vI vU h9),(vI vU j0),(vI wI k1),(vI wI l2),(vI wI m3),(vI wI n4),(vS o5 q7 p6)]⟩),(vI wI 0)]⟩) s)∧
 (FnW wP Zq ⟨[(vS (if c=l then d else vM (fun e=>Addr.add e (l*1)) d) (L - l) (c - l))]⟩ T fun J8 U=>
 ∃P,J8=vI wI P∧
 Zb g f U∧(NewW U (Obj.cells ⟨[]⟩ Zh) fun N0 z2=>
 FnW wP Zq ⟨[(vS (if c=k then d else vM (fun e=>Addr.add e (k*1)) d) (J - k) (c - k))]⟩ z2 fun K4 a8=>
 ∃t3,K4=vI wI t3∧
 Zb g f a8∧FnW wP Zq ⟨[(vS (if c=j then d else vM (fun e=>Addr.add e (j*1)) d) (G - j) (c - j))]⟩ a8 fun L3 a9=>
 ∃u0,L3=vI wI u0∧
 Zb g f a9∧FnW wP Zq ⟨[(vS (if c=h then d else vM (fun e=>Addr.add e (h*1)) d) (E - h) (c - h))]⟩ a9 fun M1 b0=>
 ∃u7,M1=vI wI u7∧
 Zb g f b0∧AppW wP #[Zd,Zd] Zd [(vS (some ⟨N0,0,none⟩) 0 0),(vS (if c=i then d else vM (fun e=>Addr.add e (i*1)) d) (q - i) (c - i))] b0 fun N9 b1=>
 ∃v7 x5 w6,N9=vS v7 x5 w6∧
 Zb g f b1∧Za b1 ⟨a,0,none⟩ (vI wI F) fun z3=>
 Za z3 ⟨a,1,none⟩ (vI wI I) fun z4=>
 Za z4 ⟨a,2,none⟩ (vI vU (vW vU (vW wI ((vW wI (65536*K))+N)))) fun z5=>
 Za z5 ⟨a,3,none⟩ (vI vU (vW vU (vW wI ((vW wI (65536*P))+t3)))) fun z6=>
 Za z6 ⟨a,4,none⟩ (vI wI (vW wI (Int.tmod D 64))) fun z8=>
 Za z8 ⟨a,5,none⟩ (vI wI u0) fun z9=>
 Za z9 ⟨a,6,none⟩ (vI wI u7) fun A0=>
 Za A0 ⟨a,7,none⟩ (vI wI C) fun A1=>
 Za A1 ⟨a,8,none⟩ (vS v7 x5 w6) fun t=>
 ∃f8,t.cell ⟨a,0,none⟩=some (vI wI f8)∧∃g9,t.cell ⟨a,1,none⟩=some (vI wI g9)∧∃i0,t.cell ⟨a,2,none⟩=some (vI vU i0)∧∃j1,t.cell ⟨a,3,none⟩=some (vI vU j1)∧∃k2,t.cell ⟨a,4,none⟩=some (vI wI k2)∧∃l3,t.cell ⟨a,5,none⟩=some (vI wI l3)∧∃m4,t.cell ⟨a,6,none⟩=some (vI wI m4)∧∃n5,t.cell ⟨a,7,none⟩=some (vI wI n5)∧∃o6 q8 p7,t.cell ⟨a,8,none⟩=some (vS o6 q8 p7)∧p (vT ⟨[(vA ⟨[(vI wI f8),(vI wI g9),(vI vU i0),(vI vU j1),(vI wI k2),(vI wI l3),(vI wI m4),(vI wI n5),(vS o6 q8 p7)]⟩),(vI wI 0)]⟩) t)∧
 (FnW wP Zq ⟨[(vS (if c=k then d else vM (fun e=>Addr.add e (k*1)) d) (J - k) (c - k))]⟩ U fun K5 V=>
 ∃S,K5=vI wI S∧
 Zb g f V∧(NewW V (Obj.cells ⟨[]⟩ Zh) fun N1 A2=>
 FnW wP Zq ⟨[(vS (if c=j then d else vM (fun e=>Addr.add e (j*1)) d) (G - j) (c - j))]⟩ A2 fun L4 b2=>
 ∃u1,L4=vI wI u1∧
 Zb g f b2∧FnW wP Zq ⟨[(vS (if c=h then d else vM (fun e=>Addr.add e (h*1)) d) (E - h) (c - h))]⟩ b2 fun M2 b3=>
 ∃u9,M2=vI wI u9∧
 Zb g f b3∧AppW wP #[Zd,Zd] Zd [(vS (some ⟨N1,0,none⟩) 0 0),(vS (if c=i then d else vM (fun e=>Addr.add e (i*1)) d) (q - i) (c - i))] b3 fun O0 b4=>
 ∃v8 x6 w7,O0=vS v8 x6 w7∧
 Zb g f b4∧Za b4 ⟨a,0,none⟩ (vI wI F) fun A4=>
 Za A4 ⟨a,1,none⟩ (vI wI I) fun A5=>
 Za A5 ⟨a,2,none⟩ (vI vU (vW vU (vW wI ((vW wI (65536*K))+N)))) fun A6=>
 Za A6 ⟨a,3,none⟩ (vI vU (vW vU (vW wI ((vW wI (65536*P))+S)))) fun A7=>
 Za A7 ⟨a,4,none⟩ (vI wI (vW wI (Int.tmod D 64))) fun A8=>
 Za A8 ⟨a,5,none⟩ (vI wI u1) fun A9=>
 Za A9 ⟨a,6,none⟩ (vI wI u9) fun B0=>
 Za B0 ⟨a,7,none⟩ (vI wI C) fun B1=>
 Za B1 ⟨a,8,none⟩ (vS v8 x6 w7) fun u=>
 ∃f9,u.cell ⟨a,0,none⟩=some (vI wI f9)∧∃h0,u.cell ⟨a,1,none⟩=some (vI wI h0)∧∃i1,u.cell ⟨a,2,none⟩=some (vI vU i1)∧∃j2,u.cell ⟨a,3,none⟩=some (vI vU j2)∧∃k3,u.cell ⟨a,4,none⟩=some (vI wI k3)∧∃l4,u.cell ⟨a,5,none⟩=some (vI wI l4)∧∃m5,u.cell ⟨a,6,none⟩=some (vI wI m5)∧∃n6,u.cell ⟨a,7,none⟩=some (vI wI n6)∧∃o7 q9 p8,u.cell ⟨a,8,none⟩=some (vS o7 q9 p8)∧p (vT ⟨[(vA ⟨[(vI wI f9),(vI wI h0),(vI vU i1),(vI vU j2),(vI wI k3),(vI wI l4),(vI wI m5),(vI wI n6),(vS o7 q9 p8)]⟩),(vI wI 0)]⟩) u)∧
 (FnW wP Zq ⟨[(vS (if c=j then d else vM (fun e=>Addr.add e (j*1)) d) (G - j) (c - j))]⟩ V fun L5 W=>
 ∃a1,L5=vI wI a1∧
 Zb g f W∧(NewW W (Obj.cells ⟨[]⟩ Zh) fun N2 B3=>
 FnW wP Zq ⟨[(vS (if c=h then d else vM (fun e=>Addr.add e (h*1)) d) (E - h) (c - h))]⟩ B3 fun M3 b5=>
 ∃v0,M3=vI wI v0∧
 Zb g f b5∧AppW wP #[Zd,Zd] Zd [(vS (some ⟨N2,0,none⟩) 0 0),(vS (if c=i then d else vM (fun e=>Addr.add e (i*1)) d) (q - i) (c - i))] b5 fun O1 b6=>
 ∃v9 x7 w8,O1=vS v9 x7 w8∧
 Zb g f b6∧Za b6 ⟨a,0,none⟩ (vI wI F) fun B4=>
 Za B4 ⟨a,1,none⟩ (vI wI I) fun B5=>
 Za B5 ⟨a,2,none⟩ (vI vU (vW vU (vW wI ((vW wI (65536*K))+N)))) fun B6=>
 Za B6 ⟨a,3,none⟩ (vI vU (vW vU (vW wI ((vW wI (65536*P))+S)))) fun B7=>
 Za B7 ⟨a,4,none⟩ (vI wI (vW wI (Int.tmod D 64))) fun B8=>
 Za B8 ⟨a,5,none⟩ (vI wI a1) fun B9=>
 Za B9 ⟨a,6,none⟩ (vI wI v0) fun C0=>
 Za C0 ⟨a,7,none⟩ (vI wI C) fun C2=>
 Za C2 ⟨a,8,none⟩ (vS v9 x7 w8) fun v=>
 ∃f0,v.cell ⟨a,0,none⟩=some (vI wI f0)∧∃g1,v.cell ⟨a,1,none⟩=some (vI wI g1)∧∃h2,v.cell ⟨a,2,none⟩=some (vI vU h2)∧∃i3,v.cell ⟨a,3,none⟩=some (vI vU i3)∧∃j4,v.cell ⟨a,4,none⟩=some (vI wI j4)∧∃k5,v.cell ⟨a,5,none⟩=some (vI wI k5)∧∃l6,v.cell ⟨a,6,none⟩=some (vI wI l6)∧∃m7,v.cell ⟨a,7,none⟩=some (vI wI m7)∧∃n8 q0 o9,v.cell ⟨a,8,none⟩=some (vS n8 q0 o9)∧p (vT ⟨[(vA ⟨[(vI wI f0),(vI wI g1),(vI vU h2),(vI vU i3),(vI wI j4),(vI wI k5),(vI wI l6),(vI wI m7),(vS n8 q0 o9)]⟩),(vI wI 0)]⟩) v)∧
 (FnW wP Zq ⟨[(vS (if c=h then d else vM (fun e=>Addr.add e (h*1)) d) (E - h) (c - h))]⟩ W fun M4 b7=>
 ∃v1,M4=vI wI v1∧
 Zb g f b7∧NewW b7 (Obj.cells ⟨[]⟩ Zh) fun N3 C3=>
 AppW wP #[Zd,Zd] Zd [(vS (some ⟨N3,0,none⟩) 0 0),(vS (if c=i then d else vM (fun e=>Addr.add e (i*1)) d) (q - i) (c - i))] C3 fun O2 b8=>
 ∃w0 x8 w9,O2=vS w0 x8 w9∧
 Zb g f b8∧Za b8 ⟨a,0,none⟩ (vI wI F) fun C4=>
 Za C4 ⟨a,1,none⟩ (vI wI I) fun C5=>
 Za C5 ⟨a,2,none⟩ (vI vU (vW vU (vW wI ((vW wI (65536*K))+N)))) fun C6=>
 Za C6 ⟨a,3,none⟩ (vI vU (vW vU (vW wI ((vW wI (65536*P))+S)))) fun C7=>
 Za C7 ⟨a,4,none⟩ (vI wI (vW wI (Int.tmod D 64))) fun C8=>
 Za C8 ⟨a,5,none⟩ (vI wI a1) fun D0=>
 Za D0 ⟨a,6,none⟩ (vI wI v1) fun D1=>
 Za D1 ⟨a,7,none⟩ (vI wI C) fun D2=>
 Za D2 ⟨a,8,none⟩ (vS w0 x8 w9) fun w=>
 ∃f1,w.cell ⟨a,0,none⟩=some (vI wI f1)∧∃g2,w.cell ⟨a,1,none⟩=some (vI wI g2)∧∃h3,w.cell ⟨a,2,none⟩=some (vI vU h3)∧∃i4,w.cell ⟨a,3,none⟩=some (vI vU i4)∧∃j5,w.cell ⟨a,4,none⟩=some (vI wI j5)∧∃k6,w.cell ⟨a,5,none⟩=some (vI wI k6)∧∃l7,w.cell ⟨a,6,none⟩=some (vI wI l7)∧∃m8,w.cell ⟨a,7,none⟩=some (vI wI m8)∧∃n9 q1 p0,w.cell ⟨a,8,none⟩=some (vS n9 q1 p0)∧p (vT ⟨[(vA ⟨[(vI wI f1),(vI wI g2),(vI vU h3),(vI vU i4),(vI wI j5),(vI wI k6),(vI wI l7),(vI wI m8),(vS n9 q1 p0)]⟩),(vI wI 0)]⟩) w))))))))))
def Zbpo (G H:Int) (f:Option Addr) (c h:Nat) (v:Heap) (g:Value->Heap->Prop):Prop:=
 NewW v (Obj.cells ⟨[(vI wI 0),(vI wI 0),(vI vU 0),(vI vU 0),(vI wI 0),(vI wI 0),(vI wI 0),(vI wI 0),(vS none 0 0)]⟩ Zr) fun a e=>
 IfB (decide (((c:Int):Int)<20))
 (Za e ⟨a,0,none⟩ (vI wI 0) fun y=>
 Za y ⟨a,1,none⟩ (vI wI 0) fun z=>
 Za z ⟨a,2,none⟩ (vI vU 0) fun A=>
 Za A ⟨a,3,none⟩ (vI vU 0) fun B=>
 Za B ⟨a,4,none⟩ (vI wI 0) fun C=>
 Za C ⟨a,5,none⟩ (vI wI 0) fun D=>
 Za D ⟨a,6,none⟩ (vI wI 0) fun E=>
 Za E ⟨a,7,none⟩ (vI wI 0) fun F=>
 Za F ⟨a,8,none⟩ (vS none 0 0) fun b=>
 ∃i,b.cell ⟨a,0,none⟩=some (vI wI i)∧∃j,b.cell ⟨a,1,none⟩=some (vI wI j)∧∃k,b.cell ⟨a,2,none⟩=some (vI vU k)∧∃l,b.cell ⟨a,3,none⟩=some (vI vU l)∧∃m,b.cell ⟨a,4,none⟩=some (vI wI m)∧∃n,b.cell ⟨a,5,none⟩=some (vI wI n)∧∃o,b.cell ⟨a,6,none⟩=some (vI wI o)∧∃p,b.cell ⟨a,7,none⟩=some (vI wI p)∧∃q s r,b.cell ⟨a,8,none⟩=some (vS q s r)∧g (vT ⟨[(vA ⟨[(vI wI i),(vI wI j),(vI vU k),(vI vU l),(vI wI m),(vI wI n),(vI wI o),(vI wI p),(vS q s r)]⟩),(vI wI 110)]⟩) b)
 (NilP f fun K=>
 InB 12 c fun I=>
 elemAt K I 1 fun J=>
 ∃d,e.cell J=some (vI wU d)∧
 (16:Int)≠0∧
 IfB (decide (((vW wI (4*(vW wI (vW wU (Int.tdiv d 16))))):Int)<20))
 (Zno f c h a d true e g)
 (IfB (decide (((vW wI (4*(vW wI (vW wU (Int.tdiv d 16))))):Int)>(c:Int)))
 (Zno f c h a d true e g)
 (FnW wP Zqc ⟨[(vI vU G),(vI vU H),(vI wU 6),(vI wI (c:Int))]⟩ e fun L w=>
 ∃t,L=vI vU t∧
 FnW wP Zlx ⟨[(vI vU t),(vS f c h)]⟩ w fun M x=>
 ∃u,M=vI vU u∧
 Zno f c h a d (u !=65535) x g)))
theorem Zcjh (g h:Int) (d:Option Addr) (f e:Nat) {a:Heap} {c:Value->Heap->Prop} (j:Zbpo g h d f e a fun k i=>∀b,Shut a i b->c k b):FnW wP Zxz ⟨[(vI vU g),(vI vU h),(vS d f e)]⟩ a c:=Zc Tryz.func52 ⟨[(9,[0,1,3,4,6,7,10,11,15,16,19,20,24,25,26,27,28,29,30,32,33,35,37,38,39,36,2,5,8,9,12,13,14,17,18,21,22,23,31,34,40,41,42,43],[76])],[],[],[(9,⟨36,[24,25,26],[0,1,3,4,6,7,10,11,15,16,19,20,27,28,29,30,32,33,35,37,38,39,2,5,8,9,12,13,14,17,18,21,22,23,31,34],[40],[41,42,43],[2,5,8,12,17,21,31,34]⟩)]⟩ (by kernel_rfl) (by kernel_rfl) j
def Ztt (i j a:Nat) (k:Int) (c:Heap) (h:Value->Heap->Prop):Prop:=
 ∃f,c.cell ⟨i,j,none⟩=some (vI wI f)∧
 Za c ⟨a,0,none⟩ (vI wI f) fun g=>
 Za g ⟨a,1,none⟩ (vI wI k) fun b=>
 ∃d,b.cell ⟨a,0,none⟩=some (vI wI d)∧∃e,b.cell ⟨a,1,none⟩=some (vI wI e)∧h (vA ⟨[(vI wI d),(vI wI e)]⟩) b
def Zbpd (b c:Nat) (j:Heap) (d:Value->Heap->Prop):Prop:=
 NewW j (Obj.cells ⟨[(vI wI 0),(vI wI 0)]⟩ Zjb) fun h a=>
 ∃i,a.cell ⟨b,c+5,none⟩=some (vP i)∧
 IfB (!i.isNone)
 (∃e,a.cell ⟨b,c+5,none⟩=some (vP e)∧
 NilP e fun f=>
 ∃k g l,a.cell ⟨f.block,f.off+2,none⟩=some (vS k g l)∧
 Ztt b c h (g:Int) a d)
 (Ztt b c h 0 a d)
theorem Zciz (d e:Nat) {a:Heap} {c:Value->Heap->Prop} (g:Zbpd d e a fun h f=>∀b,Shut a f b->c h b):FnW wP Zpq ⟨[(vP (some ⟨d,e,none⟩))]⟩ a c:=Zc Tryz.func53 ⟨[],[],[],[]⟩ (by kernel_rfl) (by kernel_rfl) g
def Ztm (d:Nat) (f:Option Addr) (h g:Nat) (e:Int) (a:Heap) (c:Value->Heap->Prop):Prop:=
 FnW wP Zpw ⟨[(vP (some ⟨d,0,none⟩))]⟩ a fun i b=>
 i=vT ⟨[]⟩∧
 c (vT ⟨[(vS f h g),(vI wI e)]⟩) b
def Ztl (c:Nat) (N:Int) (b:Nat) (O:Bool) (d:Heap) (e:Value->Heap->Prop):Prop:=
 IfB O
 (e (vT ⟨[(vS none 0 0),(vI wI 2)]⟩) d)
 (∃f,d.cell ⟨c,0,none⟩=some (vI wI f)∧
 IfB (f==0)
 (e (vT ⟨[(vS none 0 0),(vI wI 150)]⟩) d)
 (Za d ⟨c,10,none⟩ (vI wI N) fun a=>
 ∃g,a.cell ⟨c,0,none⟩=some (vI wI g)∧
 IfB (g==1)
 (∃h,a.cell ⟨b,0,none⟩=some (vI wI h)∧∃i,a.cell ⟨b,1,none⟩=some (vI wI i)∧∃j,a.cell ⟨b,2,none⟩=some (vI vU j)∧∃k,a.cell ⟨b,3,none⟩=some (vI vU k)∧∃l,a.cell ⟨b,4,none⟩=some (vI wI l)∧∃m,a.cell ⟨b,5,none⟩=some (vI wI m)∧∃n,a.cell ⟨b,6,none⟩=some (vI wI n)∧∃o,a.cell ⟨b,7,none⟩=some (vI wI o)∧∃p r q,a.cell ⟨b,8,none⟩=some (vS p r q)∧FnW wP Zyl ⟨[(vP (some ⟨c,0,none⟩)),(vA ⟨[(vI wI h),(vI wI i),(vI vU j),(vI vU k),(vI wI l),(vI wI m),(vI wI n),(vI wI o),(vS p r q)]⟩)]⟩ a fun P L=>
 ∃s u t,∃v:Int,P=(vT ⟨[(vS s u t),(vI wI v)]⟩)∧
 Ztm c s u t v L e)
 (∃w,a.cell ⟨b,0,none⟩=some (vI wI w)∧∃x,a.cell ⟨b,1,none⟩=some (vI wI x)∧∃y,a.cell ⟨b,2,none⟩=some (vI vU y)∧∃z,a.cell ⟨b,3,none⟩=some (vI vU z)∧∃A,a.cell ⟨b,4,none⟩=some (vI wI A)∧∃B,a.cell ⟨b,5,none⟩=some (vI wI B)∧∃C,a.cell ⟨b,6,none⟩=some (vI wI C)∧∃D,a.cell ⟨b,7,none⟩=some (vI wI D)∧∃E G F,a.cell ⟨b,8,none⟩=some (vS E G F)∧FnW wP Zxv ⟨[(vP (some ⟨c,0,none⟩)),(vA ⟨[(vI wI w),(vI wI x),(vI vU y),(vI vU z),(vI wI A),(vI wI B),(vI wI C),(vI wI D),(vS E G F)]⟩)]⟩ a fun Q M=>
 ∃H J I,∃K:Int,Q=(vT ⟨[(vS H J I),(vI wI K)]⟩)∧
 Ztm c H J I K M e)))
def Zbox (c:Nat) (d u v w x y z A B:Int) (C:Option Addr) (E D:Nat) (s:Heap) (e:Value->Heap->Prop):Prop:=
 NewW s (Obj.cells ⟨[(vI wI u),(vI wI v),(vI vU w),(vI vU x),(vI wI y),(vI wI z),(vI wI A),(vI wI B),(vS C E D)]⟩ Zr) fun b a=>
 ∃f,a.cell ⟨c,10,none⟩=some (vI wI f)∧
 IfB (decide (d<f))
 (Ztl c d b true a e)
 (∃g,a.cell ⟨b,0,none⟩=some (vI wI g)∧∃h,a.cell ⟨b,1,none⟩=some (vI wI h)∧∃i,a.cell ⟨b,2,none⟩=some (vI vU i)∧∃j,a.cell ⟨b,3,none⟩=some (vI vU j)∧∃k,a.cell ⟨b,4,none⟩=some (vI wI k)∧∃l,a.cell ⟨b,5,none⟩=some (vI wI l)∧∃m,a.cell ⟨b,6,none⟩=some (vI wI m)∧∃n,a.cell ⟨b,7,none⟩=some (vI wI n)∧∃o q p,a.cell ⟨b,8,none⟩=some (vS o q p)∧FnW wP Zqg ⟨[(vA ⟨[(vI wI g),(vI wI h),(vI vU i),(vI vU j),(vI wI k),(vI wI l),(vI wI m),(vI wI n),(vS o q p)]⟩)]⟩ a fun F t=>
 ∃r,F=vB r∧
 Ztl c d b (!r) t e)
theorem Zciu (d:Nat) (e f g h i j k l m:Int) (n:Option Addr) (p o:Nat) {a:Heap} {c:Value->Heap->Prop} (r:Zbox d e f g h i j k l m n p o a fun s q=>∀b,Shut a q b->c s b):FnW wP Zxu ⟨[(vP (some ⟨d,0,none⟩)),(vI wI e),(vA ⟨[(vI wI f),(vI wI g),(vI vU h),(vI vU i),(vI wI j),(vI wI k),(vI wI l),(vI wI m),(vS n p o)]⟩)]⟩ a c:=Zc Tryz.func54 ⟨[],[],[],[]⟩ (by kernel_rfl) (by kernel_rfl) r
def Zsn (i:Nat) (h:Int) (j:Option Addr) (l k:Nat) (b:Int) (f:((Option Addr×Nat×Nat)×Int×Unit)->Heap->Prop) (c:Option Addr) (e d:Nat) (a:Heap) (g:Value->Heap->Prop):Prop:=
 f ((c,e,d),((vW wI (b+1)),())) a
def Zbnn (b:Nat) (f:Int) (j:Option Addr) (l k:Nat) (g:Option Addr) (i h:Nat) (c:Int) (a:Heap) (m:((Option Addr×Nat×Nat)×Int×Unit)->Heap->Prop) (e:Value->Heap->Prop):Prop:=
 ∃G t H,a.cell ⟨b,3,none⟩=some (vS G t H)∧
 IfB (decide (c<(t:Int)))
 (∃u v I,a.cell ⟨b,3,none⟩=some (vS u v I)∧
 NilP u fun L=>
 InB c v fun J=>
 elemAt L J 3 fun K=>
 ∃w,a.cell K=some (vI wI w)∧
 IfB (w !=f)
 (∃x y M,a.cell ⟨b,3,none⟩=some (vS x y M)∧
 NilP x fun D=>
 InB c y fun C=>
 elemAt D C 3 fun d=>
 ∃n,a.cell d=some (vI wI n)∧∃o,a.cell ⟨d.block,d.off+1,none⟩=some (vI vU o)∧∃p,a.cell ⟨d.block,d.off+2,none⟩=some (vP p)∧NewW a (Obj.cells ⟨[(vI wI n),(vI vU o),(vP p)]⟩ Zfx) fun E z=>
 AppW wP #[Zfe,Zfe] Zfe [(vS g i h),(vS (some ⟨E,0,none⟩) 1 1)] z fun F A=>
 ∃q s r,F=vS q s r∧
 Zsn b f j l k c m q s r A e)
 (Zsn b f j l k c m g i h a e))
 (Za a ⟨b,3,none⟩ (vS g i h) fun B=>
 e (vS j l k) B)
def Zbnm (p:Nat) (d:Int) (e:Option Addr) (g f:Nat) (q:Int) (b:Heap) (c:Value->Heap->Prop):Prop:=
 IfB (q==0)
 (NewW b (Obj.cells ⟨[(vI wI 4),(vI wI d)]⟩ Zht) fun r l=>
 AppW wP #[Zdz,Zdz] Zdz [(vS e g f),(vS (some ⟨r,0,none⟩) 1 1)] l fun s m=>
 ∃h j i,s=vS h j i∧
 NewW m (Obj.cells ⟨[]⟩ Zfx) fun t n=>
 Zbe ((Option Addr×Nat×Nat)×Int×Unit) (((some ⟨t,0,none⟩),0,0),(0,())) n fun a k o=>∀u:Env,Zbnn p d h j i a.1.1 a.1.2.1 a.1.2.2 a.2.1 k o c)
 (c (vS e g f) b)
def Zsm (i:Nat) (e:Int) (d:Nat) (f:Option Addr) (h g:Nat) (a:Heap) (c:Value->Heap->Prop):Prop:=
 ∃b,a.cell ⟨d,0,none⟩=some (vI wI b)∧
 Zbnm i e f h g b a c
def Zit (h:Nat) (a:Int) (d:Nat) (e:Option Addr) (g f:Nat) (n:Bool) (b:Heap) (c:Value->Heap->Prop):Prop:=
 IfB n
 (NewW b (Obj.cells ⟨[(vI wI 3),(vI wI a)]⟩ Zht) fun o l=>
 AppW wP #[Zdz,Zdz] Zdz [(vS e g f),(vS (some ⟨o,0,none⟩) 1 1)] l fun p m=>
 ∃i k j,p=vS i k j∧
 Zsm h a d i k j m c)
 (Zsm h a d e g f b c)
def Zsl (h:Nat) (d:Int) (i b:Nat) (e:Option Addr) (g f:Nat) (a:Heap) (c:Value->Heap->Prop):Prop:=
 ∃j,a.cell ⟨i,0,none⟩=some (vI wI j)∧
 IfB (decide (j <= 5))
 (∃k,a.cell ⟨b,0,none⟩=some (vI wI k)∧
 IfB (k==6)
 (∃n,a.cell ⟨i,0,none⟩=some (vI wI n)∧
 Zit h d b e g f (n !=0) a c)
 (∃l,a.cell ⟨b,0,none⟩=some (vI wI l)∧
 IfB (l==7)
 (∃o,a.cell ⟨i,0,none⟩=some (vI wI o)∧
 Zit h d b e g f (o !=0) a c)
 (∃m,a.cell ⟨b,0,none⟩=some (vI wI m)∧
 IfB (m==9)
 (∃p,a.cell ⟨i,0,none⟩=some (vI wI p)∧
 Zit h d b e g f (p !=0) a c)
 (Zit h d b e g f false a c))))
 (Zit h d b e g f false a c)
def Zsk (i:Nat) (d:Int) (b c:Nat) (f:Option Addr) (h g:Nat) (a:Heap) (e:Value->Heap->Prop):Prop:=
 ∃j,a.cell ⟨c,1,none⟩=some (vI wI j)∧
 ∃k,a.cell ⟨b,1,none⟩=some (vI wI k)∧
 IfB (decide (j>k))
 (NewW a (Obj.cells ⟨[(vI wI 2),(vI wI d)]⟩ Zht) fun q o=>
 AppW wP #[Zdz,Zdz] Zdz [(vS f h g),(vS (some ⟨q,0,none⟩) 1 1)] o fun r p=>
 ∃l n m,r=vS l n m∧
 Zsl i d b c l n m p e)
 (Zsl i d b c f h g a e)
def Zsj (f:Nat) (a:Int) (d e g:Nat) (m:Bool) (b:Heap) (c:Value->Heap->Prop):Prop:=
 IfB m
 (NewW b (Obj.cells ⟨[(vI wI 1),(vI wI a)]⟩ Zht) fun n k=>
 AppW wP #[Zdz,Zdz] Zdz [(vS (some ⟨g,0,none⟩) 0 0),(vS (some ⟨n,0,none⟩) 1 1)] k fun o l=>
 ∃h j i,o=vS h j i∧
 Zsk f a d e h j i l c)
 (Zsk f a d e (some ⟨g,0,none⟩) 0 0 b c)
def Zbno (f:Nat) (e r s:Int) (t u:Nat) (l:Heap) (d:Value->Heap->Prop):Prop:=
 NewW l (Obj.cells ⟨[(vI wI r),(vI wI s)]⟩ Zjb) fun c m=>
 FnW wP Zpq ⟨[(vP (some ⟨t,u,none⟩))]⟩ m fun v n=>
 ∃g,∃h:Int,v=(vA ⟨[(vI wI g),(vI wI h)]⟩)∧
 NewW n (Obj.cells ⟨[(vI wI 0),(vI wI 0)]⟩ Zjb) fun a o=>
 Za o ⟨a,0,none⟩ (vI wI g) fun p=>
 Za p ⟨a,1,none⟩ (vI wI h) fun q=>
 NewW q (Obj.cells ⟨[]⟩ Zht) fun i b=>
 ∃j,b.cell ⟨c,0,none⟩=some (vI wI j)∧
 IfB (decide (j<3))
 (∃k,b.cell ⟨a,0,none⟩=some (vI wI k)∧
 Zsj f e c a i (decide (k≥3)) b d)
 (Zsj f e c a i false b d)
theorem Zchq (i:Nat) (h d e:Int) (f g:Nat) {a:Heap} {c:Value->Heap->Prop} (k:Zbno i h d e f g a fun l j=>∀b,Shut a j b->c l b):FnW wP Zwb ⟨[(vP (some ⟨i,0,none⟩)),(vI wI h),(vA ⟨[(vI wI d),(vI wI e)]⟩),(vP (some ⟨f,g,none⟩))]⟩ a c:=Zc Tryz.func55 ⟨[],[(13,[11,12],[.slice,.int wI],[0,1,10])],[],[]⟩ (by kernel_rfl) (by kernel_rfl) k
def Zbrp (d:Nat) (i b:Int) (a:Heap) (j:(Int×Unit)->Heap->Prop) (c:Value->Heap->Prop):Prop:=
 ∃k e l,a.cell ⟨d,2,none⟩=some (vS k e l)∧
 IfB (decide (b<(e:Int)))
 (∃f g m,a.cell ⟨d,2,none⟩=some (vS f g m)∧
 NilP f fun p=>
 InB b g fun n=>
 elemAt p n 1 fun o=>
 ∃h,a.cell o=some (vI wI h)∧
 IfB (h==i)
 (c (vB true) a)
 (j ((vW wI (b+1)),()) a))
 (c (vB false) a)
def Zbrq (e:Nat) (c:Int) (a:Heap) (b:Value->Heap->Prop):Prop:=
 Zbe (Int×Unit) (0,()) a fun f a d=>∀g:Env,Zbrp e c f.1 a d b
theorem Zckx (e:Nat) (d:Int) {a:Heap} {c:Value->Heap->Prop} (g:Zbrq e d a fun h f=>∀b,Shut a f b->c h b):FnW wP Zqd ⟨[(vP (some ⟨e,0,none⟩)),(vI wI d)]⟩ a c:=Zc Tryz.func56 ⟨[],[(2,[5],[.int wI],[0,1])],[],[]⟩ (by kernel_rfl) (by kernel_rfl) g
def Zft (I H:Int) (a:Nat) (J:Bool) (c:Heap) (e:Value->Heap->Prop):Prop:=
 IfB J
 (e (vT ⟨[(vP none),(vS none 0 0),(vI wI 2)]⟩) c)
 (∃f,c.cell ⟨a,1,none⟩=some (vI wI f)∧
 ∃g,c.cell ⟨a,0,none⟩=some (vI wI g)∧
 NewW c (Obj.cells ⟨[(vI wI 2),(vI wI f),(vI wI g),(vI vU H),(vP none),(vP none),(vB false),(vB false),(vB false),(vB false),(vI wI I),(vI wI (-1))]⟩ Zhs) fun d b=>
 ∃h,b.cell ⟨a,0,none⟩=some (vI wI h)∧∃i,b.cell ⟨a,1,none⟩=some (vI wI i)∧∃j,b.cell ⟨a,2,none⟩=some (vI vU j)∧∃k,b.cell ⟨a,3,none⟩=some (vI vU k)∧∃l,b.cell ⟨a,4,none⟩=some (vI wI l)∧∃m,b.cell ⟨a,5,none⟩=some (vI wI m)∧∃n,b.cell ⟨a,6,none⟩=some (vI wI n)∧∃o,b.cell ⟨a,7,none⟩=some (vI wI o)∧∃p r q,b.cell ⟨a,8,none⟩=some (vS p r q)∧FnW wP Zmj ⟨[(vP (some ⟨d,0,none⟩)),(vA ⟨[(vI wI h),(vI wI i),(vI vU j),(vI vU k),(vI wI l),(vI wI m),(vI wI n),(vI wI o),(vS p r q)]⟩)]⟩ b fun K D=>
 K=vT ⟨[]⟩∧
 FnW wP Zpv ⟨[(vP (some ⟨d,0,none⟩))]⟩ D fun L E=>
 ∃s,∃t:Int,∃u:Int,∃v:Int,∃w:Int,∃x:Int,∃y:Int,∃z:Int,∃(A:Option Addr) (C B:Nat),L=(vA ⟨[(vI wI s),(vI wI t),(vI vU u),(vI vU v),(vI wI w),(vI wI x),(vI wI y),(vI wI z),(vS A C B)]⟩)∧
 NewW E (Obj.cells ⟨[(vI wI s),(vI wI t),(vI vU u),(vI vU v),(vI wI w),(vI wI x),(vI wI y),(vI wI z),(vS A C B)]⟩ Zr) fun M F=>
 FnW wP Zpw ⟨[(vP (some ⟨d,0,none⟩))]⟩ F fun N G=>
 N=vT ⟨[]⟩∧
 e (vT ⟨[(vP (some ⟨d,0,none⟩)),(vS (some ⟨M,0,none⟩) 1 1),(vI wI 0)]⟩) G)
def Zboj (g c6 c7 c8 c9 d0 d1 d2 d3:Int) (d4:Option Addr) (d6 d5:Nat) (i:Int) (c5:Heap) (h:Value->Heap->Prop):Prop:=
 NewW c5 (Obj.cells ⟨[(vI wI c6),(vI wI c7),(vI vU c8),(vI vU c9),(vI wI d0),(vI wI d1),(vI wI d2),(vI wI d3),(vS d4 d6 d5)]⟩ Zr) fun a f=>
 ∃m,f.cell ⟨a,0,none⟩=some (vI wI m)∧∃n,f.cell ⟨a,1,none⟩=some (vI wI n)∧∃o,f.cell ⟨a,2,none⟩=some (vI vU o)∧∃p,f.cell ⟨a,3,none⟩=some (vI vU p)∧∃q,f.cell ⟨a,4,none⟩=some (vI wI q)∧∃r,f.cell ⟨a,5,none⟩=some (vI wI r)∧∃s,f.cell ⟨a,6,none⟩=some (vI wI s)∧∃t,f.cell ⟨a,7,none⟩=some (vI wI t)∧∃u w v,f.cell ⟨a,8,none⟩=some (vS u w v)∧FnW wP Zqg ⟨[(vA ⟨[(vI wI m),(vI wI n),(vI vU o),(vI vU p),(vI wI q),(vI wI r),(vI wI s),(vI wI t),(vS u w v)]⟩)]⟩ f fun d7 k=>
 ∃x,d7=vB x∧
 IfB (!x)
 (Zft g i a true k h)
 (∃y,k.cell ⟨a,0,none⟩=some (vI wI y)∧
 FnW wP Zqf ⟨[(vI wI y)]⟩ k fun d8 l=>
 ∃z,d8=vB z∧
 IfB (!z)
 (Zft g i a true l h)
 (∃A,l.cell ⟨a,1,none⟩=some (vI wI A)∧
 FnW wP Zqf ⟨[(vI wI A)]⟩ l fun d9 b=>
 ∃B,d9=vB B∧
 IfB (!B)
 (Zft g i a true b h)
 (IfB (decide (g<0))
 (Zft g i a true b h)
 (∃C,b.cell ⟨a,0,none⟩=some (vI wI C)∧∃D,b.cell ⟨a,1,none⟩=some (vI wI D)∧∃E,b.cell ⟨a,2,none⟩=some (vI vU E)∧∃F,b.cell ⟨a,3,none⟩=some (vI vU F)∧∃G,b.cell ⟨a,4,none⟩=some (vI wI G)∧∃H,b.cell ⟨a,5,none⟩=some (vI wI H)∧∃I,b.cell ⟨a,6,none⟩=some (vI wI I)∧∃J,b.cell ⟨a,7,none⟩=some (vI wI J)∧∃K M L,b.cell ⟨a,8,none⟩=some (vS K M L)∧FnW wP Zcz ⟨[(vA ⟨[(vI wI C),(vI wI D),(vI vU E),(vI vU F),(vI wI G),(vI wI H),(vI wI I),(vI wI J),(vS K M L)]⟩),(vI wI 2)]⟩ b fun e0 c=>
 ∃N,e0=vB N∧
 IfB (!N)
 (Zft g i a true c h)
 (∃O,c.cell ⟨a,0,none⟩=some (vI wI O)∧∃P,c.cell ⟨a,1,none⟩=some (vI wI P)∧∃Q,c.cell ⟨a,2,none⟩=some (vI vU Q)∧∃R,c.cell ⟨a,3,none⟩=some (vI vU R)∧∃S,c.cell ⟨a,4,none⟩=some (vI wI S)∧∃T,c.cell ⟨a,5,none⟩=some (vI wI T)∧∃U,c.cell ⟨a,6,none⟩=some (vI wI U)∧∃V,c.cell ⟨a,7,none⟩=some (vI wI V)∧∃W Y X,c.cell ⟨a,8,none⟩=some (vS W Y X)∧FnW wP Zcz ⟨[(vA ⟨[(vI wI O),(vI wI P),(vI vU Q),(vI vU R),(vI wI S),(vI wI T),(vI wI U),(vI wI V),(vS W Y X)]⟩),(vI wI 16)]⟩ c fun e1 d=>
 ∃Z,e1=vB Z∧
 IfB Z
 (Zft g i a true d h)
 (∃a0,d.cell ⟨a,0,none⟩=some (vI wI a0)∧∃a1,d.cell ⟨a,1,none⟩=some (vI wI a1)∧∃a2,d.cell ⟨a,2,none⟩=some (vI vU a2)∧∃a3,d.cell ⟨a,3,none⟩=some (vI vU a3)∧∃a4,d.cell ⟨a,4,none⟩=some (vI wI a4)∧∃a5,d.cell ⟨a,5,none⟩=some (vI wI a5)∧∃a6,d.cell ⟨a,6,none⟩=some (vI wI a6)∧∃a7,d.cell ⟨a,7,none⟩=some (vI wI a7)∧∃a8 b0 a9,d.cell ⟨a,8,none⟩=some (vS a8 b0 a9)∧FnW wP Zcz ⟨[(vA ⟨[(vI wI a0),(vI wI a1),(vI vU a2),(vI vU a3),(vI wI a4),(vI wI a5),(vI wI a6),(vI wI a7),(vS a8 b0 a9)]⟩),(vI wI 4)]⟩ d fun e2 e=>
 ∃b1,e2=vB b1∧
 IfB b1
 (Zft g i a true e h)
 (∃b2,e.cell ⟨a,0,none⟩=some (vI wI b2)∧∃b3,e.cell ⟨a,1,none⟩=some (vI wI b3)∧∃b4,e.cell ⟨a,2,none⟩=some (vI vU b4)∧∃b5,e.cell ⟨a,3,none⟩=some (vI vU b5)∧∃b6,e.cell ⟨a,4,none⟩=some (vI wI b6)∧∃b7,e.cell ⟨a,5,none⟩=some (vI wI b7)∧∃b8,e.cell ⟨a,6,none⟩=some (vI wI b8)∧∃b9,e.cell ⟨a,7,none⟩=some (vI wI b9)∧∃c0 c2 c1,e.cell ⟨a,8,none⟩=some (vS c0 c2 c1)∧FnW wP Zcz ⟨[(vA ⟨[(vI wI b2),(vI wI b3),(vI vU b4),(vI vU b5),(vI wI b6),(vI wI b7),(vI wI b8),(vI wI b9),(vS c0 c2 c1)]⟩),(vI wI 1)]⟩ e fun e3 j=>
 ∃c3,e3=vB c3∧
 IfB c3
 (Zft g i a true j h)
 (∃e4 c4 e5,j.cell ⟨a,8,none⟩=some (vS e4 c4 e5)∧
 Zft g i a (decide (((c4:Int):Int)>0)) j h))))))))
theorem Zcik (e f g h i j k l m:Int) (n:Option Addr) (p o:Nat) (d:Int) {a:Heap} {c:Value->Heap->Prop} (r:Zboj e f g h i j k l m n p o d a fun s q=>∀b,Shut a q b->c s b):FnW wP Zxr ⟨[(vI wI e),(vA ⟨[(vI wI f),(vI wI g),(vI vU h),(vI vU i),(vI wI j),(vI wI k),(vI wI l),(vI wI m),(vS n p o)]⟩),(vI vU d)]⟩ a c:=Zc Tryz.func57 ⟨[],[],[],[]⟩ (by kernel_rfl) (by kernel_rfl) r
def Zbrs (g2 g3 g4 g5 g6 g7 g8 g9:Int) (h0:Option Addr) (h2 h1:Nat) (d5:Heap) (k:Value->Heap->Prop):Prop:=
 NewW d5 (Obj.cells ⟨[(vI wI g2),(vI wI g3),(vI vU g4),(vI vU g5),(vI wI g6),(vI wI g7),(vI wI g8),(vI wI g9),(vS h0 h2 h1)]⟩ Zr) fun c d6=>
 NewW d6 (Obj.cells ⟨[(vI wI 0),(vI wI 0),(vI vU 0),(vI vU 0),(vI wI 0),(vI wI 0),(vI wI 0),(vI wI 0),(vS none 0 0)]⟩ Zr) fun a g=>
 ∃b1,g.cell ⟨c,0,none⟩=some (vI wI b1)∧∃b2,g.cell ⟨c,1,none⟩=some (vI wI b2)∧∃b3,g.cell ⟨c,2,none⟩=some (vI vU b3)∧∃b4,g.cell ⟨c,3,none⟩=some (vI vU b4)∧∃b5,g.cell ⟨c,4,none⟩=some (vI wI b5)∧∃b6,g.cell ⟨c,5,none⟩=some (vI wI b6)∧∃b7,g.cell ⟨c,6,none⟩=some (vI wI b7)∧∃b8,g.cell ⟨c,7,none⟩=some (vI wI b8)∧∃b9 c1 c0,g.cell ⟨c,8,none⟩=some (vS b9 c1 c0)∧FnW wP Zjv ⟨[(vA ⟨[(vI wI b1),(vI wI b2),(vI vU b3),(vI vU b4),(vI wI b5),(vI wI b6),(vI wI b7),(vI wI b8),(vS b9 c1 c0)]⟩),(vI wI 4)]⟩ g fun h4 e=>
 ∃c2,h4=vB c2∧
 IfB c2
 (Za e ⟨a,0,none⟩ (vI wI 0) fun f5=>
 Za f5 ⟨a,1,none⟩ (vI wI 0) fun f6=>
 Za f6 ⟨a,2,none⟩ (vI vU 0) fun f7=>
 Za f7 ⟨a,3,none⟩ (vI vU 0) fun f8=>
 Za f8 ⟨a,4,none⟩ (vI wI 0) fun f9=>
 Za f9 ⟨a,5,none⟩ (vI wI 0) fun g0=>
 Za g0 ⟨a,6,none⟩ (vI wI 0) fun d7=>
 Za d7 ⟨a,7,none⟩ (vI wI 0) fun d8=>
 Za d8 ⟨a,8,none⟩ (vS none 0 0) fun f=>
 ∃m,f.cell ⟨a,0,none⟩=some (vI wI m)∧∃p,f.cell ⟨a,1,none⟩=some (vI wI p)∧∃s,f.cell ⟨a,2,none⟩=some (vI vU s)∧∃v,f.cell ⟨a,3,none⟩=some (vI vU v)∧∃y,f.cell ⟨a,4,none⟩=some (vI wI y)∧∃B,f.cell ⟨a,5,none⟩=some (vI wI B)∧∃E,f.cell ⟨a,6,none⟩=some (vI wI E)∧∃H,f.cell ⟨a,7,none⟩=some (vI wI H)∧∃K Q N,f.cell ⟨a,8,none⟩=some (vS K Q N)∧k (vT ⟨[(vA ⟨[(vI wI m),(vI wI p),(vI vU s),(vI vU v),(vI wI y),(vI wI B),(vI wI E),(vI wI H),(vS K Q N)]⟩),(vB false)]⟩) f)
 (∃c3,e.cell ⟨c,0,none⟩=some (vI wI c3)∧∃c4,e.cell ⟨c,1,none⟩=some (vI wI c4)∧∃c5,e.cell ⟨c,2,none⟩=some (vI vU c5)∧∃c6,e.cell ⟨c,3,none⟩=some (vI vU c6)∧∃c7,e.cell ⟨c,4,none⟩=some (vI wI c7)∧∃c8,e.cell ⟨c,5,none⟩=some (vI wI c8)∧∃c9,e.cell ⟨c,6,none⟩=some (vI wI c9)∧∃d0,e.cell ⟨c,7,none⟩=some (vI wI d0)∧∃d1 d3 d2,e.cell ⟨c,8,none⟩=some (vS d1 d3 d2)∧FnW wP Zjv ⟨[(vA ⟨[(vI wI c3),(vI wI c4),(vI vU c5),(vI vU c6),(vI wI c7),(vI wI c8),(vI wI c9),(vI wI d0),(vS d1 d3 d2)]⟩),(vI wI 16)]⟩ e fun h5 d=>
 ∃d4,h5=vB d4∧
 IfB d4
 (∃T,d.cell ⟨c,1,none⟩=some (vI wI T)∧
 ∃U,d.cell ⟨c,0,none⟩=some (vI wI U)∧
 ∃V,d.cell ⟨c,3,none⟩=some (vI vU V)∧
 Za d ⟨a,0,none⟩ (vI wI T) fun d9=>
 Za d9 ⟨a,1,none⟩ (vI wI U) fun e0=>
 Za e0 ⟨a,2,none⟩ (vI vU V) fun e1=>
 Za e1 ⟨a,3,none⟩ (vI vU 0) fun e2=>
 Za e2 ⟨a,4,none⟩ (vI wI 4) fun e3=>
 Za e3 ⟨a,5,none⟩ (vI wI 0) fun e4=>
 Za e4 ⟨a,6,none⟩ (vI wI 0) fun e5=>
 Za e5 ⟨a,7,none⟩ (vI wI 0) fun e6=>
 Za e6 ⟨a,8,none⟩ (vS none 0 0) fun h=>
 ∃n,h.cell ⟨a,0,none⟩=some (vI wI n)∧∃q,h.cell ⟨a,1,none⟩=some (vI wI q)∧∃t,h.cell ⟨a,2,none⟩=some (vI vU t)∧∃w,h.cell ⟨a,3,none⟩=some (vI vU w)∧∃z,h.cell ⟨a,4,none⟩=some (vI wI z)∧∃C,h.cell ⟨a,5,none⟩=some (vI wI C)∧∃F,h.cell ⟨a,6,none⟩=some (vI wI F)∧∃I,h.cell ⟨a,7,none⟩=some (vI wI I)∧∃L R O,h.cell ⟨a,8,none⟩=some (vS L R O)∧k (vT ⟨[(vA ⟨[(vI wI n),(vI wI q),(vI vU t),(vI vU w),(vI wI z),(vI wI C),(vI wI F),(vI wI I),(vS L R O)]⟩),(vB true)]⟩) h)
 (∃j:List Nat,(∀b∈j,∃g1,d b=some g1)∧
 c∈j∧∃W,d.cell ⟨c,1,none⟩=some (vI wI W)∧
 c∈j∧∃X,d.cell ⟨c,0,none⟩=some (vI wI X)∧
 c∈j∧∃Y,d.cell ⟨c,2,none⟩=some (vI vU Y)∧
 ∃Z,d.cell ⟨c,0,none⟩=some (vI wI Z)∧∃a0,d.cell ⟨c,1,none⟩=some (vI wI a0)∧∃a1,d.cell ⟨c,2,none⟩=some (vI vU a1)∧∃a2,d.cell ⟨c,3,none⟩=some (vI vU a2)∧∃a3,d.cell ⟨c,4,none⟩=some (vI wI a3)∧∃a4,d.cell ⟨c,5,none⟩=some (vI wI a4)∧∃a5,d.cell ⟨c,6,none⟩=some (vI wI a5)∧∃a6,d.cell ⟨c,7,none⟩=some (vI wI a6)∧∃a7 a9 a8,d.cell ⟨c,8,none⟩=some (vS a7 a9 a8)∧FnW wP Zma ⟨[(vA ⟨[(vI wI Z),(vI wI a0),(vI vU a1),(vI vU a2),(vI wI a3),(vI wI a4),(vI wI a5),(vI wI a6),(vS a7 a9 a8)]⟩)]⟩ d fun h3 l=>
 ∃b0,h3=vI wI b0∧
 Zb j d l∧Za l ⟨a,0,none⟩ (vI wI W) fun e7=>
 Za e7 ⟨a,1,none⟩ (vI wI X) fun e8=>
 Za e8 ⟨a,2,none⟩ (vI vU 0) fun e9=>
 Za e9 ⟨a,3,none⟩ (vI vU (vW vU (vW .u64 ((vW .u64 Y)+(vW .u64 b0))))) fun f0=>
 Za f0 ⟨a,4,none⟩ (vI wI 20) fun f1=>
 Za f1 ⟨a,5,none⟩ (vI wI 0) fun f2=>
 Za f2 ⟨a,6,none⟩ (vI wI 0) fun f3=>
 Za f3 ⟨a,7,none⟩ (vI wI 0) fun f4=>
 Za f4 ⟨a,8,none⟩ (vS none 0 0) fun i=>
 ∃o,i.cell ⟨a,0,none⟩=some (vI wI o)∧∃r,i.cell ⟨a,1,none⟩=some (vI wI r)∧∃u,i.cell ⟨a,2,none⟩=some (vI vU u)∧∃x,i.cell ⟨a,3,none⟩=some (vI vU x)∧∃A,i.cell ⟨a,4,none⟩=some (vI wI A)∧∃D,i.cell ⟨a,5,none⟩=some (vI wI D)∧∃G,i.cell ⟨a,6,none⟩=some (vI wI G)∧∃J,i.cell ⟨a,7,none⟩=some (vI wI J)∧∃M S P,i.cell ⟨a,8,none⟩=some (vS M S P)∧k (vT ⟨[(vA ⟨[(vI wI o),(vI wI r),(vI vU u),(vI vU x),(vI wI A),(vI wI D),(vI wI G),(vI wI J),(vS M S P)]⟩),(vB true)]⟩) i))
theorem Zcky (d e f g h i j k:Int) (l:Option Addr) (n m:Nat) {a:Heap} {c:Value->Heap->Prop} (p:Zbrs d e f g h i j k l n m a fun q o=>∀b,Shut a o b->c q b):FnW wP Zqe ⟨[(vA ⟨[(vI wI d),(vI wI e),(vI vU f),(vI vU g),(vI wI h),(vI wI i),(vI wI j),(vI wI k),(vS l n m)]⟩)]⟩ a c:=Zc Tryz.func58 ⟨[(5,[0,1,2,3,4,5,6,7,8,9,10,11,12,13,14],[17,19,21])],[],[],[]⟩ (by kernel_rfl) (by kernel_rfl) p
def Zbrw (c:Int) (a:Heap) (b:Value->Heap->Prop):Prop:=
 IfB (decide (c≥1))
 (b (vB (decide (c <= 65535))) a)
 (b (vB false) a)
theorem Zckz (d:Int) {a:Heap} {c:Value->Heap->Prop} (f:Zbrw d a fun g e=>∀b,Shut a e b->c g b):FnW wP Zqf ⟨[(vI wI d)]⟩ a c:=Zc Tryz.func78 ⟨[],[],[],[]⟩ (by kernel_rfl) (by kernel_rfl) f
def Ztv (f e g d:Int) (h:Bool) (a:Heap) (b:Value->Heap->Prop):Prop:=
 IfB h
 (b (vT ⟨[(vP none),(vI wI 2)]⟩) a)
 (NewW a (Obj.cells ⟨[(vI vU f),(vS none 0 0),(vI wI 0),(vI wI e),(vI wI g),(vI wI d),(vI wI 0),(vI wI 0),(vI wI 0),(vI wI 0),(vB false),(vB false),(vI vU 0),(vI wI 0)]⟩ Zvb) fun i c=>
 b (vT ⟨[(vP (some ⟨i,0,none⟩)),(vI wI 0)]⟩) c)
def Zbpq (e b c a:Int) (k:Heap) (d:Value->Heap->Prop):Prop:=
 FnW wP Zjw ⟨[(vI wI b),(vI wI 1)]⟩ k fun m f=>
 ∃h,m=vB h∧
 IfB (!h)
 (Ztv e b c a true f d)
 (FnW wP Zjw ⟨[(vI wI c),(vI wI 0)]⟩ f fun n g=>
 ∃i,n=vB i∧
 IfB (!i)
 (Ztv e b c a true g d)
 (FnW wP Zjw ⟨[(vI wI a),(vI wI 1)]⟩ g fun o l=>
 ∃j,o=vB j∧
 Ztv e b c a (!j) l d))
theorem Zcji (f e g d:Int) {a:Heap} {c:Value->Heap->Prop} (i:Zbpq f e g d a fun j h=>∀b,Shut a h b->c j b):FnW wP Zya ⟨[(vI vU f),(vI wI e),(vI wI g),(vI wI d)]⟩ a c:=Zc Tryz.func79 ⟨[],[],[],[]⟩ (by kernel_rfl) (by kernel_rfl) i
def Zbku (c d:Int) (a:Heap) (b:Value->Heap->Prop):Prop:=
 b (vI vU (vW vU (vW .u64 ((vW .u64 c)+(vW .u64 d))))) a
theorem Zcei (d e:Int) {a:Heap} {c:Value->Heap->Prop} (g:Zbku d e a fun h f=>∀b,Shut a f b->c h b):FnW wP Zdm ⟨[(vI vU d),(vI wI e)]⟩ a c:=Zc Tryz.func80 ⟨[],[],[],[]⟩ (by kernel_rfl) (by kernel_rfl) g
def Zuj (a d:Nat) (b:Heap) (I:Value->Heap->Prop):Prop:=
 ∃p,b.cell ⟨d,0,none⟩=some (vI wI p)∧∃q,b.cell ⟨d,1,none⟩=some (vI wI q)∧∃r,b.cell ⟨d,2,none⟩=some (vI vU r)∧∃s,b.cell ⟨d,3,none⟩=some (vI vU s)∧∃t,b.cell ⟨d,4,none⟩=some (vI wI t)∧∃u,b.cell ⟨d,5,none⟩=some (vI wI u)∧∃v,b.cell ⟨d,6,none⟩=some (vI wI v)∧∃w,b.cell ⟨d,7,none⟩=some (vI wI w)∧∃x z y,b.cell ⟨d,8,none⟩=some (vS x z y)∧Za b ⟨a,0,none⟩ (vI wI p) fun A=>
 Za A ⟨a,1,none⟩ (vI wI q) fun B=>
 Za B ⟨a,2,none⟩ (vI vU r) fun C=>
 Za C ⟨a,3,none⟩ (vI vU s) fun D=>
 Za D ⟨a,4,none⟩ (vI wI t) fun E=>
 Za E ⟨a,5,none⟩ (vI wI u) fun F=>
 Za F ⟨a,6,none⟩ (vI wI v) fun G=>
 Za G ⟨a,7,none⟩ (vI wI w) fun H=>
 Za H ⟨a,8,none⟩ (vS x z y) fun c=>
 ∃e,c.cell ⟨a,0,none⟩=some (vI wI e)∧∃f,c.cell ⟨a,1,none⟩=some (vI wI f)∧∃g,c.cell ⟨a,2,none⟩=some (vI vU g)∧∃h,c.cell ⟨a,3,none⟩=some (vI vU h)∧∃i,c.cell ⟨a,4,none⟩=some (vI wI i)∧∃j,c.cell ⟨a,5,none⟩=some (vI wI j)∧∃k,c.cell ⟨a,6,none⟩=some (vI wI k)∧∃l,c.cell ⟨a,7,none⟩=some (vI wI l)∧∃m o n,c.cell ⟨a,8,none⟩=some (vS m o n)∧I (vA ⟨[(vI wI e),(vI wI f),(vI vU g),(vI vU h),(vI wI i),(vI wI j),(vI wI k),(vI wI l),(vS m o n)]⟩) c
def Zbqo (c:Nat) (t:Heap) (e:Value->Heap->Prop):Prop:=
 NewW t (Obj.cells ⟨[(vI wI 0),(vI wI 0),(vI vU 0),(vI vU 0),(vI wI 0),(vI wI 0),(vI wI 0),(vI wI 0),(vS none 0 0)]⟩ Zr) fun g d=>
 ∃h,d.cell ⟨c,3,none⟩=some (vI vU h)∧
 FnW wP Zjx ⟨[(vP (some ⟨c,0,none⟩)),(vI vU h),(vI wI 2),(vS none 0 0)]⟩ d fun G y=>
 ∃i,∃j:Int,∃k:Int,∃l:Int,∃m:Int,∃n:Int,∃o:Int,∃p:Int,∃(q:Option Addr) (s r:Nat),G=(vA ⟨[(vI wI i),(vI wI j),(vI vU k),(vI vU l),(vI wI m),(vI wI n),(vI wI o),(vI wI p),(vS q s r)]⟩)∧
 NewW y (Obj.cells ⟨[(vI wI 0),(vI wI 0),(vI vU 0),(vI vU 0),(vI wI 0),(vI wI 0),(vI wI 0),(vI wI 0),(vS none 0 0)]⟩ Zr) fun a z=>
 Za z ⟨a,0,none⟩ (vI wI i) fun A=>
 Za A ⟨a,1,none⟩ (vI wI j) fun B=>
 Za B ⟨a,2,none⟩ (vI vU k) fun C=>
 Za C ⟨a,3,none⟩ (vI vU l) fun D=>
 Za D ⟨a,4,none⟩ (vI wI m) fun E=>
 Za E ⟨a,5,none⟩ (vI wI n) fun F=>
 Za F ⟨a,6,none⟩ (vI wI o) fun u=>
 Za u ⟨a,7,none⟩ (vI wI p) fun v=>
 Za v ⟨a,8,none⟩ (vS q s r) fun w=>
 Za w ⟨a,7,none⟩ (vI wI 1460) fun b=>
 ∃f,b.cell ⟨c,0,none⟩=some (vI wI f)∧
 IfB (f==2)
 (Za b ⟨a,4,none⟩ (vI wI 18) fun x=>
 Zuj g a x e)
 (Zuj g a b e)
theorem Zckc (d:Nat) {a:Heap} {c:Value->Heap->Prop} (f:Zbqo d a fun g e=>∀b,Shut a e b->c g b):FnW wP Zpv ⟨[(vP (some ⟨d,0,none⟩))]⟩ a c:=Zc Tryz.func81 ⟨[],[],[],[]⟩ (by kernel_rfl) (by kernel_rfl) f
def Zuk (c:Nat) (o:Bool) (a:Heap) (d:Value->Heap->Prop):Prop:=
 IfB o
 (Za a ⟨c,11,none⟩ (vI wI (-1)) fun l=>
 d (vT ⟨[]⟩) l)
 (∃g,a.cell ⟨c,11,none⟩=some (vI wI g)∧
 IfB (decide (g<0))
 (∃e:List Nat,(∀b∈e,∃n,a b=some n)∧
 c∈e∧∃h,a.cell ⟨c,10,none⟩=some (vI wI h)∧
 ∃i,a.cell ⟨c,4,none⟩=some (vP i)∧
 NilP i fun j=>
 FnW wP Zyb ⟨[(vP (some ⟨j.block,j.off+7,none⟩))]⟩ a fun p f=>
 ∃k,p=vI wI k∧
 Zb e a f∧Za f ⟨c,11,none⟩ (vI wI (vW wI (h+k))) fun m=>
 d (vT ⟨[]⟩) m)
 (d (vT ⟨[]⟩) a))
def Zbqp (b:Nat) (a:Heap) (c:Value->Heap->Prop):Prop:=
 ∃f,a.cell ⟨b,0,none⟩=some (vI wI f)∧
 IfB (f==9)
 (c (vT ⟨[]⟩) a)
 (∃d,a.cell ⟨b,0,none⟩=some (vI wI d)∧
 IfB (d==0)
 (Zuk b true a c)
 (FnW wP Zwy ⟨[(vP (some ⟨b,0,none⟩))]⟩ a fun h g=>
 ∃e,h=vB e∧
 Zuk b (!e) g c))
theorem Zckd (d:Nat) {a:Heap} {c:Value->Heap->Prop} (f:Zbqp d a fun g e=>∀b,Shut a e b->c g b):FnW wP Zpw ⟨[(vP (some ⟨d,0,none⟩))]⟩ a c:=Zc Tryz.func82 ⟨[(4,[0,1,2,3,4,5,6,7,8,9,10,11,12,13,14,15],[29])],[],[],[]⟩ (by kernel_rfl) (by kernel_rfl) f
def Zbpe (a c:Int) (b:Heap) (e:(Int×Int×Unit)->Heap->Prop) (d:Value->Heap->Prop):Prop:=
 IfB (decide (c<3))
 ((65536:Int)≠0∧
 (65536:Int)≠0∧
 e ((vW vU ((Int.tmod a 65536)+(vW vU (Int.tdiv a 65536)))),((vW wI (c+1)),())) b)
 (d (vI vU a) b)
def Zbpf (d:Int) (a:Heap) (c:Value->Heap->Prop):Prop:=
 Zbe (Int×Int×Unit) (d,(0,())) a fun b a e=>∀f:Env,Zbpe b.1 b.2.1 a e c
theorem Zcja (d:Int) {a:Heap} {c:Value->Heap->Prop} (f:Zbpf d a fun g e=>∀b,Shut a e b->c g b):FnW wP Zmb ⟨[(vI vU d)]⟩ a c:=Zc Tryz.func83 ⟨[],[(2,[0,3],[.int vU,.int wI],[])],[],[]⟩ (by kernel_rfl) (by kernel_rfl) f
def Zsr (f:Option Addr) (g l:Nat) (b:Int) (e:(Int×Int×Unit)->Heap->Prop) (d:Int) (a:Heap) (k:Value->Heap->Prop):Prop:=
 NilP f fun j=>
 InB (vW wI (b+1)) g fun h=>
 elemAt j h 1 fun i=>
 ∃c,a.cell i=some (vI wU c)∧
 e (d,((vW wI (b+(vW wI c))),())) a
def Ziu (b:Option Addr) (g c:Nat) (n a:Int) (h:(Int×Int×Unit)->Heap->Prop) (o:Bool) (d:Heap) (f:Value->Heap->Prop):Prop:=
 IfB o
 (f (vT ⟨[(vI wI 0),(vB false)]⟩) d)
 (NilP b fun r=>
 InB a g fun p=>
 elemAt r p 1 fun q=>
 ∃i,d.cell q=some (vI wU i)∧
 IfB (i==2)
 (InC (vW wI (a+4)) c fun j=>
 InC (vW wI (a+2)) j fun e=>
 FnW wP Zq ⟨[(vS (if c=e then b else vM (fun m=>Addr.add m (e*1)) b) (j - e) (c - e))]⟩ d fun s l=>
 ∃k,s=vI wI k∧
 Zsr b g c a h k l f)
 (Zsr b g c a h n d f))
def Zbnr (d:Option Addr) (c h:Nat) (e a:Int) (b:Heap) (g:(Int×Int×Unit)->Heap->Prop) (f:Value->Heap->Prop):Prop:=
 IfB (decide (a<(c:Int)))
 (NilP d fun q=>
 InB a c fun o=>
 elemAt q o 1 fun p=>
 ∃i,b.cell p=some (vI wU i)∧
 IfB (i==0)
 (f (vT ⟨[(vI wI e),(vB true)]⟩) b)
 (NilP d fun t=>
 InB a c fun r=>
 elemAt t r 1 fun s=>
 ∃j,b.cell s=some (vI wU j)∧
 IfB (j==1)
 (g (e,((vW wI (a+1)),())) b)
 (IfB (decide (((vW wI (a+1)):Int)≥(c:Int)))
 (Ziu d c h e a g true b f)
 (NilP d fun w=>
 InB (vW wI (a+1)) c fun u=>
 elemAt w u 1 fun v=>
 ∃k,b.cell v=some (vI wU k)∧
 IfB (decide (k<2))
 (Ziu d c h e a g true b f)
 (NilP d fun z=>
 InB (vW wI (a+1)) c fun x=>
 elemAt z x 1 fun y=>
 ∃l,b.cell y=some (vI wU l)∧
 IfB (decide (((vW wI l):Int)>(vW wI ((c:Int) - a))))
 (Ziu d c h e a g true b f)
 (NilP d fun C=>
 InB a c fun A=>
 elemAt C A 1 fun B=>
 ∃m,b.cell B=some (vI wU m)∧
 IfB (m==2)
 (NilP d fun F=>
 InB (vW wI (a+1)) c fun D=>
 elemAt F D 1 fun E=>
 ∃n,b.cell E=some (vI wU n)∧
 Ziu d c h e a g (n !=4) b f)
 (Ziu d c h e a g false b f)))))))
 (f (vT ⟨[(vI wI e),(vB true)]⟩) b)
def Zbns (e:Option Addr) (g f:Nat) (a:Heap) (c:Value->Heap->Prop):Prop:=
 Zbe (Int×Int×Unit) (0,(0,())) a fun b a d=>∀h:Env,Zbnr e g f b.1 b.2.1 a d c
theorem Zchx (d:Option Addr) (f e:Nat) {a:Heap} {c:Value->Heap->Prop} (h:Zbns d f e a fun i g=>∀b,Shut a g b->c i b):FnW wP Zxn ⟨[(vS d f e)]⟩ a c:=Zc Tryz.func92 ⟨[],[(3,[4,5],[.int wI,.int wI],[0])],[],[]⟩ (by kernel_rfl) (by kernel_rfl) h
def Zbjq (b:Option Addr) (c m:Nat) (a:Heap) (f:Value->Heap->Prop):Prop:=
 NilP b fun i=>
 InB 0 c fun g=>
 elemAt i g 1 fun h=>
 ∃e,a.cell h=some (vI wU e)∧
 NilP b fun l=>
 InB 1 c fun j=>
 elemAt l j 1 fun k=>
 ∃d,a.cell k=some (vI wU d)∧
 f (vI wI (vW wI ((vW wI (256*(vW wI e)))+(vW wI d)))) a
theorem Zcdo (d:Option Addr) (f e:Nat) {a:Heap} {c:Value->Heap->Prop} (h:Zbjq d f e a fun i g=>∀b,Shut a g b->c i b):FnW wP Zq ⟨[(vS d f e)]⟩ a c:=Zc Tryz.func93 ⟨[],[],[],[]⟩ (by kernel_rfl) (by kernel_rfl) h
def Zbry (r s t u v w x y:Int) (z:Option Addr) (B A:Nat) (o:Heap) (q:Value->Heap->Prop):Prop:=
 NewW o (Obj.cells ⟨[(vI wI r),(vI wI s),(vI vU t),(vI vU u),(vI wI v),(vI wI w),(vI wI x),(vI wI y),(vS z B A)]⟩ Zr) fun b a=>
 ∃c,a.cell ⟨b,0,none⟩=some (vI wI c)∧∃d,a.cell ⟨b,1,none⟩=some (vI wI d)∧∃e,a.cell ⟨b,2,none⟩=some (vI vU e)∧∃f,a.cell ⟨b,3,none⟩=some (vI vU f)∧∃g,a.cell ⟨b,4,none⟩=some (vI wI g)∧∃h,a.cell ⟨b,5,none⟩=some (vI wI h)∧∃i,a.cell ⟨b,6,none⟩=some (vI wI i)∧∃j,a.cell ⟨b,7,none⟩=some (vI wI j)∧∃k m l,a.cell ⟨b,8,none⟩=some (vS k m l)∧FnW wP Zlw ⟨[(vI vU 0),(vI vU 0),(vA ⟨[(vI wI c),(vI wI d),(vI vU e),(vI vU f),(vI wI g),(vI wI h),(vI wI i),(vI wI j),(vS k m l)]⟩)]⟩ a fun F p=>
 ∃C E D,∃n:Int,F=(vT ⟨[(vS C E D),(vI wI n)]⟩)∧
 q (vB (n==0)) p
theorem Zcla (d e f g h i j k:Int) (l:Option Addr) (n m:Nat) {a:Heap} {c:Value->Heap->Prop} (p:Zbry d e f g h i j k l n m a fun q o=>∀b,Shut a o b->c q b):FnW wP Zqg ⟨[(vA ⟨[(vI wI d),(vI wI e),(vI vU f),(vI vU g),(vI wI h),(vI wI i),(vI wI j),(vI wI k),(vS l n m)]⟩)]⟩ a c:=Zc Tryz.func94 ⟨[],[],[],[]⟩ (by kernel_rfl) (by kernel_rfl) p
def Zuo (f a:Nat) (h4:Bool) (b:Heap) (g:Value->Heap->Prop):Prop:=
 IfB h4
 (∃o,b.cell ⟨a,0,none⟩=some (vI wI o)∧∃p,b.cell ⟨a,1,none⟩=some (vI wI p)∧∃q,b.cell ⟨a,2,none⟩=some (vI vU q)∧∃r,b.cell ⟨a,3,none⟩=some (vI vU r)∧∃s,b.cell ⟨a,4,none⟩=some (vI wI s)∧∃t,b.cell ⟨a,5,none⟩=some (vI wI t)∧∃u,b.cell ⟨a,6,none⟩=some (vI wI u)∧∃v,b.cell ⟨a,7,none⟩=some (vI wI v)∧∃w y x,b.cell ⟨a,8,none⟩=some (vS w y x)∧FnW wP Zom ⟨[(vA ⟨[(vI wI o),(vI wI p),(vI vU q),(vI vU r),(vI wI s),(vI wI t),(vI wI u),(vI wI v),(vS w y x)]⟩)]⟩ b fun h5 h2=>
 ∃z B A,h5=vS z B A∧
 g (vT ⟨[(vS z B A),(vI wI 0)]⟩) h2)
 (∃C,b.cell ⟨a,0,none⟩=some (vI wI C)∧∃D,b.cell ⟨a,1,none⟩=some (vI wI D)∧∃E,b.cell ⟨a,2,none⟩=some (vI vU E)∧∃F,b.cell ⟨a,3,none⟩=some (vI vU F)∧∃G,b.cell ⟨a,4,none⟩=some (vI wI G)∧∃H,b.cell ⟨a,5,none⟩=some (vI wI H)∧∃I,b.cell ⟨a,6,none⟩=some (vI wI I)∧∃J,b.cell ⟨a,7,none⟩=some (vI wI J)∧∃K M L,b.cell ⟨a,8,none⟩=some (vS K M L)∧FnW wP Zcz ⟨[(vA ⟨[(vI wI C),(vI wI D),(vI vU E),(vI vU F),(vI wI G),(vI wI H),(vI wI I),(vI wI J),(vS K M L)]⟩),(vI wI 4)]⟩ b fun h6 c=>
 ∃N,h6=vB N∧
 IfB N
 (∃O,c.cell ⟨a,0,none⟩=some (vI wI O)∧∃P,c.cell ⟨a,1,none⟩=some (vI wI P)∧∃Q,c.cell ⟨a,2,none⟩=some (vI vU Q)∧∃R,c.cell ⟨a,3,none⟩=some (vI vU R)∧∃S,c.cell ⟨a,4,none⟩=some (vI wI S)∧∃T,c.cell ⟨a,5,none⟩=some (vI wI T)∧∃U,c.cell ⟨a,6,none⟩=some (vI wI U)∧∃V,c.cell ⟨a,7,none⟩=some (vI wI V)∧∃W Y X,c.cell ⟨a,8,none⟩=some (vS W Y X)∧FnW wP Zcz ⟨[(vA ⟨[(vI wI O),(vI wI P),(vI vU Q),(vI vU R),(vI wI S),(vI wI T),(vI wI U),(vI wI V),(vS W Y X)]⟩),(vI wI 16)]⟩ c fun h7 n=>
 ∃Z,h7=vB Z∧
 IfB (!Z)
 (g (vT ⟨[(vS none 0 0),(vI wI 0)]⟩) n)
 (FnW wP Zls ⟨[(vP (some ⟨f,0,none⟩))]⟩ n fun h8 h3=>
 h8=vT ⟨[]⟩∧
 g (vT ⟨[(vS none 0 0),(vI wI 151)]⟩) h3))
 (∃a0,c.cell ⟨a,0,none⟩=some (vI wI a0)∧∃a1,c.cell ⟨a,1,none⟩=some (vI wI a1)∧∃a2,c.cell ⟨a,2,none⟩=some (vI vU a2)∧∃a3,c.cell ⟨a,3,none⟩=some (vI vU a3)∧∃a4,c.cell ⟨a,4,none⟩=some (vI wI a4)∧∃a5,c.cell ⟨a,5,none⟩=some (vI wI a5)∧∃a6,c.cell ⟨a,6,none⟩=some (vI wI a6)∧∃a7,c.cell ⟨a,7,none⟩=some (vI wI a7)∧∃a8 b0 a9,c.cell ⟨a,8,none⟩=some (vS a8 b0 a9)∧FnW wP Zcz ⟨[(vA ⟨[(vI wI a0),(vI wI a1),(vI vU a2),(vI vU a3),(vI wI a4),(vI wI a5),(vI wI a6),(vI wI a7),(vS a8 b0 a9)]⟩),(vI wI 2)]⟩ c fun h9 d=>
 ∃b1,h9=vB b1∧
 IfB (!b1)
 (g (vT ⟨[(vS none 0 0),(vI wI 0)]⟩) d)
 (∃b2,d.cell ⟨a,0,none⟩=some (vI wI b2)∧∃b3,d.cell ⟨a,1,none⟩=some (vI wI b3)∧∃b4,d.cell ⟨a,2,none⟩=some (vI vU b4)∧∃b5,d.cell ⟨a,3,none⟩=some (vI vU b5)∧∃b6,d.cell ⟨a,4,none⟩=some (vI wI b6)∧∃b7,d.cell ⟨a,5,none⟩=some (vI wI b7)∧∃b8,d.cell ⟨a,6,none⟩=some (vI wI b8)∧∃b9,d.cell ⟨a,7,none⟩=some (vI wI b9)∧∃c0 c2 c1,d.cell ⟨a,8,none⟩=some (vS c0 c2 c1)∧FnW wP Zmj ⟨[(vP (some ⟨f,0,none⟩)),(vA ⟨[(vI wI b2),(vI wI b3),(vI vU b4),(vI vU b5),(vI wI b6),(vI wI b7),(vI wI b8),(vI wI b9),(vS c0 c2 c1)]⟩)]⟩ d fun i0 e=>
 i0=vT ⟨[]⟩∧
 ∃c3,e.cell ⟨a,0,none⟩=some (vI wI c3)∧∃c4,e.cell ⟨a,1,none⟩=some (vI wI c4)∧∃c5,e.cell ⟨a,2,none⟩=some (vI vU c5)∧∃c6,e.cell ⟨a,3,none⟩=some (vI vU c6)∧∃c7,e.cell ⟨a,4,none⟩=some (vI wI c7)∧∃c8,e.cell ⟨a,5,none⟩=some (vI wI c8)∧∃c9,e.cell ⟨a,6,none⟩=some (vI wI c9)∧∃d0,e.cell ⟨a,7,none⟩=some (vI wI d0)∧∃d1 d3 d2,e.cell ⟨a,8,none⟩=some (vS d1 d3 d2)∧FnW wP Zcz ⟨[(vA ⟨[(vI wI c3),(vI wI c4),(vI vU c5),(vI vU c6),(vI wI c7),(vI wI c8),(vI wI c9),(vI wI d0),(vS d1 d3 d2)]⟩),(vI wI 16)]⟩ e fun i1 l=>
 ∃d4,i1=vB d4∧
 IfB (!d4)
 (Za l ⟨f,0,none⟩ (vI wI 2) fun g4=>
 FnW wP Zpv ⟨[(vP (some ⟨f,0,none⟩))]⟩ g4 fun i2 g5=>
 ∃d5,∃d6:Int,∃d7:Int,∃d8:Int,∃d9:Int,∃e0:Int,∃e1:Int,∃e2:Int,∃(e3:Option Addr) (e5 e4:Nat),i2=(vA ⟨[(vI wI d5),(vI wI d6),(vI vU d7),(vI vU d8),(vI wI d9),(vI wI e0),(vI wI e1),(vI wI e2),(vS e3 e5 e4)]⟩)∧
 NewW g5 (Obj.cells ⟨[(vI wI d5),(vI wI d6),(vI vU d7),(vI vU d8),(vI wI d9),(vI wI e0),(vI wI e1),(vI wI e2),(vS e3 e5 e4)]⟩ Zr) fun i3 g6=>
 g (vT ⟨[(vS (some ⟨i3,0,none⟩) 1 1),(vI wI 0)]⟩) g6)
 (Za l ⟨f,0,none⟩ (vI wI 3) fun g7=>
 FnW wP Zjm ⟨[(vP (some ⟨f,0,none⟩))]⟩ g7 fun i4 h=>
 i4=vT ⟨[]⟩∧
 ∃e6,h.cell ⟨f,4,none⟩=some (vP e6)∧
 ∃e7,h.cell ⟨f,10,none⟩=some (vI wI e7)∧
 ∃e8,h.cell ⟨a,3,none⟩=some (vI vU e8)∧
 ∃e9,h.cell ⟨a,5,none⟩=some (vI wI e9)∧
 FnW wP Zjs ⟨[(vP e6),(vI wI e7),(vI vU e8),(vI wI e9)]⟩ h fun i7 g8=>
 ∃i5,∃i6:Int,i7=(vT ⟨[(vI wI i5),(vI wI i6)]⟩)∧
 FnW wP Zpr ⟨[(vP (some ⟨f,0,none⟩))]⟩ g8 fun i8 m=>
 ∃j i k,i8=vS j i k∧
 IfB (((i:Int):Int)==0)
 (FnW wP Zfa ⟨[(vP (some ⟨f,0,none⟩))]⟩ m fun i9 g9=>
 ∃f0,∃f1:Int,∃f2:Int,∃f3:Int,∃f4:Int,∃f5:Int,∃f6:Int,∃f7:Int,∃(f8:Option Addr) (g0 f9:Nat),i9=(vA ⟨[(vI wI f0),(vI wI f1),(vI vU f2),(vI vU f3),(vI wI f4),(vI wI f5),(vI wI f6),(vI wI f7),(vS f8 g0 f9)]⟩)∧
 NewW g9 (Obj.cells ⟨[(vI wI f0),(vI wI f1),(vI vU f2),(vI vU f3),(vI wI f4),(vI wI f5),(vI wI f6),(vI wI f7),(vS f8 g0 f9)]⟩ Zr) fun j0 h0=>
 AppW wP #[Zcx,Zcx] Zcx [(vS j i k),(vS (some ⟨j0,0,none⟩) 1 1)] h0 fun j1 h1=>
 ∃g1 g3 g2,j1=vS g1 g3 g2∧
 g (vT ⟨[(vS g1 g3 g2),(vI wI 0)]⟩) h1)
 (g (vT ⟨[(vS j i k),(vI wI 0)]⟩) m)))))
def Zbra (f:Nat) (z A B C D E F G:Int) (H:Option Addr) (J I:Nat) (x:Heap) (h:Value->Heap->Prop):Prop:=
 NewW x (Obj.cells ⟨[(vI wI z),(vI wI A),(vI vU B),(vI vU C),(vI wI D),(vI wI E),(vI wI F),(vI wI G),(vS H J I)]⟩ Zr) fun c a=>
 ∃e:List Nat,(∀b∈e,∃y,a b=some y)∧
 ∃l,a.cell ⟨c,0,none⟩=some (vI wI l)∧∃m,a.cell ⟨c,1,none⟩=some (vI wI m)∧∃n,a.cell ⟨c,2,none⟩=some (vI vU n)∧∃o,a.cell ⟨c,3,none⟩=some (vI vU o)∧∃p,a.cell ⟨c,4,none⟩=some (vI wI p)∧∃q,a.cell ⟨c,5,none⟩=some (vI wI q)∧∃r,a.cell ⟨c,6,none⟩=some (vI wI r)∧∃s,a.cell ⟨c,7,none⟩=some (vI wI s)∧∃t v u,a.cell ⟨c,8,none⟩=some (vS t v u)∧FnW wP Zcz ⟨[(vA ⟨[(vI wI l),(vI wI m),(vI vU n),(vI vU o),(vI wI p),(vI wI q),(vI wI r),(vI wI s),(vS t v u)]⟩),(vI wI 16)]⟩ a fun L d=>
 ∃w,L=vB w∧
 Zb e a d∧IfB w
 (c∈e∧∃i,a.cell ⟨c,3,none⟩=some (vI vU i)∧
 ∃j,d.cell ⟨f,3,none⟩=some (vI vU j)∧
 FnW wP Zdm ⟨[(vI vU j),(vI wI 1)]⟩ d fun K g=>
 ∃k,K=vI vU k∧
 Zb e a g∧Zuo f c (i !=k) g h)
 (Zuo f c false d h)
theorem Zckm (d:Nat) (e f g h i j k l:Int) (m:Option Addr) (o n:Nat) {a:Heap} {c:Value->Heap->Prop} (q:Zbra d e f g h i j k l m o n a fun r p=>∀b,Shut a p b->c r b):FnW wP Zyl ⟨[(vP (some ⟨d,0,none⟩)),(vA ⟨[(vI wI e),(vI wI f),(vI vU g),(vI vU h),(vI wI i),(vI wI j),(vI wI k),(vI wI l),(vS m o n)]⟩)]⟩ a c:=Zc Tryz.func95 ⟨[(1,[0,1,2,3,4,5,6,7,8,9,10,11],[11])],[],[],[]⟩ (by kernel_rfl) (by kernel_rfl) q
def Zto (w:Nat) (c:Option Addr) (e d:Nat) (x:Bool) (a:Heap) (b:Value->Heap->Prop):Prop:=
 IfB x
 (FnW wP Zfa ⟨[(vP (some ⟨w,0,none⟩))]⟩ a fun y t=>
 ∃f,∃g:Int,∃h:Int,∃i:Int,∃j:Int,∃k:Int,∃l:Int,∃m:Int,∃(n:Option Addr) (p o:Nat),y=(vA ⟨[(vI wI f),(vI wI g),(vI vU h),(vI vU i),(vI wI j),(vI wI k),(vI wI l),(vI wI m),(vS n p o)]⟩)∧
 NewW t (Obj.cells ⟨[(vI wI f),(vI wI g),(vI vU h),(vI vU i),(vI wI j),(vI wI k),(vI wI l),(vI wI m),(vS n p o)]⟩ Zr) fun z u=>
 AppW wP #[Zcx,Zcx] Zcx [(vS c e d),(vS (some ⟨z,0,none⟩) 1 1)] u fun A v=>
 ∃q s r,A=vS q s r∧
 b (vT ⟨[(vS q s r),(vI wI 0)]⟩) v)
 (b (vT ⟨[(vS c e d),(vI wI 0)]⟩) a)
def Ztn (d a:Nat) (b:Heap) (f:Value->Heap->Prop):Prop:=
 ∃u,b.cell ⟨d,0,none⟩=some (vI wI u)∧
 IfB (u==0)
 (f (vT ⟨[(vS none 0 0),(vI wI 0)]⟩) b)
 (∃v,b.cell ⟨a,0,none⟩=some (vI wI v)∧∃w,b.cell ⟨a,1,none⟩=some (vI wI w)∧∃x,b.cell ⟨a,2,none⟩=some (vI vU x)∧∃y,b.cell ⟨a,3,none⟩=some (vI vU y)∧∃z,b.cell ⟨a,4,none⟩=some (vI wI z)∧∃A,b.cell ⟨a,5,none⟩=some (vI wI A)∧∃B,b.cell ⟨a,6,none⟩=some (vI wI B)∧∃C,b.cell ⟨a,7,none⟩=some (vI wI C)∧∃D F E,b.cell ⟨a,8,none⟩=some (vS D F E)∧FnW wP Zxw ⟨[(vP (some ⟨d,0,none⟩)),(vA ⟨[(vI wI v),(vI wI w),(vI vU x),(vI vU y),(vI wI z),(vI wI A),(vI wI B),(vI wI C),(vS D F E)]⟩)]⟩ b fun K G=>
 K=vT ⟨[]⟩∧
 FnW wP Zpr ⟨[(vP (some ⟨d,0,none⟩))]⟩ G fun I c=>
 ∃g e h,I=vS g e h∧
 IfB (((e:Int):Int)==0)
 (∃i,c.cell ⟨a,0,none⟩=some (vI wI i)∧∃j,c.cell ⟨a,1,none⟩=some (vI wI j)∧∃k,c.cell ⟨a,2,none⟩=some (vI vU k)∧∃l,c.cell ⟨a,3,none⟩=some (vI vU l)∧∃m,c.cell ⟨a,4,none⟩=some (vI wI m)∧∃n,c.cell ⟨a,5,none⟩=some (vI wI n)∧∃o,c.cell ⟨a,6,none⟩=some (vI wI o)∧∃p,c.cell ⟨a,7,none⟩=some (vI wI p)∧∃q s r,c.cell ⟨a,8,none⟩=some (vS q s r)∧FnW wP Zma ⟨[(vA ⟨[(vI wI i),(vI wI j),(vI vU k),(vI vU l),(vI wI m),(vI wI n),(vI wI o),(vI wI p),(vS q s r)]⟩)]⟩ c fun J H=>
 ∃t,J=vI wI t∧
 Zto d g e h (decide (t>0)) H f)
 (Zto d g e h false c f))
def Zboz (d:Nat) (m5 m6 m7 m8 m9 n0 n1 n2:Int) (n3:Option Addr) (n5 n4:Nat) (l2:Heap) (k:Value->Heap->Prop):Prop:=
 NewW l2 (Obj.cells ⟨[(vI wI m5),(vI wI m6),(vI vU m7),(vI vU m8),(vI wI m9),(vI wI n0),(vI wI n1),(vI wI n2),(vS n3 n5 n4)]⟩ Zr) fun a e=>
 ∃g:List Nat,(∀b∈g,∃m,e b=some m)∧
 d∈g∧∃u,e.cell ⟨d,5,none⟩=some (vP u)∧
 a∈g∧∃w,e.cell ⟨a,2,none⟩=some (vI vU w)∧
 a∈g∧∃x,e.cell ⟨a,0,none⟩=some (vI wI x)∧∃y,e.cell ⟨a,1,none⟩=some (vI wI y)∧∃z,e.cell ⟨a,2,none⟩=some (vI vU z)∧∃A,e.cell ⟨a,3,none⟩=some (vI vU A)∧∃B,e.cell ⟨a,4,none⟩=some (vI wI B)∧∃C,e.cell ⟨a,5,none⟩=some (vI wI C)∧∃D,e.cell ⟨a,6,none⟩=some (vI wI D)∧∃E,e.cell ⟨a,7,none⟩=some (vI wI E)∧∃F H G,e.cell ⟨a,8,none⟩=some (vS F H G)∧FnW wP Zji ⟨[(vP (some ⟨d,0,none⟩))]⟩ e fun n6 o=>
 ∃t,n6=vI vU t∧
 Zb g e o∧FnW wP Zmd ⟨[(vP u)]⟩ o fun n7 p=>
 ∃v,n7=vI wI v∧
 Zb g e p∧FnW wP Zma ⟨[(vA ⟨[(vI wI x),(vI wI y),(vI vU z),(vI vU A),(vI wI B),(vI wI C),(vI wI D),(vI wI E),(vS F H G)]⟩)]⟩ p fun n8 r=>
 ∃I,n8=vI wI I∧
 Zb g e r∧FnW wP Zyf ⟨[(vI vU t),(vI wI v),(vI vU w),(vI wI I)]⟩ r fun o0 c=>
 ∃J,∃n9:Int,o0=(vT ⟨[(vB J),(vI wI n9)]⟩)∧
 Zb g e c∧IfB (!J)
 (∃K,c.cell ⟨a,0,none⟩=some (vI wI K)∧∃L,c.cell ⟨a,1,none⟩=some (vI wI L)∧∃M,c.cell ⟨a,2,none⟩=some (vI vU M)∧∃N,c.cell ⟨a,3,none⟩=some (vI vU N)∧∃O,c.cell ⟨a,4,none⟩=some (vI wI O)∧∃P,c.cell ⟨a,5,none⟩=some (vI wI P)∧∃Q,c.cell ⟨a,6,none⟩=some (vI wI Q)∧∃R,c.cell ⟨a,7,none⟩=some (vI wI R)∧∃S U T,c.cell ⟨a,8,none⟩=some (vS S U T)∧FnW wP Zcz ⟨[(vA ⟨[(vI wI K),(vI wI L),(vI vU M),(vI vU N),(vI wI O),(vI wI P),(vI wI Q),(vI wI R),(vS S U T)]⟩),(vI wI 4)]⟩ c fun o1 s=>
 ∃V,o1=vB V∧
 IfB V
 (k (vT ⟨[(vS none 0 0),(vI wI 0)]⟩) s)
 (FnW wP Zfa ⟨[(vP (some ⟨d,0,none⟩))]⟩ s fun o2 m3=>
 ∃W,∃X:Int,∃Y:Int,∃Z:Int,∃a0:Int,∃a1:Int,∃a2:Int,∃a3:Int,∃(a4:Option Addr) (a6 a5:Nat),o2=(vA ⟨[(vI wI W),(vI wI X),(vI vU Y),(vI vU Z),(vI wI a0),(vI wI a1),(vI wI a2),(vI wI a3),(vS a4 a6 a5)]⟩)∧
 NewW m3 (Obj.cells ⟨[(vI wI W),(vI wI X),(vI vU Y),(vI vU Z),(vI wI a0),(vI wI a1),(vI wI a2),(vI wI a3),(vS a4 a6 a5)]⟩ Zr) fun o3 m4=>
 k (vT ⟨[(vS (some ⟨o3,0,none⟩) 1 1),(vI wI 0)]⟩) m4))
 (∃a7,c.cell ⟨a,0,none⟩=some (vI wI a7)∧∃a8,c.cell ⟨a,1,none⟩=some (vI wI a8)∧∃a9,c.cell ⟨a,2,none⟩=some (vI vU a9)∧∃b0,c.cell ⟨a,3,none⟩=some (vI vU b0)∧∃b1,c.cell ⟨a,4,none⟩=some (vI wI b1)∧∃b2,c.cell ⟨a,5,none⟩=some (vI wI b2)∧∃b3,c.cell ⟨a,6,none⟩=some (vI wI b3)∧∃b4,c.cell ⟨a,7,none⟩=some (vI wI b4)∧∃b5 b7 b6,c.cell ⟨a,8,none⟩=some (vS b5 b7 b6)∧FnW wP Zcz ⟨[(vA ⟨[(vI wI a7),(vI wI a8),(vI vU a9),(vI vU b0),(vI wI b1),(vI wI b2),(vI wI b3),(vI wI b4),(vS b5 b7 b6)]⟩),(vI wI 4)]⟩ c fun o4 h=>
 ∃b8,o4=vB b8∧
 IfB b8
 (∃g:List Nat,(∀b∈g,∃m,h b=some m)∧
 a∈g∧∃b9,h.cell ⟨a,2,none⟩=some (vI vU b9)∧
 FnW wP Zji ⟨[(vP (some ⟨d,0,none⟩))]⟩ h fun o5 n=>
 ∃c0,o5=vI vU c0∧
 Zb g h n∧IfB (b9 !=c0)
 (FnW wP Zfa ⟨[(vP (some ⟨d,0,none⟩))]⟩ n fun o6 l3=>
 ∃c1,∃c2:Int,∃c3:Int,∃c4:Int,∃c5:Int,∃c6:Int,∃c7:Int,∃c8:Int,∃(c9:Option Addr) (d1 d0:Nat),o6=(vA ⟨[(vI wI c1),(vI wI c2),(vI vU c3),(vI vU c4),(vI wI c5),(vI wI c6),(vI wI c7),(vI wI c8),(vS c9 d1 d0)]⟩)∧
 NewW l3 (Obj.cells ⟨[(vI wI c1),(vI wI c2),(vI vU c3),(vI vU c4),(vI wI c5),(vI wI c6),(vI wI c7),(vI wI c8),(vS c9 d1 d0)]⟩ Zr) fun o7 l4=>
 k (vT ⟨[(vS (some ⟨o7,0,none⟩) 1 1),(vI wI 0)]⟩) l4)
 (FnW wP Zls ⟨[(vP (some ⟨d,0,none⟩))]⟩ n fun o8 l5=>
 o8=vT ⟨[]⟩∧
 k (vT ⟨[(vS none 0 0),(vI wI 151)]⟩) l5))
 (∃d2,h.cell ⟨a,0,none⟩=some (vI wI d2)∧∃d3,h.cell ⟨a,1,none⟩=some (vI wI d3)∧∃d4,h.cell ⟨a,2,none⟩=some (vI vU d4)∧∃d5,h.cell ⟨a,3,none⟩=some (vI vU d5)∧∃d6,h.cell ⟨a,4,none⟩=some (vI wI d6)∧∃d7,h.cell ⟨a,5,none⟩=some (vI wI d7)∧∃d8,h.cell ⟨a,6,none⟩=some (vI wI d8)∧∃d9,h.cell ⟨a,7,none⟩=some (vI wI d9)∧∃e0 e2 e1,h.cell ⟨a,8,none⟩=some (vS e0 e2 e1)∧FnW wP Zcz ⟨[(vA ⟨[(vI wI d2),(vI wI d3),(vI vU d4),(vI vU d5),(vI wI d6),(vI wI d7),(vI wI d8),(vI wI d9),(vS e0 e2 e1)]⟩),(vI wI 2)]⟩ h fun o9 j=>
 ∃e3,o9=vB e3∧
 IfB e3
 (FnW wP Zfa ⟨[(vP (some ⟨d,0,none⟩))]⟩ j fun p0 l6=>
 ∃e4,∃e5:Int,∃e6:Int,∃e7:Int,∃e8:Int,∃e9:Int,∃f0:Int,∃f1:Int,∃(f2:Option Addr) (f4 f3:Nat),p0=(vA ⟨[(vI wI e4),(vI wI e5),(vI vU e6),(vI vU e7),(vI wI e8),(vI wI e9),(vI wI f0),(vI wI f1),(vS f2 f4 f3)]⟩)∧
 NewW l6 (Obj.cells ⟨[(vI wI e4),(vI wI e5),(vI vU e6),(vI vU e7),(vI wI e8),(vI wI e9),(vI wI f0),(vI wI f1),(vS f2 f4 f3)]⟩ Zr) fun p1 l7=>
 k (vT ⟨[(vS (some ⟨p1,0,none⟩) 1 1),(vI wI 0)]⟩) l7)
 (∃f5,j.cell ⟨a,0,none⟩=some (vI wI f5)∧∃f6,j.cell ⟨a,1,none⟩=some (vI wI f6)∧∃f7,j.cell ⟨a,2,none⟩=some (vI vU f7)∧∃f8,j.cell ⟨a,3,none⟩=some (vI vU f8)∧∃f9,j.cell ⟨a,4,none⟩=some (vI wI f9)∧∃g0,j.cell ⟨a,5,none⟩=some (vI wI g0)∧∃g1,j.cell ⟨a,6,none⟩=some (vI wI g1)∧∃g2,j.cell ⟨a,7,none⟩=some (vI wI g2)∧∃g3 g5 g4,j.cell ⟨a,8,none⟩=some (vS g3 g5 g4)∧FnW wP Zcz ⟨[(vA ⟨[(vI wI f5),(vI wI f6),(vI vU f7),(vI vU f8),(vI wI f9),(vI wI g0),(vI wI g1),(vI wI g2),(vS g3 g5 g4)]⟩),(vI wI 16)]⟩ j fun p2 f=>
 ∃g6,p2=vB g6∧
 IfB (!g6)
 (k (vT ⟨[(vS none 0 0),(vI wI 0)]⟩) f)
 (∃g7,f.cell ⟨d,0,none⟩=some (vI wI g7)∧
 IfB (g7==2)
 (∃g:List Nat,(∀b∈g,∃m,f b=some m)∧
 a∈g∧∃g8,f.cell ⟨a,3,none⟩=some (vI vU g8)∧
 ∃g9,f.cell ⟨d,3,none⟩=some (vI vU g9)∧
 FnW wP Zdm ⟨[(vI vU g9),(vI wI 1)]⟩ f fun p3 i=>
 ∃h0,p3=vI vU h0∧
 Zb g f i∧IfB (g8 !=h0)
 (∃h1,i.cell ⟨a,0,none⟩=some (vI wI h1)∧∃h2,i.cell ⟨a,1,none⟩=some (vI wI h2)∧∃h3,i.cell ⟨a,2,none⟩=some (vI vU h3)∧∃h4,i.cell ⟨a,3,none⟩=some (vI vU h4)∧∃h5,i.cell ⟨a,4,none⟩=some (vI wI h5)∧∃h6,i.cell ⟨a,5,none⟩=some (vI wI h6)∧∃h7,i.cell ⟨a,6,none⟩=some (vI wI h7)∧∃h8,i.cell ⟨a,7,none⟩=some (vI wI h8)∧∃h9 i1 i0,i.cell ⟨a,8,none⟩=some (vS h9 i1 i0)∧FnW wP Zom ⟨[(vA ⟨[(vI wI h1),(vI wI h2),(vI vU h3),(vI vU h4),(vI wI h5),(vI wI h6),(vI wI h7),(vI wI h8),(vS h9 i1 i0)]⟩)]⟩ i fun p4 l8=>
 ∃i2 i4 i3,p4=vS i2 i4 i3∧
 k (vT ⟨[(vS i2 i4 i3),(vI wI 0)]⟩) l8)
 (Za i ⟨d,0,none⟩ (vI wI 3) fun l9=>
 FnW wP Zjm ⟨[(vP (some ⟨d,0,none⟩))]⟩ l9 fun p5 l=>
 p5=vT ⟨[]⟩∧
 ∃i5,l.cell ⟨d,4,none⟩=some (vP i5)∧
 ∃i6,l.cell ⟨d,10,none⟩=some (vI wI i6)∧
 ∃i7,l.cell ⟨a,3,none⟩=some (vI vU i7)∧
 ∃i8,l.cell ⟨a,5,none⟩=some (vI wI i8)∧
 FnW wP Zjs ⟨[(vP i5),(vI wI i6),(vI vU i7),(vI wI i8)]⟩ l fun p8 m0=>
 ∃p6,∃p7:Int,p8=(vT ⟨[(vI wI p6),(vI wI p7)]⟩)∧
 Ztn d a m0 k))
 (∃i9,f.cell ⟨a,0,none⟩=some (vI wI i9)∧∃j0,f.cell ⟨a,1,none⟩=some (vI wI j0)∧∃j1,f.cell ⟨a,2,none⟩=some (vI vU j1)∧∃j2,f.cell ⟨a,3,none⟩=some (vI vU j2)∧∃j3,f.cell ⟨a,4,none⟩=some (vI wI j3)∧∃j4,f.cell ⟨a,5,none⟩=some (vI wI j4)∧∃j5,f.cell ⟨a,6,none⟩=some (vI wI j5)∧∃j6,f.cell ⟨a,7,none⟩=some (vI wI j6)∧∃j7 j9 j8,f.cell ⟨a,8,none⟩=some (vS j7 j9 j8)∧FnW wP Zyk ⟨[(vP (some ⟨d,0,none⟩)),(vA ⟨[(vI wI i9),(vI wI j0),(vI vU j1),(vI vU j2),(vI wI j3),(vI wI j4),(vI wI j5),(vI wI j6),(vS j7 j9 j8)]⟩)]⟩ f fun p9 q=>
 ∃k0,p9=vB k0∧
 IfB (!k0)
 (FnW wP Zfa ⟨[(vP (some ⟨d,0,none⟩))]⟩ q fun q0 m1=>
 ∃k1,∃k2:Int,∃k3:Int,∃k4:Int,∃k5:Int,∃k6:Int,∃k7:Int,∃k8:Int,∃(k9:Option Addr) (l1 l0:Nat),q0=(vA ⟨[(vI wI k1),(vI wI k2),(vI vU k3),(vI vU k4),(vI wI k5),(vI wI k6),(vI wI k7),(vI wI k8),(vS k9 l1 l0)]⟩)∧
 NewW m1 (Obj.cells ⟨[(vI wI k1),(vI wI k2),(vI vU k3),(vI vU k4),(vI wI k5),(vI wI k6),(vI wI k7),(vI wI k8),(vS k9 l1 l0)]⟩ Zr) fun q1 m2=>
 k (vT ⟨[(vS (some ⟨q1,0,none⟩) 1 1),(vI wI 0)]⟩) m2)
 (Ztn d a q k))))))
theorem Zciw (d:Nat) (e f g h i j k l:Int) (m:Option Addr) (o n:Nat) {a:Heap} {c:Value->Heap->Prop} (q:Zboz d e f g h i j k l m o n a fun r p=>∀b,Shut a p b->c r b):FnW wP Zxv ⟨[(vP (some ⟨d,0,none⟩)),(vA ⟨[(vI wI e),(vI wI f),(vI vU g),(vI vU h),(vI wI i),(vI wI j),(vI wI k),(vI wI l),(vS m o n)]⟩)]⟩ a c:=Zc Tryz.func96 ⟨[(1,[0,2,3,4,5,7,8,9,1,6,10,11,12,13,14,15,16],[15,18,19]),(7,[0,1,2,3,4],[34]),(16,[0,1,2,3,4,5,6,7],[57])],[],[],[]⟩ (by kernel_rfl) (by kernel_rfl) q
def Zbqz (f g h i j k l m:Int) (n:Option Addr) (p o:Nat) (b:Int) (d:Heap) (e:Value->Heap->Prop):Prop:=
 NewW d (Obj.cells ⟨[(vI wI f),(vI wI g),(vI vU h),(vI vU i),(vI wI j),(vI wI k),(vI wI l),(vI wI m),(vS n p o)]⟩ Zr) fun q a=>
 ∃c,a.cell ⟨q,4,none⟩=some (vI wI c)∧
 b≠0∧
 (2:Int)≠0∧
 e (vB (((Int.tmod (vW wI (Int.tdiv c b)) 2):Int)==1)) a
theorem Zckl (d e f g h i j k:Int) (l:Option Addr) (n m:Nat) (o:Int) {a:Heap} {c:Value->Heap->Prop} (q:Zbqz d e f g h i j k l n m o a fun r p=>∀b,Shut a p b->c r b):FnW wP Zcz ⟨[(vA ⟨[(vI wI d),(vI wI e),(vI vU f),(vI vU g),(vI wI h),(vI wI i),(vI wI j),(vI wI k),(vS l n m)]⟩),(vI wI o)]⟩ a c:=Zc Tryz.func97 ⟨[],[],[],[]⟩ (by kernel_rfl) (by kernel_rfl) q
def Zbcw (e:Nat) (H I J K L M N O:Int) (P:Option Addr) (R Q:Nat) (B:Heap) (F:Value->Heap->Prop):Prop:=
 NewW B (Obj.cells ⟨[(vI wI H),(vI wI I),(vI vU J),(vI vU K),(vI wI L),(vI wI M),(vI wI N),(vI wI O),(vS P R Q)]⟩ Zr) fun c f=>
 ∃y,f.cell ⟨c,2,none⟩=some (vI vU y)∧
 FnW wP Zdm ⟨[(vI vU y),(vI wI 1)]⟩ f fun W C=>
 ∃z,W=vI vU z∧
 FnW wP Zyg ⟨[(vI vU z),(vI wI 4096)]⟩ C fun Y D=>
 ∃A,∃X:Int,Y=(vT ⟨[(vP A),(vI wI X)]⟩)∧
 Za D ⟨e,5,none⟩ (vP A) fun a=>
 ∃d:List Nat,(∀b∈d,∃G,a b=some G)∧
 ∃j,a.cell ⟨e,3,none⟩=some (vI vU j)∧
 c∈d∧∃l,a.cell ⟨c,0,none⟩=some (vI wI l)∧∃m,a.cell ⟨c,1,none⟩=some (vI wI m)∧∃n,a.cell ⟨c,2,none⟩=some (vI vU n)∧∃o,a.cell ⟨c,3,none⟩=some (vI vU o)∧∃p,a.cell ⟨c,4,none⟩=some (vI wI p)∧∃q,a.cell ⟨c,5,none⟩=some (vI wI q)∧∃r,a.cell ⟨c,6,none⟩=some (vI wI r)∧∃s,a.cell ⟨c,7,none⟩=some (vI wI s)∧∃t v u,a.cell ⟨c,8,none⟩=some (vS t v u)∧FnW wP Zdm ⟨[(vI vU j),(vI wI 1)]⟩ a fun S g=>
 ∃k,S=vI vU k∧
 Zb d a g∧FnW wP Zwf ⟨[(vA ⟨[(vI wI l),(vI wI m),(vI vU n),(vI vU o),(vI wI p),(vI wI q),(vI wI r),(vI wI s),(vS t v u)]⟩)]⟩ g fun T h=>
 ∃w,T=vI wI w∧
 Zb d a h∧FnW wP Zya ⟨[(vI vU k),(vI wI 4096),(vI wI 0),(vI wI w)]⟩ h fun V i=>
 ∃x,∃U:Int,V=(vT ⟨[(vP x),(vI wI U)]⟩)∧
 Zb d a i∧Za i ⟨e,4,none⟩ (vP x) fun E=>
 F (vT ⟨[]⟩) E
theorem Zbrz (d:Nat) (e f g h i j k l:Int) (m:Option Addr) (o n:Nat) {a:Heap} {c:Value->Heap->Prop} (q:Zbcw d e f g h i j k l m o n a fun r p=>∀b,Shut a p b->c r b):FnW wP Zmj ⟨[(vP (some ⟨d,0,none⟩)),(vA ⟨[(vI wI e),(vI wI f),(vI vU g),(vI vU h),(vI wI i),(vI wI j),(vI wI k),(vI wI l),(vS m o n)]⟩)]⟩ a c:=Zc Tryz.func98 ⟨[(2,[0,1,2,3,4,6,5,7,8,9,10,11,12,13,14],[1000000,21])],[],[],[]⟩ (by kernel_rfl) (by kernel_rfl) q
def Zbpr (h i j k l m n o:Int) (p:Option Addr) (r q:Nat) (d:Int) (g:Heap) (b:Value->Heap->Prop):Prop:=
 NewW g (Obj.cells ⟨[(vI wI h),(vI wI i),(vI vU j),(vI vU k),(vI wI l),(vI wI m),(vI wI n),(vI wI o),(vS p r q)]⟩ Zr) fun c a=>
 ∃f,a.cell ⟨c,4,none⟩=some (vI wI f)∧
 IfB (decide (f≥0))
 (∃e,a.cell ⟨c,4,none⟩=some (vI wI e)∧
 d≠0∧
 (2:Int)≠0∧
 b (vB (((Int.tmod (vW wI (Int.tdiv e d)) 2):Int)==1)) a)
 (b (vB false) a)
theorem Zcjj (d e f g h i j k:Int) (l:Option Addr) (n m:Nat) (o:Int) {a:Heap} {c:Value->Heap->Prop} (q:Zbpr d e f g h i j k l n m o a fun r p=>∀b,Shut a p b->c r b):FnW wP Zjv ⟨[(vA ⟨[(vI wI d),(vI wI e),(vI vU f),(vI vU g),(vI wI h),(vI wI i),(vI wI j),(vI wI k),(vS l n m)]⟩),(vI wI o)]⟩ a c:=Zc Tryz.func99 ⟨[],[],[],[]⟩ (by kernel_rfl) (by kernel_rfl) q
def Zti (b:Nat) (e:Int) (a:Heap) (d:Value->Heap->Prop):Prop:=
 ∃f,a.cell ⟨b,0,none⟩=some (vI wI f)∧∃g,a.cell ⟨b,1,none⟩=some (vI wI g)∧∃h,a.cell ⟨b,2,none⟩=some (vI vU h)∧∃i,a.cell ⟨b,3,none⟩=some (vI vU i)∧∃j,a.cell ⟨b,4,none⟩=some (vI wI j)∧∃k,a.cell ⟨b,5,none⟩=some (vI wI k)∧∃l,a.cell ⟨b,6,none⟩=some (vI wI l)∧∃m,a.cell ⟨b,7,none⟩=some (vI wI m)∧∃n p o,a.cell ⟨b,8,none⟩=some (vS n p o)∧FnW wP Zjv ⟨[(vA ⟨[(vI wI f),(vI wI g),(vI vU h),(vI vU i),(vI wI j),(vI wI k),(vI wI l),(vI wI m),(vS n p o)]⟩),(vI wI 1)]⟩ a fun r c=>
 ∃q,r=vB q∧
 IfB q
 (d (vI wI (vW wI (e+1))) c)
 (d (vI wI e) c)
def Zbos (s t u v w x y z:Int) (A:Option Addr) (C B:Nat) (r:Heap) (e:Value->Heap->Prop):Prop:=
 NewW r (Obj.cells ⟨[(vI wI s),(vI wI t),(vI vU u),(vI vU v),(vI wI w),(vI wI x),(vI wI y),(vI wI z),(vS A C B)]⟩ Zr) fun a b=>
 ∃D c E,b.cell ⟨a,8,none⟩=some (vS D c E)∧
 ∃f,b.cell ⟨a,0,none⟩=some (vI wI f)∧∃g,b.cell ⟨a,1,none⟩=some (vI wI g)∧∃h,b.cell ⟨a,2,none⟩=some (vI vU h)∧∃i,b.cell ⟨a,3,none⟩=some (vI vU i)∧∃j,b.cell ⟨a,4,none⟩=some (vI wI j)∧∃k,b.cell ⟨a,5,none⟩=some (vI wI k)∧∃l,b.cell ⟨a,6,none⟩=some (vI wI l)∧∃m,b.cell ⟨a,7,none⟩=some (vI wI m)∧∃n p o,b.cell ⟨a,8,none⟩=some (vS n p o)∧FnW wP Zjv ⟨[(vA ⟨[(vI wI f),(vI wI g),(vI vU h),(vI vU i),(vI wI j),(vI wI k),(vI wI l),(vI wI m),(vS n p o)]⟩),(vI wI 2)]⟩ b fun F d=>
 ∃q,F=vB q∧
 IfB q
 (Zti a (vW wI ((c:Int)+1)) d e)
 (Zti a (c:Int) d e)
theorem Zciq (d e f g h i j k:Int) (l:Option Addr) (n m:Nat) {a:Heap} {c:Value->Heap->Prop} (p:Zbos d e f g h i j k l n m a fun q o=>∀b,Shut a o b->c q b):FnW wP Zma ⟨[(vA ⟨[(vI wI d),(vI wI e),(vI vU f),(vI vU g),(vI wI h),(vI wI i),(vI wI j),(vI wI k),(vS l n m)]⟩)]⟩ a c:=Zc Tryz.func100 ⟨[],[],[],[]⟩ (by kernel_rfl) (by kernel_rfl) p
def Zbps (c d:Int) (a:Heap) (b:Value->Heap->Prop):Prop:=
 IfB (decide (c≥d))
 (b (vB (decide (c <= 65535))) a)
 (b (vB false) a)
theorem Zcjk (e d:Int) {a:Heap} {c:Value->Heap->Prop} (g:Zbps e d a fun h f=>∀b,Shut a f b->c h b):FnW wP Zjw ⟨[(vI wI e),(vI wI d)]⟩ a c:=Zc Tryz.func122 ⟨[],[],[],[]⟩ (by kernel_rfl) (by kernel_rfl) g
def Zty (e:Nat) (E I:Int) (F:Option Addr) (H G a:Nat) (K:Int) (d:Heap) (D:Value->Heap->Prop):Prop:=
 ∃f:List Nat,(∀b∈f,∃J,d b=some J)∧
 e∈f∧∃s,d.cell ⟨e,1,none⟩=some (vI wI s)∧
 e∈f∧∃t,d.cell ⟨e,2,none⟩=some (vI wI t)∧
 FnW wP Zji ⟨[(vP (some ⟨e,0,none⟩))]⟩ d fun L g=>
 ∃u,L=vI vU u∧
 Zb f d g∧Za g ⟨a,0,none⟩ (vI wI s) fun y=>
 Za y ⟨a,1,none⟩ (vI wI t) fun z=>
 Za z ⟨a,2,none⟩ (vI vU E) fun A=>
 Za A ⟨a,3,none⟩ (vI vU u) fun B=>
 Za B ⟨a,4,none⟩ (vI wI I) fun C=>
 Za C ⟨a,5,none⟩ (vI wI K) fun v=>
 Za v ⟨a,6,none⟩ (vI wI 0) fun w=>
 Za w ⟨a,7,none⟩ (vI wI 0) fun x=>
 Za x ⟨a,8,none⟩ (vS F H G) fun c=>
 ∃h,c.cell ⟨a,0,none⟩=some (vI wI h)∧∃i,c.cell ⟨a,1,none⟩=some (vI wI i)∧∃j,c.cell ⟨a,2,none⟩=some (vI vU j)∧∃k,c.cell ⟨a,3,none⟩=some (vI vU k)∧∃l,c.cell ⟨a,4,none⟩=some (vI wI l)∧∃m,c.cell ⟨a,5,none⟩=some (vI wI m)∧∃n,c.cell ⟨a,6,none⟩=some (vI wI n)∧∃o,c.cell ⟨a,7,none⟩=some (vI wI o)∧∃p r q,c.cell ⟨a,8,none⟩=some (vS p r q)∧D (vA ⟨[(vI wI h),(vI wI i),(vI vU j),(vI vU k),(vI wI l),(vI wI m),(vI wI n),(vI wI o),(vS p r q)]⟩) c
def Zbpt (b:Nat) (d h:Int) (e:Option Addr) (g f:Nat) (m:Heap) (c:Value->Heap->Prop):Prop:=
 NewW m (Obj.cells ⟨[(vI wI 0),(vI wI 0),(vI vU 0),(vI vU 0),(vI wI 0),(vI wI 0),(vI wI 0),(vI wI 0),(vS none 0 0)]⟩ Zr) fun l a=>
 ∃i,a.cell ⟨b,5,none⟩=some (vP i)∧
 IfB (!i.isNone)
 (∃j,a.cell ⟨b,5,none⟩=some (vP j)∧
 FnW wP Zmd ⟨[(vP j)]⟩ a fun o n=>
 ∃k,o=vI wI k∧
 Zty b d h e g f l k n c)
 (Zty b d h e g f l 4096 a c)
theorem Zcjl (e:Nat) (d i:Int) (f:Option Addr) (h g:Nat) {a:Heap} {c:Value->Heap->Prop} (k:Zbpt e d i f h g a fun l j=>∀b,Shut a j b->c l b):FnW wP Zjx ⟨[(vP (some ⟨e,0,none⟩)),(vI vU d),(vI wI i),(vS f h g)]⟩ a c:=Zc Tryz.func123 ⟨[(4,[0,1,2,3,4,5,6,7,8,9,11,12,13,10,14,15],[23,27])],[],[],[]⟩ (by kernel_rfl) (by kernel_rfl) k
def Zbmu (b:Nat) (a:Heap) (c:Value->Heap->Prop):Prop:=
 ∃v,a.cell ⟨b,0,none⟩=some (vI wI v)∧
 IfB (v==1)
 (c (vB true) a)
 (∃d,a.cell ⟨b,0,none⟩=some (vI wI d)∧
 IfB (d==2)
 (c (vB true) a)
 (∃e,a.cell ⟨b,4,none⟩=some (vP e)∧
 NilP e fun f=>
 ∃g,a.cell ⟨f.block,f.off+2,none⟩=some (vI wI g)∧
 IfB (decide (g>0))
 (c (vB true) a)
 (∃h,a.cell ⟨b,7,none⟩=some (vB h)∧
 IfB h
 (∃i,a.cell ⟨b,8,none⟩=some (vB i)∧
 IfB (!i)
 (c (vB true) a)
 (∃j,a.cell ⟨b,4,none⟩=some (vP j)∧
 NilP j fun l=>
 ∃n,a.cell ⟨l.block,l.off+4,none⟩=some (vI wI n)∧
 IfB (n==0)
 (∃p,a.cell ⟨b,4,none⟩=some (vP p)∧
 NilP p fun r=>
 ∃w t y,a.cell ⟨r.block,r.off+1,none⟩=some (vS w t y)∧
 c (vB (decide (((t:Int):Int)>0))) a)
 (c (vB false) a)))
 (∃k,a.cell ⟨b,4,none⟩=some (vP k)∧
 NilP k fun m=>
 ∃o,a.cell ⟨m.block,m.off+4,none⟩=some (vI wI o)∧
 IfB (o==0)
 (∃q,a.cell ⟨b,4,none⟩=some (vP q)∧
 NilP q fun s=>
 ∃x u z,a.cell ⟨s.block,s.off+1,none⟩=some (vS x u z)∧
 c (vB (decide (((u:Int):Int)>0))) a)
 (c (vB false) a)))))
theorem Zcgv (d:Nat) {a:Heap} {c:Value->Heap->Prop} (f:Zbmu d a fun g e=>∀b,Shut a e b->c g b):FnW wP Zwy ⟨[(vP (some ⟨d,0,none⟩))]⟩ a c:=Zc Tryz.func124 ⟨[],[],[],[]⟩ (by kernel_rfl) (by kernel_rfl) f
def Zbpu (f g:Nat) (c b:Int) (a:Heap) (h:(Int×Int×Unit)->Heap->Prop) (e:Value->Heap->Prop):Prop:=
 ∃d,a.cell ⟨f,g+2,none⟩=some (vI wI d)∧
 IfB (decide (b<d))
 (h ((min 600 (vW wI (2*c))),((vW wI (b+1)),())) a)
 (e (vI wI (max 5 (min 600 c))) a)
def Ztz (e f:Nat) (h:Int) (c:Heap) (d:Value->Heap->Prop):Prop:=
 Zbe (Int×Int×Unit) (h,(0,())) c fun a b g=>∀i:Env,Zbpu e f a.1 a.2.1 b g d
def Zbpv (b c:Nat) (a:Heap) (d:Value->Heap->Prop):Prop:=
 ∃g,a.cell ⟨b,c+3,none⟩=some (vB g)∧
 IfB g
 (∃e,a.cell ⟨b,c,none⟩=some (vI wI e)∧
 (8:Int)≠0∧
 ∃f,a.cell ⟨b,c+1,none⟩=some (vI wI f)∧
 Ztz b c (vW wI ((vW wI (Int.tdiv e 8))+(max 1 f))) a d)
 (Ztz b c 30 a d)
theorem Zcjm (d e:Nat) {a:Heap} {c:Value->Heap->Prop} (g:Zbpv d e a fun h f=>∀b,Shut a f b->c h b):FnW wP Zyb ⟨[(vP (some ⟨d,e,none⟩))]⟩ a c:=Zc Tryz.func125 ⟨[],[(5,[3,4],[.int wI,.int wI],[0])],[],[]⟩ (by kernel_rfl) (by kernel_rfl) g
def Zbjs (Z a0 a1 a2 a3 a4 a5 a6:Int) (a7:Option Addr) (a9 a8:Nat) (N:Heap) (e:Value->Heap->Prop):Prop:=
 NewW N (Obj.cells ⟨[(vI wI Z),(vI wI a0),(vI vU a1),(vI vU a2),(vI wI a3),(vI wI a4),(vI wI a5),(vI wI a6),(vS a7 a9 a8)]⟩ Zr) fun d c=>
 ∃q,c.cell ⟨d,0,none⟩=some (vI wI q)∧∃r,c.cell ⟨d,1,none⟩=some (vI wI r)∧∃s,c.cell ⟨d,2,none⟩=some (vI vU s)∧∃t,c.cell ⟨d,3,none⟩=some (vI vU t)∧∃u,c.cell ⟨d,4,none⟩=some (vI wI u)∧∃v,c.cell ⟨d,5,none⟩=some (vI wI v)∧∃w,c.cell ⟨d,6,none⟩=some (vI wI w)∧∃x,c.cell ⟨d,7,none⟩=some (vI wI x)∧∃y A z,c.cell ⟨d,8,none⟩=some (vS y A z)∧FnW wP Zqe ⟨[(vA ⟨[(vI wI q),(vI wI r),(vI vU s),(vI vU t),(vI wI u),(vI wI v),(vI wI w),(vI wI x),(vS y A z)]⟩)]⟩ c fun b1 R=>
 ∃B,∃C:Int,∃D:Int,∃E:Int,∃F:Int,∃G:Int,∃H:Int,∃I:Int,∃(J:Option Addr) (L K:Nat),∃M:Bool,b1=(vT ⟨[(vA ⟨[(vI wI B),(vI wI C),(vI vU D),(vI vU E),(vI wI F),(vI wI G),(vI wI H),(vI wI I),(vS J L K)]⟩),(vB M)]⟩)∧
 NewW R (Obj.cells ⟨[(vI wI 0),(vI wI 0),(vI vU 0),(vI vU 0),(vI wI 0),(vI wI 0),(vI wI 0),(vI wI 0),(vS none 0 0)]⟩ Zr) fun a S=>
 Za S ⟨a,0,none⟩ (vI wI B) fun T=>
 Za T ⟨a,1,none⟩ (vI wI C) fun U=>
 Za U ⟨a,2,none⟩ (vI vU D) fun V=>
 Za V ⟨a,3,none⟩ (vI vU E) fun W=>
 Za W ⟨a,4,none⟩ (vI wI F) fun X=>
 Za X ⟨a,5,none⟩ (vI wI G) fun Y=>
 Za Y ⟨a,6,none⟩ (vI wI H) fun O=>
 Za O ⟨a,7,none⟩ (vI wI I) fun P=>
 Za P ⟨a,8,none⟩ (vS J L K) fun b=>
 IfB (!M)
 (e (vS none 0 0) b)
 (∃f,b.cell ⟨a,0,none⟩=some (vI wI f)∧∃g,b.cell ⟨a,1,none⟩=some (vI wI g)∧∃h,b.cell ⟨a,2,none⟩=some (vI vU h)∧∃i,b.cell ⟨a,3,none⟩=some (vI vU i)∧∃j,b.cell ⟨a,4,none⟩=some (vI wI j)∧∃k,b.cell ⟨a,5,none⟩=some (vI wI k)∧∃l,b.cell ⟨a,6,none⟩=some (vI wI l)∧∃m,b.cell ⟨a,7,none⟩=some (vI wI m)∧∃n p o,b.cell ⟨a,8,none⟩=some (vS n p o)∧NewW b (Obj.cells ⟨[(vI wI f),(vI wI g),(vI vU h),(vI vU i),(vI wI j),(vI wI k),(vI wI l),(vI wI m),(vS n p o)]⟩ Zr) fun b0 Q=>
 e (vS (some ⟨b0,0,none⟩) 1 1) Q)
theorem Zcdp (d e f g h i j k:Int) (l:Option Addr) (n m:Nat) {a:Heap} {c:Value->Heap->Prop} (p:Zbjs d e f g h i j k l n m a fun q o=>∀b,Shut a o b->c q b):FnW wP Zom ⟨[(vA ⟨[(vI wI d),(vI wI e),(vI vU f),(vI vU g),(vI wI h),(vI wI i),(vI wI j),(vI wI k),(vS l n m)]⟩)]⟩ a c:=Zc Tryz.func138 ⟨[],[],[],[]⟩ (by kernel_rfl) (by kernel_rfl) p
def Zblc (a:Nat) (b:Heap) (e:Value->Heap->Prop):Prop:=
 Za b ⟨a,0,none⟩ (vI wI 0) fun c=>
 Za c ⟨a,11,none⟩ (vI wI (-1)) fun d=>
 e (vT ⟨[]⟩) d
theorem Zceq (d:Nat) {a:Heap} {c:Value->Heap->Prop} (f:Zblc d a fun g e=>∀b,Shut a e b->c g b):FnW wP Zls ⟨[(vP (some ⟨d,0,none⟩))]⟩ a c:=Zc Tryz.func139 ⟨[],[],[],[]⟩ (by kernel_rfl) (by kernel_rfl) f
def Zbkk (b:Nat) (e:Heap) (g:Value->Heap->Prop):Prop:=
 Za e ⟨b,11,none⟩ (vI wI (-1)) fun a=>
 ∃c,a.cell ⟨b,4,none⟩=some (vP c)∧
 NilP c fun d=>
 Za a ⟨d.block,d.off+9,none⟩ (vI wI 0) fun f=>
 g (vT ⟨[]⟩) f
theorem Zcea (d:Nat) {a:Heap} {c:Value->Heap->Prop} (f:Zbkk d a fun g e=>∀b,Shut a e b->c g b):FnW wP Zjm ⟨[(vP (some ⟨d,0,none⟩))]⟩ a c:=Zc Tryz.func140 ⟨[],[],[],[]⟩ (by kernel_rfl) (by kernel_rfl) f
def Zboe (a:Nat) (t c:Int) (q:Heap) (r:Value->Heap->Prop):Prop:=
 Za q ⟨a,9,none⟩ (vI wI 0) fun m=>
 Za m ⟨a,0,none⟩ (vI vU t) fun n=>
 NewW n (Obj.cells ⟨[]⟩ Zh) fun u g=>
 ∃d f e,g.cell ⟨a,1,none⟩=some (vS d f e)∧
 InC (vW wI c) f fun b=>
 AppW wP #[Zd,Zd] Zd [(vS (some ⟨u,0,none⟩) 0 0),(vS (if e=b then d else vM (fun s=>Addr.add s (b*1)) d) (f - b) (e - b))] g fun v o=>
 ∃j l k,v=vS j l k∧
 Za o ⟨a,1,none⟩ (vS j l k) fun h=>
 ∃i,h.cell ⟨a,2,none⟩=some (vI wI i)∧
 Za h ⟨a,2,none⟩ (vI wI (vW wI (i - (vW wI c)))) fun p=>
 r (vT ⟨[(vI wI (vW wI c)),(vI wI 0)]⟩) p
def Zbod (a:Nat) (i e f:Int) (j:Bool) (b:Heap) (d:Value->Heap->Prop):Prop:=
 IfB j
 (Za b ⟨a,11,none⟩ (vB false) fun c=>
 ∃g,c.cell ⟨a,13,none⟩=some (vI wI g)∧
 FnW wP Zbuw ⟨[(vP (some ⟨a,7,none⟩)),(vI wI (min 100000 (vW wI (i - g))))]⟩ c fun l h=>
 ∃k,l=vI wI k∧
 Zboe a e f h d)
 (Zboe a e f b d)
def Zng (a:Nat) (e g n d:Int) (o:Bool) (f:Heap) (c:Value->Heap->Prop):Prop:=
 IfB o
 (c (vT ⟨[(vI wI 0),(vI wI 2)]⟩) f)
 (Za f ⟨a,6,none⟩ (vI wI e) fun l=>
 Za l ⟨a,4,none⟩ (vI wI n) fun b=>
 IfB (d==0)
 (c (vT ⟨[(vI wI 0),(vI wI 0)]⟩) b)
 (∃h,b.cell ⟨a,11,none⟩=some (vB h)∧
 IfB h
 (∃i,b.cell ⟨a,0,none⟩=some (vI vU i)∧
 ∃j,b.cell ⟨a,12,none⟩=some (vI vU j)∧
 FnW wP Zgy ⟨[(vI vU i),(vI vU j)]⟩ b fun p m=>
 ∃k,p=vI vU k∧
 Zbod a e g d (decide (k <= d)) m c)
 (Zbod a e g d false b c)))
def Zbof (a:Nat) (e d f:Int) (h:Heap) (g:Value->Heap->Prop):Prop:=
 ∃i,h.cell ⟨a,0,none⟩=some (vI vU i)∧
 FnW wP Zgy ⟨[(vI vU i),(vI vU d)]⟩ h fun n b=>
 ∃c,n=vI vU c∧
 ∃j,b.cell ⟨a,6,none⟩=some (vI wI j)∧
 IfB (decide (e<j))
 (Zng a e d f c true b g)
 (∃k,b.cell ⟨a,2,none⟩=some (vI wI k)∧
 IfB (decide (((vW .u64 c):Int)>(vW .u64 k)))
 (Zng a e d f c true b g)
 (FnW wP Zjw ⟨[(vI wI f),(vI wI 0)]⟩ b fun o m=>
 ∃l,o=vB l∧
 Zng a e d f c (!l) m g))
theorem Zcif (f:Nat) (e d g:Int) {a:Heap} {c:Value->Heap->Prop} (i:Zbof f e d g a fun j h=>∀b,Shut a h b->c j b):FnW wP Zjs ⟨[(vP (some ⟨f,0,none⟩)),(vI wI e),(vI vU d),(vI wI g)]⟩ a c:=Zc Tryz.func141 ⟨[(7,[0,1,2,3,4,5,6,7,8,9,10,11,12,14,13,15,16],[])],[],[],[]⟩ (by kernel_rfl) (by kernel_rfl) i
def Zix (c:Nat) (d:Option Addr) (f e:Nat) (C:((Option Addr×Nat×Nat)×Int×Unit)->Heap->Prop) (B:Bool) (a:Heap) (b:Value->Heap->Prop):Prop:=
 IfB B
 (FnW wP Zxi ⟨[(vP (some ⟨c,0,none⟩))]⟩ a fun y w=>
 ∃g,∃h:Int,∃i:Int,∃j:Int,∃k:Int,∃l:Int,∃m:Int,∃n:Int,∃(o:Option Addr) (q p:Nat),y=(vA ⟨[(vI wI g),(vI wI h),(vI vU i),(vI vU j),(vI wI k),(vI wI l),(vI wI m),(vI wI n),(vS o q p)]⟩)∧
 NewW w (Obj.cells ⟨[(vI wI g),(vI wI h),(vI vU i),(vI vU j),(vI wI k),(vI wI l),(vI wI m),(vI wI n),(vS o q p)]⟩ Zr) fun z x=>
 AppW wP #[Zcx,Zcx] Zcx [(vS d f e),(vS (some ⟨z,0,none⟩) 1 1)] x fun A u=>
 ∃r t s,A=vS r t s∧
 Za u ⟨c,7,none⟩ (vB true) fun v=>
 b (vS r t s) v)
 (b (vS d f e) a)
def Zla (b:Nat) (e:Option Addr) (g f:Nat) (d:((Option Addr×Nat×Nat)×Int×Unit)->Heap->Prop) (a:Heap) (c:Value->Heap->Prop):Prop:=
 ∃h,a.cell ⟨b,6,none⟩=some (vB h)∧
 IfB h
 (∃i,a.cell ⟨b,7,none⟩=some (vB i)∧
 IfB (!i)
 (∃j,a.cell ⟨b,4,none⟩=some (vP j)∧
 NilP j fun k=>
 ∃l,a.cell ⟨k.block,k.off+2,none⟩=some (vI wI l)∧
 ∃m,a.cell ⟨b,4,none⟩=some (vP m)∧
 NilP m fun n=>
 ∃p o q,a.cell ⟨n.block,n.off+1,none⟩=some (vS p o q)∧
 Zix b e g f d (l==(o:Int)) a c)
 (Zix b e g f d false a c))
 (Zix b e g f d false a c)
def Zbpx (a:Nat) (d:Option Addr) (f e:Nat) (i:Int) (b:Heap) (c:((Option Addr×Nat×Nat)×Int×Unit)->Heap->Prop) (h:Value->Heap->Prop):Prop:=
 IfB (decide (i <= 4096))
 (∃j,b.cell ⟨a,4,none⟩=some (vP j)∧
 ∃k,b.cell ⟨a,10,none⟩=some (vI wI k)∧
 FnW wP Zxh ⟨[(vP j),(vI wI k)]⟩ b fun H g=>
 ∃l,∃(m:Option Addr) (o n:Nat),∃p:Int,H=(vT ⟨[(vI vU l),(vS m o n),(vI wI p)]⟩)∧
 IfB (p !=0)
 (Zla a d f e c g h)
 (FnW wP Zjx ⟨[(vP (some ⟨a,0,none⟩)),(vI vU l),(vI wI 24),(vS m o n)]⟩ g fun I E=>
 ∃q,∃r:Int,∃s:Int,∃t:Int,∃u:Int,∃v:Int,∃w:Int,∃x:Int,∃(y:Option Addr) (A z:Nat),I=(vA ⟨[(vI wI q),(vI wI r),(vI vU s),(vI vU t),(vI wI u),(vI wI v),(vI wI w),(vI wI x),(vS y A z)]⟩)∧
 NewW E (Obj.cells ⟨[(vI wI q),(vI wI r),(vI vU s),(vI vU t),(vI wI u),(vI wI v),(vI wI w),(vI wI x),(vS y A z)]⟩ Zr) fun J F=>
 AppW wP #[Zcx,Zcx] Zcx [(vS d f e),(vS (some ⟨J,0,none⟩) 1 1)] F fun K G=>
 ∃B D C,K=vS B D C∧
 c ((B,D,C),((vW wI (i+1)),())) G))
 (Zla a d f e c b h)
def Zbpw (e g:Nat) (c:Heap) (d:Value->Heap->Prop):Prop:=
 Zbe ((Option Addr×Nat×Nat)×Int×Unit) (((some ⟨g,0,none⟩),0,0),(0,())) c fun a b f=>∀h:Env,Zbpx e a.1.1 a.1.2.1 a.1.2.2 a.2.1 b f d
def Ziw (d c:Nat) (e:Bool) (a:Heap) (b:Value->Heap->Prop):Prop:=
 IfB e
 (b (vS (some ⟨c,0,none⟩) 0 0) a)
 (Zbpw d c a b)
def Zbpy (b:Nat) (j:Heap) (c:Value->Heap->Prop):Prop:=
 NewW j (Obj.cells ⟨[]⟩ Zr) fun d a=>
 ∃e,a.cell ⟨b,0,none⟩=some (vI wI e)∧
 IfB (e !=3)
 (∃f,a.cell ⟨b,0,none⟩=some (vI wI f)∧
 IfB (f !=4)
 (∃g,a.cell ⟨b,0,none⟩=some (vI wI g)∧
 IfB (g !=6)
 (∃h,a.cell ⟨b,0,none⟩=some (vI wI h)∧
 IfB (h !=7)
 (∃i,a.cell ⟨b,0,none⟩=some (vI wI i)∧
 Ziw b d (i !=8) a c)
 (Ziw b d false a c))
 (Ziw b d false a c))
 (Ziw b d false a c))
 (Ziw b d false a c)
theorem Zcjn (d:Nat) {a:Heap} {c:Value->Heap->Prop} (f:Zbpy d a fun g e=>∀b,Shut a e b->c g b):FnW wP Zpr ⟨[(vP (some ⟨d,0,none⟩))]⟩ a c:=Zc Tryz.func142 ⟨[],[(5,[3,4],[.slice,.int wI],[0])],[],[]⟩ (by kernel_rfl) (by kernel_rfl) f
def Zbpz (c:Nat) (A:Heap) (M:Value->Heap->Prop):Prop:=
 NewW A (Obj.cells ⟨[(vI wI 0),(vI wI 0),(vI vU 0),(vI vU 0),(vI wI 0),(vI wI 0),(vI wI 0),(vI wI 0),(vS none 0 0)]⟩ Zr) fun a B=>
 FnW wP Zpl ⟨[(vP (some ⟨c,0,none⟩))]⟩ B fun N E=>
 ∃o,N=vI vU o∧
 FnW wP Zjx ⟨[(vP (some ⟨c,0,none⟩)),(vI vU o),(vI wI 16),(vS none 0 0)]⟩ E fun O F=>
 ∃p,∃q:Int,∃r:Int,∃s:Int,∃t:Int,∃u:Int,∃v:Int,∃w:Int,∃(x:Option Addr) (z y:Nat),O=(vA ⟨[(vI wI p),(vI wI q),(vI vU r),(vI vU s),(vI wI t),(vI wI u),(vI wI v),(vI wI w),(vS x z y)]⟩)∧
 Za F ⟨a,0,none⟩ (vI wI p) fun G=>
 Za G ⟨a,1,none⟩ (vI wI q) fun H=>
 Za H ⟨a,2,none⟩ (vI vU r) fun I=>
 Za I ⟨a,3,none⟩ (vI vU s) fun J=>
 Za J ⟨a,4,none⟩ (vI wI t) fun K=>
 Za K ⟨a,5,none⟩ (vI wI u) fun L=>
 Za L ⟨a,6,none⟩ (vI wI v) fun C=>
 Za C ⟨a,7,none⟩ (vI wI w) fun D=>
 Za D ⟨a,8,none⟩ (vS x z y) fun b=>
 ∃d,b.cell ⟨a,0,none⟩=some (vI wI d)∧∃e,b.cell ⟨a,1,none⟩=some (vI wI e)∧∃f,b.cell ⟨a,2,none⟩=some (vI vU f)∧∃g,b.cell ⟨a,3,none⟩=some (vI vU g)∧∃h,b.cell ⟨a,4,none⟩=some (vI wI h)∧∃i,b.cell ⟨a,5,none⟩=some (vI wI i)∧∃j,b.cell ⟨a,6,none⟩=some (vI wI j)∧∃k,b.cell ⟨a,7,none⟩=some (vI wI k)∧∃l n m,b.cell ⟨a,8,none⟩=some (vS l n m)∧M (vA ⟨[(vI wI d),(vI wI e),(vI vU f),(vI vU g),(vI wI h),(vI wI i),(vI wI j),(vI wI k),(vS l n m)]⟩) b
theorem Zcjo (d:Nat) {a:Heap} {c:Value->Heap->Prop} (f:Zbpz d a fun g e=>∀b,Shut a e b->c g b):FnW wP Zfa ⟨[(vP (some ⟨d,0,none⟩))]⟩ a c:=Zc Tryz.func143 ⟨[],[],[],[]⟩ (by kernel_rfl) (by kernel_rfl) f
def Zud (c e b g:Int) (o:Bool) (d:Heap) (a:Value->Heap->Prop):Prop:=
 IfB o
 (a (vT ⟨[(vB (b==c)),(vI wI 0)]⟩) d)
 (IfB (g==0)
 (FnW wP Zmf ⟨[(vI vU b),(vI vU c),(vI wI e)]⟩ d fun p l=>
 ∃h,p=vB h∧
 a (vT ⟨[(vB h),(vI wI 0)]⟩) l)
 (FnW wP Zmf ⟨[(vI vU b),(vI vU c),(vI wI e)]⟩ d fun q f=>
 ∃i,q=vB i∧
 IfB i
 (a (vT ⟨[(vB true),(vI wI 0)]⟩) f)
 (FnW wP Zdm ⟨[(vI vU b),(vI wI (vW wI (g - 1)))]⟩ f fun r m=>
 ∃j,r=vI vU j∧
 FnW wP Zmf ⟨[(vI vU j),(vI vU c),(vI wI e)]⟩ m fun s n=>
 ∃k,s=vB k∧
 a (vT ⟨[(vB k),(vI wI 0)]⟩) n)))
def Zbqd (f b e a:Int) (h:Heap) (d:Value->Heap->Prop):Prop:=
 FnW wP Zwj ⟨[(vI wI b),(vI wI a)]⟩ h fun i c=>
 ∃g,i=vB g∧
 IfB (!g)
 (d (vT ⟨[(vB false),(vI wI 2)]⟩) c)
 (IfB (a==0)
 (Zud f b e a (b==0) c d)
 (Zud f b e a false c d))
theorem Zcju (f g d e:Int) {a:Heap} {c:Value->Heap->Prop} (i:Zbqd f g d e a fun j h=>∀b,Shut a h b->c j b):FnW wP Zyf ⟨[(vI vU f),(vI wI g),(vI vU d),(vI wI e)]⟩ a c:=Zc Tryz.func144 ⟨[],[],[],[]⟩ (by kernel_rfl) (by kernel_rfl) i
def Zbqs (b:Nat) (a:Heap) (e:Value->Heap->Prop):Prop:=
 ∃d,a.cell ⟨b,1,none⟩=some (vI wI d)∧
 ∃f c g,a.cell ⟨b,2,none⟩=some (vS f c g)∧
 e (vI wI (vW wI (d - (c:Int)))) a
theorem Zckf (d:Nat) {a:Heap} {c:Value->Heap->Prop} (f:Zbqs d a fun g e=>∀b,Shut a e b->c g b):FnW wP Zmd ⟨[(vP (some ⟨d,0,none⟩))]⟩ a c:=Zc Tryz.func145 ⟨[],[],[],[]⟩ (by kernel_rfl) (by kernel_rfl) f
def Zbrn (f:Nat) (g:Int) (a:Heap) (b:Value->Heap->Prop):Prop:=
 IfB (g==0)
 (∃c,a.cell ⟨f,4,none⟩=some (vP c)∧
 NilP c fun d=>
 Za a ⟨d.block,d.off+9,none⟩ (vI wI 0) fun e=>
 b (vB true) e)
 (b (vB true) a)
def Zgq (d e:Nat) (a:Heap) (c:Value->Heap->Prop):Prop:=
 ∃b,a.cell ⟨e,5,none⟩=some (vI wI b)∧
 Zbrn d b a c
def Zuu (a d:Nat) (e:Heap) (c:Value->Heap->Prop):Prop:=
 ∃i,e.cell ⟨a,8,none⟩=some (vB i)∧
 IfB (!i)
 (Za e ⟨a,8,none⟩ (vB true) fun b=>
 ∃f,b.cell ⟨a,0,none⟩=some (vI wI f)∧
 IfB (f==4)
 (Za b ⟨a,0,none⟩ (vI wI 5) fun j=>
 Zgq a d j c)
 (∃g,b.cell ⟨a,0,none⟩=some (vI wI g)∧
 IfB (g==7)
 (FnW wP Zpm ⟨[(vP (some ⟨a,0,none⟩))]⟩ b fun m k=>
 m=vT ⟨[]⟩∧
 Zgq a d k c)
 (∃h,b.cell ⟨a,0,none⟩=some (vI wI h)∧
 IfB (h==8)
 (FnW wP Zls ⟨[(vP (some ⟨a,0,none⟩))]⟩ b fun n l=>
 n=vT ⟨[]⟩∧
 Zgq a d l c)
 (Zgq a d b c))))
 (Zgq a d e c)
def Zut (a d:Nat) (f:Bool) (b:Heap) (c:Value->Heap->Prop):Prop:=
 IfB f
 (FnW wP Zjm ⟨[(vP (some ⟨a,0,none⟩))]⟩ b fun g e=>
 g=vT ⟨[]⟩∧
 Zuu a d e c)
 (Zuu a d b c)
def Zus (c e:Nat) (x:Bool) (a:Heap) (g:Value->Heap->Prop):Prop:=
 IfB x
 (∃d:List Nat,(∀b∈d,∃u,a b=some u)∧
 c∈d∧∃n,a.cell ⟨c,4,none⟩=some (vP n)∧
 c∈d∧∃o,a.cell ⟨c,10,none⟩=some (vI wI o)∧
 ∃p,a.cell ⟨c,4,none⟩=some (vP p)∧
 e∈d∧∃r,a.cell ⟨e,5,none⟩=some (vI wI r)∧
 FnW wP Zjo ⟨[(vP p)]⟩ a fun y h=>
 ∃q,y=vI vU q∧
 Zb d a h∧FnW wP Zjs ⟨[(vP n),(vI wI o),(vI vU q),(vI wI r)]⟩ h fun A f=>
 ∃s,∃z:Int,A=(vT ⟨[(vI wI s),(vI wI z)]⟩)∧
 Zb d a f∧IfB (decide (s>0))
 (Zut c e true f g)
 (∃t,f.cell ⟨c,8,none⟩=some (vB t)∧
 Zut c e (!t) f g))
 (∃j,a.cell ⟨e,3,none⟩=some (vI vU j)∧
 ∃k,a.cell ⟨c,4,none⟩=some (vP k)∧
 NilP k fun v=>
 ∃l,a.cell v=some (vI vU l)∧
 FnW wP Zwk ⟨[(vI vU j),(vI vU l)]⟩ a fun w i=>
 ∃m,w=vB m∧
 IfB (!m)
 (g (vB false) i)
 (g (vB true) i))
def Zbro (c:Nat) (B C D E F G H I:Int) (J:Option Addr) (L K:Nat) (z:Heap) (g:Value->Heap->Prop):Prop:=
 NewW z (Obj.cells ⟨[(vI wI B),(vI wI C),(vI vU D),(vI vU E),(vI wI F),(vI wI G),(vI wI H),(vI wI I),(vS J L K)]⟩ Zr) fun d e=>
 ∃f:List Nat,(∀b∈f,∃h,e b=some h)∧
 ∃l,e.cell ⟨c,4,none⟩=some (vP l)∧
 NilP l fun M=>
 ∃m,e.cell M=some (vI vU m)∧
 ∃n,e.cell ⟨d,3,none⟩=some (vI vU n)∧
 c∈f∧∃p,e.cell ⟨c,4,none⟩=some (vP p)∧
 NilP p fun i=>
 i.block∈f∧∃q,e.cell ⟨i.block,i.off+2,none⟩=some (vI wI q)∧
 FnW wP Zgy ⟨[(vI vU m),(vI vU n)]⟩ e fun N a=>
 ∃o,N=vI vU o∧
 Zb f e a∧IfB (decide (((vW .u64 o):Int) <= (vW .u64 q)))
 (∃r,a.cell ⟨c,4,none⟩=some (vP r)∧
 ∃s,a.cell ⟨c,10,none⟩=some (vI wI s)∧
 ∃t,a.cell ⟨d,3,none⟩=some (vI vU t)∧
 ∃u,a.cell ⟨d,5,none⟩=some (vI wI u)∧
 FnW wP Zjs ⟨[(vP r),(vI wI s),(vI vU t),(vI wI u)]⟩ a fun P j=>
 ∃v,∃O:Int,P=(vT ⟨[(vI wI v),(vI wI O)]⟩)∧
 IfB (decide (v>0))
 (FnW wP Zjm ⟨[(vP (some ⟨c,0,none⟩))]⟩ j fun Q A=>
 Q=vT ⟨[]⟩∧
 Zgq c d A g)
 (Zgq c d j g))
 (∃f:List Nat,(∀b∈f,∃h,a b=some h)∧
 ∃w,a.cell ⟨c,7,none⟩=some (vB w)∧
 IfB w
 (d∈f∧∃x,a.cell ⟨d,3,none⟩=some (vI vU x)∧
 FnW wP Zpl ⟨[(vP (some ⟨c,0,none⟩))]⟩ a fun R k=>
 ∃y,R=vI vU y∧
 Zb f a k∧Zus c d (x==y) k g)
 (Zus c d false a g))
theorem Zckw (d:Nat) (e f g h i j k l:Int) (m:Option Addr) (o n:Nat) {a:Heap} {c:Value->Heap->Prop} (q:Zbro d e f g h i j k l m o n a fun r p=>∀b,Shut a p b->c r b):FnW wP Zyk ⟨[(vP (some ⟨d,0,none⟩)),(vA ⟨[(vI wI e),(vI wI f),(vI vU g),(vI vU h),(vI wI i),(vI wI j),(vI wI k),(vI wI l),(vS m o n)]⟩)]⟩ a c:=Zc Tryz.func146 ⟨[(1,[0,1,2,3,4,5,6,7,8,11,12,13,14,15,16,17,18,9,10,19],[23,26]),(5,[0,1,2,3,4,5,6,7,8,9,10],[55]),(6,[0,1,2,3,4,5,6,7,8,9,10,11,13,14,12,15,16,17,18,19,20],[64,68,75])],[],[],[]⟩ (by kernel_rfl) (by kernel_rfl) q
def Ztq (a:Nat) (j:Bool) (d:Heap) (c:Value->Heap->Prop):Prop:=
 IfB j
 (c (vT ⟨[]⟩) d)
 (Za d ⟨a,9,none⟩ (vB true) fun b=>
 ∃e,b.cell ⟨a,0,none⟩=some (vI wI e)∧
 IfB (e==3)
 (Za b ⟨a,0,none⟩ (vI wI 6) fun g=>
 c (vT ⟨[]⟩) g)
 (∃f,b.cell ⟨a,0,none⟩=some (vI wI f)∧
 IfB (f==4)
 (Za b ⟨a,0,none⟩ (vI wI 7) fun h=>
 c (vT ⟨[]⟩) h)
 (FnW wP Zpm ⟨[(vP (some ⟨a,0,none⟩))]⟩ b fun k i=>
 k=vT ⟨[]⟩∧
 c (vT ⟨[]⟩) i)))
def Ztp (g c:Nat) (H:Bool) (d:Heap) (h:Value->Heap->Prop):Prop:=
 IfB H
 (h (vT ⟨[]⟩) d)
 (∃j,d.cell ⟨g,5,none⟩=some (vP j)∧
 ∃k,d.cell ⟨c,2,none⟩=some (vI vU k)∧
 ∃l n m,d.cell ⟨c,8,none⟩=some (vS l n m)∧
 FnW wP Zyp ⟨[(vP j),(vI vU k),(vS l n m)]⟩ d fun K a=>
 ∃I,∃J:Int,K=(vT ⟨[(vI wI I),(vI wI J)]⟩)∧
 ∃f:List Nat,(∀b∈f,∃G,a b=some G)∧
 ∃o,a.cell ⟨c,0,none⟩=some (vI wI o)∧∃p,a.cell ⟨c,1,none⟩=some (vI wI p)∧∃q,a.cell ⟨c,2,none⟩=some (vI vU q)∧∃r,a.cell ⟨c,3,none⟩=some (vI vU r)∧∃s,a.cell ⟨c,4,none⟩=some (vI wI s)∧∃t,a.cell ⟨c,5,none⟩=some (vI wI t)∧∃u,a.cell ⟨c,6,none⟩=some (vI wI u)∧∃v,a.cell ⟨c,7,none⟩=some (vI wI v)∧∃w y x,a.cell ⟨c,8,none⟩=some (vS w y x)∧FnW wP Zcz ⟨[(vA ⟨[(vI wI o),(vI wI p),(vI vU q),(vI vU r),(vI wI s),(vI wI t),(vI wI u),(vI wI v),(vS w y x)]⟩),(vI wI 1)]⟩ a fun L e=>
 ∃z,L=vB z∧
 Zb f a e∧IfB (!z)
 (Ztq g true e h)
 (∃A,e.cell ⟨c,2,none⟩=some (vI vU A)∧
 ∃M B N,e.cell ⟨c,8,none⟩=some (vS M B N)∧
 g∈f∧∃D,a.cell ⟨g,5,none⟩=some (vP D)∧
 NilP D fun E=>
 E.block∈f∧∃F,a.cell E=some (vI vU F)∧
 FnW wP Zdm ⟨[(vI vU A),(vI wI (B:Int))]⟩ e fun O i=>
 ∃C,O=vI vU C∧
 Zb f a i∧Ztq g (C !=F) i h))
def Zbpa (b:Nat) (h i j k l m n o:Int) (p:Option Addr) (r q:Nat) (g:Heap) (c:Value->Heap->Prop):Prop:=
 NewW g (Obj.cells ⟨[(vI wI h),(vI wI i),(vI vU j),(vI vU k),(vI wI l),(vI wI m),(vI wI n),(vI wI o),(vS p r q)]⟩ Zr) fun d a=>
 ∃f,a.cell ⟨b,0,none⟩=some (vI wI f)∧
 IfB (decide (f<3))
 (Ztp b d true a c)
 (∃e,a.cell ⟨b,0,none⟩=some (vI wI e)∧
 Ztp b d (decide (e>5)) a c)
theorem Zcix (d:Nat) (e f g h i j k l:Int) (m:Option Addr) (o n:Nat) {a:Heap} {c:Value->Heap->Prop} (q:Zbpa d e f g h i j k l m o n a fun r p=>∀b,Shut a p b->c r b):FnW wP Zxw ⟨[(vP (some ⟨d,0,none⟩)),(vA ⟨[(vI wI e),(vI wI f),(vI vU g),(vI vU h),(vI wI i),(vI wI j),(vI wI k),(vI wI l),(vS m o n)]⟩)]⟩ a c:=Zc Tryz.func147 ⟨[(3,[0,1,2,3,4,5,6,7,8,10,11,12,13,14,15,16,9,17,18],[38,41])],[],[],[]⟩ (by kernel_rfl) (by kernel_rfl) q
def Zbcm (d e:Int) (f:Bool) (a:Heap) (b:Value->Heap->Prop):Prop:=
 IfB f
 (b (vT ⟨[(vP none),(vI wI 2)]⟩) a)
 (NewW a (Obj.cells ⟨[(vI vU d),(vI wI e),(vS none 0 0),(vS none 0 0)]⟩ Zva) fun g c=>
 b (vT ⟨[(vP (some ⟨g,0,none⟩)),(vI wI 0)]⟩) c)
def Zbqf (d a:Int) (b:Heap) (c:Value->Heap->Prop):Prop:=
 IfB (decide (a<1))
 (Zbcm d a true b c)
 (Zbcm d a (decide (a>65535)) b c)
theorem Zcjv (d e:Int) {a:Heap} {c:Value->Heap->Prop} (g:Zbqf d e a fun h f=>∀b,Shut a f b->c h b):FnW wP Zyg ⟨[(vI vU d),(vI wI e)]⟩ a c:=Zc Tryz.func148 ⟨[],[],[],[]⟩ (by kernel_rfl) (by kernel_rfl) g
def Zbkm (g h i j k l m n:Int) (o:Option Addr) (q p:Nat) (f:Heap) (b:Value->Heap->Prop):Prop:=
 NewW f (Obj.cells ⟨[(vI wI g),(vI wI h),(vI vU i),(vI vU j),(vI wI k),(vI wI l),(vI wI m),(vI wI n),(vS o q p)]⟩ Zr) fun c a=>
 ∃d,a.cell ⟨c,7,none⟩=some (vI wI d)∧
 IfB (d==0)
 (b (vI wI 536) a)
 (∃e,a.cell ⟨c,7,none⟩=some (vI wI e)∧
 b (vI wI (min 1460 e)) a)
theorem Zceb (d e f g h i j k:Int) (l:Option Addr) (n m:Nat) {a:Heap} {c:Value->Heap->Prop} (p:Zbkm d e f g h i j k l n m a fun q o=>∀b,Shut a o b->c q b):FnW wP Zwf ⟨[(vA ⟨[(vI wI d),(vI wI e),(vI vU f),(vI vU g),(vI wI h),(vI wI i),(vI wI j),(vI wI k),(vS l n m)]⟩)]⟩ a c:=Zc Tryz.func149 ⟨[],[],[],[]⟩ (by kernel_rfl) (by kernel_rfl) p
def Zbov (a b:Int) (c:Heap) (d:Value->Heap->Prop):Prop:=
 IfB (decide (b≥a))
 (d (vI vU (vW vU (b - a))) c)
 (d (vI vU (vW vU (vW .u64 ((vW .u64 (4294967296 - (vW .u64 a)))+(vW .u64 b))))) c)
theorem Zcis (d e:Int) {a:Heap} {c:Value->Heap->Prop} (g:Zbov d e a fun h f=>∀b,Shut a f b->c h b):FnW wP Zgy ⟨[(vI vU d),(vI vU e)]⟩ a c:=Zc Tryz.func182 ⟨[],[],[],[]⟩ (by kernel_rfl) (by kernel_rfl) g
def Zbne (a:Nat) (e:Int) (c:Heap) (d:Value->Heap->Prop):Prop:=
 ∃k,c.cell ⟨a,6,none⟩=some (vI wI k)∧
 IfB (decide (e<k))
 (d (vT ⟨[(vI vU 0),(vS none 0 0),(vI wI 2)]⟩) c)
 (Za c ⟨a,6,none⟩ (vI wI e) fun b=>
 ∃f,b.cell ⟨a,5,none⟩=some (vI wI f)∧
 ∃q g r,b.cell ⟨a,1,none⟩=some (vS q g r)∧
 ∃h,b.cell ⟨a,2,none⟩=some (vI wI h)∧
 ∃i,b.cell ⟨a,4,none⟩=some (vI wI i)∧
 ∃j,b.cell ⟨a,2,none⟩=some (vI wI j)∧
 IfB (decide (((min f (min (vW wI ((g:Int) - h)) (vW wI (i - j)))):Int) <= 0))
 (d (vT ⟨[(vI vU 0),(vS none 0 0),(vI wI 5)]⟩) b)
 (FnW wP Zbux ⟨[(vP (some ⟨a,0,none⟩)),(vI wI e),(vI wI (min f (min (vW wI ((g:Int) - h)) (vW wI (i - j)))))]⟩ b fun s p=>
 ∃l,∃(m:Option Addr) (o n:Nat),s=(vT ⟨[(vI vU l),(vS m o n)]⟩)∧
 d (vT ⟨[(vI vU l),(vS m o n),(vI wI 0)]⟩) p))
theorem Zchf (e:Nat) (d:Int) {a:Heap} {c:Value->Heap->Prop} (g:Zbne e d a fun h f=>∀b,Shut a f b->c h b):FnW wP Zxh ⟨[(vP (some ⟨e,0,none⟩)),(vI wI d)]⟩ a c:=Zc Tryz.func184 ⟨[],[],[],[]⟩ (by kernel_rfl) (by kernel_rfl) g
def Zbnf (d:Nat) (C:Heap) (N:Value->Heap->Prop):Prop:=
 NewW C (Obj.cells ⟨[(vI wI 0),(vI wI 0),(vI vU 0),(vI vU 0),(vI wI 0),(vI wI 0),(vI wI 0),(vI wI 0),(vS none 0 0)]⟩ Zr) fun a c=>
 ∃p,c.cell ⟨d,4,none⟩=some (vP p)∧
 FnW wP Zjo ⟨[(vP p)]⟩ c fun O F=>
 ∃q,O=vI vU q∧
 FnW wP Zjx ⟨[(vP (some ⟨d,0,none⟩)),(vI vU q),(vI wI 17),(vS none 0 0)]⟩ F fun P G=>
 ∃r,∃s:Int,∃t:Int,∃u:Int,∃v:Int,∃w:Int,∃x:Int,∃y:Int,∃(z:Option Addr) (B A:Nat),P=(vA ⟨[(vI wI r),(vI wI s),(vI vU t),(vI vU u),(vI wI v),(vI wI w),(vI wI x),(vI wI y),(vS z B A)]⟩)∧
 Za G ⟨a,0,none⟩ (vI wI r) fun H=>
 Za H ⟨a,1,none⟩ (vI wI s) fun I=>
 Za I ⟨a,2,none⟩ (vI vU t) fun J=>
 Za J ⟨a,3,none⟩ (vI vU u) fun K=>
 Za K ⟨a,4,none⟩ (vI wI v) fun L=>
 Za L ⟨a,5,none⟩ (vI wI w) fun M=>
 Za M ⟨a,6,none⟩ (vI wI x) fun D=>
 Za D ⟨a,7,none⟩ (vI wI y) fun E=>
 Za E ⟨a,8,none⟩ (vS z B A) fun b=>
 ∃e,b.cell ⟨a,0,none⟩=some (vI wI e)∧∃f,b.cell ⟨a,1,none⟩=some (vI wI f)∧∃g,b.cell ⟨a,2,none⟩=some (vI vU g)∧∃h,b.cell ⟨a,3,none⟩=some (vI vU h)∧∃i,b.cell ⟨a,4,none⟩=some (vI wI i)∧∃j,b.cell ⟨a,5,none⟩=some (vI wI j)∧∃k,b.cell ⟨a,6,none⟩=some (vI wI k)∧∃l,b.cell ⟨a,7,none⟩=some (vI wI l)∧∃m o n,b.cell ⟨a,8,none⟩=some (vS m o n)∧N (vA ⟨[(vI wI e),(vI wI f),(vI vU g),(vI vU h),(vI wI i),(vI wI j),(vI wI k),(vI wI l),(vS m o n)]⟩) b
theorem Zchg (d:Nat) {a:Heap} {c:Value->Heap->Prop} (f:Zbnf d a fun g e=>∀b,Shut a e b->c g b):FnW wP Zxi ⟨[(vP (some ⟨d,0,none⟩))]⟩ a c:=Zc Tryz.func185 ⟨[],[],[],[]⟩ (by kernel_rfl) (by kernel_rfl) f
def Zbmg (b:Nat) (a:Heap) (c:Value->Heap->Prop):Prop:=
 ∃i,a.cell ⟨b,7,none⟩=some (vB i)∧
 IfB i
 (∃d,a.cell ⟨b,4,none⟩=some (vP d)∧
 FnW wP Zjo ⟨[(vP d)]⟩ a fun m j=>
 ∃e,m=vI vU e∧
 FnW wP Zdm ⟨[(vI vU e),(vI wI 1)]⟩ j fun n k=>
 ∃f,n=vI vU f∧
 c (vI vU f) k)
 (∃g,a.cell ⟨b,4,none⟩=some (vP g)∧
 FnW wP Zjo ⟨[(vP g)]⟩ a fun o l=>
 ∃h,o=vI vU h∧
 c (vI vU h) l)
theorem Zcgh (d:Nat) {a:Heap} {c:Value->Heap->Prop} (f:Zbmg d a fun g e=>∀b,Shut a e b->c g b):FnW wP Zpl ⟨[(vP (some ⟨d,0,none⟩))]⟩ a c:=Zc Tryz.func186 ⟨[],[],[],[]⟩ (by kernel_rfl) (by kernel_rfl) f
def Zblf (d c:Int) (a:Heap) (b:Value->Heap->Prop):Prop:=
 IfB (decide (d≥0))
 (IfB (decide (d <= 65535))
 (IfB (decide (c≥0))
 (b (vB (decide (c <= 1073741824))) a)
 (b (vB false) a))
 (b (vB false) a))
 (b (vB false) a)
theorem Zceu (e d:Int) {a:Heap} {c:Value->Heap->Prop} (g:Zblf e d a fun h f=>∀b,Shut a f b->c h b):FnW wP Zwj ⟨[(vI wI e),(vI wI d)]⟩ a c:=Zc Tryz.func187 ⟨[],[],[],[]⟩ (by kernel_rfl) (by kernel_rfl) g
def Zbqu (f g c:Int) (a:Heap) (b:Value->Heap->Prop):Prop:=
 IfB (decide (c≥0))
 (IfB (decide (c <= 65535))
 (FnW wP Zgy ⟨[(vI vU g),(vI vU f)]⟩ a fun h e=>
 ∃d,h=vI vU d∧
 b (vB (decide (((vW .u64 d):Int)<(vW .u64 c)))) e)
 (b (vB false) a))
 (b (vB false) a)
theorem Zckh (d e f:Int) {a:Heap} {c:Value->Heap->Prop} (h:Zbqu d e f a fun i g=>∀b,Shut a g b->c i b):FnW wP Zmf ⟨[(vI vU d),(vI vU e),(vI wI f)]⟩ a c:=Zc Tryz.func188 ⟨[],[],[],[]⟩ (by kernel_rfl) (by kernel_rfl) h
def Zbkq (b:Nat) (a:Heap) (g:Value->Heap->Prop):Prop:=
 ∃e,a.cell ⟨b,0,none⟩=some (vI vU e)∧
 ∃c,a.cell ⟨b,2,none⟩=some (vI wI c)∧
 FnW wP Zdm ⟨[(vI vU e),(vI wI c)]⟩ a fun h f=>
 ∃d,h=vI vU d∧
 g (vI vU d) f
theorem Zcee (d:Nat) {a:Heap} {c:Value->Heap->Prop} (f:Zbkq d a fun g e=>∀b,Shut a e b->c g b):FnW wP Zjo ⟨[(vP (some ⟨d,0,none⟩))]⟩ a c:=Zc Tryz.func189 ⟨[],[],[],[]⟩ (by kernel_rfl) (by kernel_rfl) f
def Zbmh (a:Nat) (b:Heap) (f:Value->Heap->Prop):Prop:=
 ∃c,b.cell ⟨a,10,none⟩=some (vI wI c)∧
 Za b ⟨a,0,none⟩ (vI wI 9) fun d=>
 Za d ⟨a,11,none⟩ (vI wI (vW wI (c+120))) fun e=>
 f (vT ⟨[]⟩) e
theorem Zcgi (d:Nat) {a:Heap} {c:Value->Heap->Prop} (f:Zbmh d a fun g e=>∀b,Shut a e b->c g b):FnW wP Zpm ⟨[(vP (some ⟨d,0,none⟩))]⟩ a c:=Zc Tryz.func190 ⟨[],[],[],[]⟩ (by kernel_rfl) (by kernel_rfl) f
def Zbli (e f:Int) (d:Heap) (c:Value->Heap->Prop):Prop:=
 FnW wP Zgy ⟨[(vI vU e),(vI vU f)]⟩ d fun g b=>
 ∃a,g=vI vU a∧
 IfB (decide (a≥1))
 (c (vB (decide (a <= 2147483647))) b)
 (c (vB false) b)
theorem Zcex (d e:Int) {a:Heap} {c:Value->Heap->Prop} (g:Zbli d e a fun h f=>∀b,Shut a f b->c h b):FnW wP Zwk ⟨[(vI vU d),(vI vU e)]⟩ a c:=Zc Tryz.func191 ⟨[],[],[],[]⟩ (by kernel_rfl) (by kernel_rfl) g
def Znq (i:Nat) (e:Int) (f:Option Addr) (h g:Nat) (j b:Int) (c:(Int×Unit)->Heap->Prop) (a:Heap) (d:Value->Heap->Prop):Prop:=
 c ((vW wI (b+1)),()) a
def Zuw (h:Nat) (i b:Int) (k:(Int×Unit)->Heap->Prop) (j:(Int×Int×Unit)->Heap->Prop) (f:((Option Addr×Nat×Nat)×Int×Unit)->Heap->Prop) (c:Option Addr) (e d:Nat) (a:Heap) (g:Value->Heap->Prop):Prop:=
 f ((c,e,d),((vW wI (b+1)),())) a
def Zbse (b:Nat) (d:Int) (l:(Int×Unit)->Heap->Prop) (j:(Int×Int×Unit)->Heap->Prop) (f:Option Addr) (h g:Nat) (c:Int) (a:Heap) (k:((Option Addr×Nat×Nat)×Int×Unit)->Heap->Prop) (e:Value->Heap->Prop):Prop:=
 ∃G m H,a.cell ⟨b,3,none⟩=some (vS G m H)∧
 IfB (decide (c<(m:Int)))
 (∃n o I,a.cell ⟨b,3,none⟩=some (vS n o I)∧
 NilP n fun L=>
 InB c o fun J=>
 elemAt L J 2 fun K=>
 ∃p,a.cell K=some (vI wI p)∧
 IfB (decide (p≥d))
 (∃q r M,a.cell ⟨b,3,none⟩=some (vS q r M)∧
 NilP q fun P=>
 InB c r fun N=>
 elemAt P N 2 fun O=>
 ∃s,a.cell O=some (vI wI s)∧
 ∃t u Q,a.cell ⟨b,3,none⟩=some (vS t u Q)∧
 NilP t fun S=>
 InB c u fun R=>
 elemAt S R 2 fun v=>
 ∃w,a.cell ⟨v.block,v.off+1,none⟩=some (vI wU w)∧
 NewW a (Obj.cells ⟨[(vI wI (vW wI (s - d))),(vI wU w)]⟩ Zlc) fun T C=>
 AppW wP #[Zhv,Zhv] Zhv [(vS f h g),(vS (some ⟨T,0,none⟩) 1 1)] C fun U D=>
 ∃x z y,U=vS x z y∧
 Zuw b d c l j k x z y D e)
 (Zuw b d c l j k f h g a e))
 (Za a ⟨b,3,none⟩ (vS f h g) fun i=>
 ∃A,i.cell ⟨b,0,none⟩=some (vI vU A)∧
 FnW wP Zdm ⟨[(vI vU A),(vI wI d)]⟩ i fun V E=>
 ∃B,V=vI vU B∧
 Za E ⟨b,0,none⟩ (vI vU B) fun F=>
 e (vT ⟨[(vI wI d),(vI wI 0)]⟩) F)
def Zuv (f:Nat) (g:Int) (j:(Int×Unit)->Heap->Prop) (i:(Int×Int×Unit)->Heap->Prop) (c:Heap) (e:Value->Heap->Prop):Prop:=
 NewW c (Obj.cells ⟨[]⟩ Zlc) fun k d=>
 Zbe ((Option Addr×Nat×Nat)×Int×Unit) (((some ⟨k,0,none⟩),0,0),(0,())) d fun a b h=>∀l:Env,Zbse f g j i a.1.1 a.1.2.1 a.1.2.2 a.2.1 b h e
def Zbsd (a:Nat) (y:Int) (i:(Int×Unit)->Heap->Prop) (b h:Int) (d:Heap) (c:(Int×Int×Unit)->Heap->Prop) (g:Value->Heap->Prop):Prop:=
 IfB (decide (h <= y))
 (FnW wP Zpt ⟨[(vP (some ⟨a,0,none⟩)),(vI wI b)]⟩ d fun z e=>
 ∃j,∃k:Bool,z=(vT ⟨[(vI wU j),(vB k)]⟩)∧
 IfB (!k)
 (Zuv a b i c e g)
 (NewW e (Obj.cells ⟨[]⟩ Zh) fun A f=>
 ∃l n m,f.cell ⟨a,2,none⟩=some (vS l n m)∧
 AppW wP #[Zd,Zd] Zd [(vS (some ⟨A,0,none⟩) 0 0),(vS l n m)] f fun B u=>
 ∃o q p,B=vS o q p∧
 NewW u (Obj.cells ⟨[(vI wU j)]⟩ Zh) fun C v=>
 AppW wP #[Zd,Zd] Zd [(vS o q p),(vS (some ⟨C,0,none⟩) 1 1)] v fun D w=>
 ∃r t s,D=vS r t s∧
 Za w ⟨a,2,none⟩ (vS r t s) fun x=>
 c ((vW wI (b+1)),((vW wI (h+1)),())) x))
 (Zuv a b i c d g)
def Zbsf (a:Nat) (i:Int) (j:Option Addr) (e m:Nat) (f c:Int) (d:Heap) (k:(Int×Unit)->Heap->Prop) (h:Value->Heap->Prop):Prop:=
 IfB (decide (c<(e:Int)))
 (∃n:List Nat,(∀b∈n,∃G,d b=some G)∧
 a∈n∧∃r,d.cell ⟨a,0,none⟩=some (vI vU r)∧
 FnW wP Zdm ⟨[(vI vU i),(vI wI c)]⟩ d fun H o=>
 ∃s,H=vI vU s∧
 Zb n d o∧FnW wP Zgy ⟨[(vI vU r),(vI vU s)]⟩ o fun I p=>
 ∃l,I=vI vU l∧
 IfB (decide (((vW .u64 l):Int)≥(vW .u64 f)))
 (Znq a i j e m f c k p h)
 (FnW wP Zpt ⟨[(vP (some ⟨a,0,none⟩)),(vI wI (vW wI l))]⟩ p fun K g=>
 ∃J,∃t:Bool,K=(vT ⟨[(vI wU J),(vB t)]⟩)∧
 IfB (!t)
 (∃u w v,g.cell ⟨a,3,none⟩=some (vS u w v)∧
 NilP j fun N=>
 InB c e fun L=>
 elemAt N L 1 fun M=>
 ∃x,g.cell M=some (vI wU x)∧
 NewW g (Obj.cells ⟨[(vI wI (vW wI l)),(vI wU x)]⟩ Zlc) fun O C=>
 AppW wP #[Zhv,Zhv] Zhv [(vS u w v),(vS (some ⟨O,0,none⟩) 1 1)] C fun P D=>
 ∃y A z,P=vS y A z∧
 Za D ⟨a,3,none⟩ (vS y A z) fun E=>
 Znq a i j e m f c k E h)
 (Znq a i j e m f c k g h)))
 (Zbe (Int×Int×Unit) (0,(0,())) d fun q B F=>∀Q:Env,Zbsd a f k q.1 q.2.1 B F h)
def Zbsg (d:Nat) (g:Int) (h:Option Addr) (c i:Nat) (a:Heap) (b:Value->Heap->Prop):Prop:=
 IfB (decide (((c:Int):Int)>65536))
 (b (vT ⟨[(vI wI 0),(vI wI 3)]⟩) a)
 (FnW wP Zmd ⟨[(vP (some ⟨d,0,none⟩))]⟩ a fun l f=>
 ∃e,l=vI wI e∧
 Zbe (Int×Unit) (0,()) f fun k a j=>∀m:Env,Zbsf d g h c i e k.1 a j b)
theorem Zcle (h:Nat) (d:Int) (e:Option Addr) (g f:Nat) {a:Heap} {c:Value->Heap->Prop} (j:Zbsg h d e g f a fun k i=>∀b,Shut a i b->c k b):FnW wP Zyp ⟨[(vP (some ⟨h,0,none⟩)),(vI vU d),(vS e g f)]⟩ a c:=Zc Tryz.func192 ⟨[(7,[0,1,2,3,4,5,6,7,8],[33])],[(5,[9],[.int wI],[0,1,2,8]),(14,[13,14],[.int wI,.int wI],[0,8]),(22,[17,18],[.slice,.int wI],[0,13])],[],[]⟩ (by kernel_rfl) (by kernel_rfl) j
def Zbqj (c:Nat) (m b:Int) (a:Heap) (n:(Int×Unit)->Heap->Prop) (d:Value->Heap->Prop):Prop:=
 ∃o e p,a.cell ⟨c,3,none⟩=some (vS o e p)∧
 IfB (decide (b<(e:Int)))
 (∃f g q,a.cell ⟨c,3,none⟩=some (vS f g q)∧
 NilP f fun t=>
 InB b g fun r=>
 elemAt t r 2 fun s=>
 ∃h,a.cell s=some (vI wI h)∧
 IfB (h==m)
 (∃i j u,a.cell ⟨c,3,none⟩=some (vS i j u)∧
 NilP i fun w=>
 InB b j fun v=>
 elemAt w v 2 fun k=>
 ∃l,a.cell ⟨k.block,k.off+1,none⟩=some (vI wU l)∧
 d (vT ⟨[(vI wU l),(vB true)]⟩) a)
 (n ((vW wI (b+1)),()) a))
 (d (vT ⟨[(vI wU 0),(vB false)]⟩) a)
def Zbqk (d:Nat) (c:Int) (a:Heap) (b:Value->Heap->Prop):Prop:=
 Zbe (Int×Unit) (0,()) a fun f a e=>∀g:Env,Zbqj d c f.1 a e b
theorem Zcjz (e:Nat) (d:Int) {a:Heap} {c:Value->Heap->Prop} (g:Zbqk e d a fun h f=>∀b,Shut a f b->c h b):FnW wP Zpt ⟨[(vP (some ⟨e,0,none⟩)),(vI wI d)]⟩ a c:=Zc Tryz.func217 ⟨[],[(2,[6],[.int wI],[0,1])],[],[]⟩ (by kernel_rfl) (by kernel_rfl) g
end Go.Proofs.YtaljkjokbdpdoaaGreat
end
section
set_option maxRecDepth 100000
namespace Go.Proofs.YtaljkjokbdpdoaaGreat
open Go.Sh
open Value renaming int -> vI, slice -> vS, pointer -> vP, bool -> vB, tuple -> vT, agg -> vA, func -> vF
open IntKind renaming wrap -> vW, i64 -> wI, u32 -> vU, u8 -> wU
open Go.Proofs.Tryz renaming prog -> wP
open Option renaming map -> vM
def Zbmi (h:FuncId) (i:Value) (d:Heap) (g:Value->Heap->Prop):Prop:=
 FnW wP Zwo ⟨[(vF (.func h) #[] #[i])]⟩ d fun j e=>
 ∃a c b,j=vS a c b∧
 FnW wP Zbet ⟨[(vS a c b)]⟩ e fun k f=>
 k=vT ⟨[]⟩∧
 g (vS a c b) f
theorem Zcgj (d:FuncId) (e:Value) {a:Heap} {c:Value->Heap->Prop} (g:Zbmi d e a fun h f=>∀b,Shut a f b->c h b):FnW wP Zwn ⟨[(vF (.func d) #[] #[e])]⟩ a c:=Zc Tryz.func70 ⟨[],[],[],[]⟩ (by kernel_rfl) (by kernel_rfl) g
def Zbni (d:Option Nat) (a:Heap) (c:Value->Heap->Prop):Prop:=
 NewW a (Obj.cells ⟨[(Value.map d)]⟩ Zdy) fun e b=>
 c (vF (.func Zwd) #[] #[(vP (some ⟨e,0,none⟩))]) b
theorem Zchj (d:Option Nat) {a:Heap} {c:Value->Heap->Prop} (f:Zbni d a fun g e=>∀b,Shut a e b->c g b):FnW wP Zbes ⟨[(Value.map d)]⟩ a c:=Zc Tryz.func71 ⟨[],[],[],[]⟩ (by kernel_rfl) (by kernel_rfl) f
def Zbmj (g:FuncId) (h:Value) (d:Heap) (f:Value->Heap->Prop):Prop:=
 FnW wP Zwl ⟨[(vS none 0 0),(vF (.func g) #[] #[h])]⟩ d fun i e=>
 ∃a c b,i=vS a c b∧
 f (vS a c b) e
theorem Zcgk (d:FuncId) (e:Value) {a:Heap} {c:Value->Heap->Prop} (g:Zbmj d e a fun h f=>∀b,Shut a f b->c h b):FnW wP Zwo ⟨[(vF (.func d) #[] #[e])]⟩ a c:=Zc Tryz.func110 ⟨[],[],[],[]⟩ (by kernel_rfl) (by kernel_rfl) g
def Zbjz (j:Nat) (e:Value) (h:Heap) (k:(Unit)->Heap->Prop) (c:Value->Heap->Prop):Prop:=
 SemW wP (Instr.next e false T_) h fun n a=>
 ∃(f:Bool) (m:List Value),n=vT ⟨vB f::m⟩∧
 IfB f
 (SemW wP (Instr.entry e) a fun o i=>
 ∃g p:Value,o=vT ⟨[g,p]⟩∧
 Zjf wP j [g] i fun l b=>
 ∃d,l=vB d∧
 IfB (!d)
 (c (vT ⟨[]⟩) b)
 (k () b))
 (c (vT ⟨[]⟩) a)
def Zbka (f e h:Nat) (a:Heap) (d:Value->Heap->Prop):Prop:=
 ∃b:Value,a.cell ⟨e,h,none⟩=some b∧
 RgW wP Zdy b a fun i c=>
 Zbe (Unit) () c fun k a g=>∀j:Env,Zbjz f i a g d
theorem Zcdt (e d f:Nat) {a:Heap} {c:Value->Heap->Prop} (h:Zbka e d f a fun i g=>∀b,Shut a g b->c i b):FnW wP Zwd ⟨[(vF (.yield e) #[] #[]),(vP (some ⟨d,f,none⟩))]⟩ a c:=Zc Tryz.func112 ⟨[],[(1,[],[],[0,5])],[],[]⟩ (by kernel_rfl) (by kernel_rfl) h
end Go.Proofs.YtaljkjokbdpdoaaGreat
end
section
set_option maxRecDepth 100000
namespace Go.Proofs.YtaljkjokbdpdoaaGreat
open Go.Sh
open Value renaming int -> vI, slice -> vS, pointer -> vP, bool -> vB, tuple -> vT, agg -> vA, func -> vF
open IntKind renaming wrap -> vW, i64 -> wI, u32 -> vU, u8 -> wU
open Go.Proofs.Tryz renaming prog -> wP
open Option renaming map -> vM
def Zkd:Plan:=⟨[],[],[],[]⟩
theorem Zbvj:Known wP Zwl Tryz.f160 Zkd (Zbw Tryz.f160):=by refine ⟨Tryz.func160,?_,?_,?_,?_,?_⟩<;>kernel_rfl
def Zcfw (d:Option Addr) (f e:Nat) (h:Value) (a:Heap) (c:Value->Value->Heap->Prop) (i:Value->Heap->Prop):Prop:=
 NewW a (Obj.cells ⟨[(vS d f e)]⟩ Zbt) fun g b=>
 c h (vP (some ⟨g,0,none⟩)) b
theorem Zcfv (ρ:Env) (s0a:Option Addr) (s0n:Nat) (s0c:Nat) (seq1:Value) (H:Heap) (K:Value->Value->Heap->Prop) (R:Value->Heap->Prop):Zcfw s0a s0n s0c seq1 H K R=Ze wP Zkd (cL (Zbw Tryz.f160)) (put (put ρ (some 0) (vS s0a s0n s0c)) (some 1) seq1) H (Zet (fun ρ H=>K (ρ 1) (ρ 2) H) (RetW wP Tryz.f160.results.toList R)):=by kernel_rfl
def Zcfy (d c:Value) (a:Heap) (b:Value->Value->Heap->Prop) (e:Value->Heap->Prop):Prop:=
 b c d a
theorem Zcfx (ρ:Env) (seq1:Value) (s2:Value) (H:Heap) (K:Value->Value->Heap->Prop) (R:Value->Heap->Prop):Zcfy seq1 s2 H K R=Ze wP Zkd (cL (cL (cR (Zbw Tryz.f160)))) (put (put ρ (some 1) seq1) (some 2) s2) H (Zet (fun ρ H=>K (ρ 2) (ρ 6) H) (RetW wP Tryz.f160.results.toList R)):=by kernel_rfl
def Zcga (c:Nat) (d:Int) (a:Heap) (b:Value->Value->Heap->Prop) (e:Value->Heap->Prop):Prop:=
 b (vP (some ⟨c,0,none⟩)) (vI wI d) a
theorem Zcfz (ρ:Env) (s2b:Nat) (x7:Int) (H:Heap) (K:Value->Value->Heap->Prop) (R:Value->Heap->Prop):Zcga s2b x7 H K R=Ze wP Zkd (cA (cK (cR (cL (cR (Zbw Tryz.f160)))))) (put (put ρ (some 2) (vP (some ⟨s2b,0,none⟩))) (some 7) (vI wI x7)) H (Zet (fun ρ H=>K (ρ 2) (ρ 5) H) (RetW wP Tryz.f160.results.toList R)):=by kernel_rfl
def Zbmc (b:Nat) (m:Int) (a:Heap) (l:Heap->Prop) (p:Value->Heap->Prop):Prop:=
 ∃f h g,a.cell ⟨b,0,none⟩=some (vS f h g)∧
 NewW a (Obj.cells ⟨[(vI wI m)]⟩ Zl) fun n i=>
 AppW wP #[Zbt,Zbt] Zbt [(vS f h g),(vS (some ⟨n,0,none⟩) 1 1)] i fun o j=>
 ∃c e d,o=vS c e d∧
 Za j ⟨b,0,none⟩ (vS c e d) fun k=>
 l k
theorem Zcgb (ρ:Env) (s2b:Nat) (v5:Int) (H:Heap) (K:Heap->Prop) (R:Value->Heap->Prop):Zbmc s2b v5 H K R=Ze wP Zkd (cB (cK (cR (cL (cR (Zbw Tryz.f160)))))) (put (put ρ (some 2) (vP (some ⟨s2b,0,none⟩))) (some 5) (vI wI v5)) H (Zet (fun ρ H=>K H) (RetW wP Tryz.f160.results.toList R)):=by kernel_rfl
def Zcgd (f:Nat) (a:Heap) (g:Heap->Prop) (e:Value->Heap->Prop):Prop:=
 ∃b d c,a.cell ⟨f,0,none⟩=some (vS b d c)∧
 e (vS b d c) a
theorem Zcgc (ρ:Env) (s2b:Nat) (H:Heap) (K:Heap->Prop) (R:Value->Heap->Prop):Zcgd s2b H K R=Ze wP Zkd (cR (cR (Zbw Tryz.f160))) (put ρ (some 2) (vP (some ⟨s2b,0,none⟩))) H (Zet (fun ρ H=>K H) (RetW wP Tryz.f160.results.toList R)):=by kernel_rfl
end Go.Proofs.YtaljkjokbdpdoaaGreat
end
