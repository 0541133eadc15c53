/-
  SOME FUNCTIONS IN PLAIN LOGIC:printed by a program of ours over this translation.
-/
import Derived.Test.YtaljkjokbdpdoaaGreatBA
import Derived.Test.YtaljkjokbdpdoaaGreatRows
set_option linter.all false
section
set_option maxRecDepth 100000
namespace Go.Proofs.YtaljkjokbdpdoaaGreat
open Go.Sh
def Zux (a:Nat) (o i n:Int) (N:Bool) (c:Heap) (d:Value->Heap->Prop):Prop:=
 IfB N
 (d (Value.tuple ⟨[(Value.int .i64 0),(Value.slice none 0 0),(Value.int .i64 2)]⟩) c)
 (∃O p P,c.cell ⟨a,3,none⟩=some (Value.slice O p P)∧
 IfB (decide (((p:Int):Int)≥16))
 (d (Value.tuple ⟨[(Value.int .i64 0),(Value.slice none 0 0),(Value.int .i64 4)]⟩) c)
 (∃j,c.cell ⟨a,4,none⟩=some (Value.int .i64 j)∧
 (16384:Int)≠0∧
 FnW Tryz.prog Zpv ⟨[(Value.pointer (some ⟨a,0,none⟩)),(Value.int .u32 i),(Value.int .i64 n),(Value.int .i64 (IntKind.wrap .i64 (49152+(Int.tmod (IntKind.wrap .i64 (j+1)) 16384))))]⟩ c fun Q m=>
 ∃q,Q=Value.int .i64 q∧
 IfB (decide (q≥0))
 (d (Value.tuple ⟨[(Value.int .i64 0),(Value.slice none 0 0),(Value.int .i64 6)]⟩) m)
 (Za m ⟨a,5,none⟩ (Value.int .i64 o) fun I=>
 FnW Tryz.prog Zpn ⟨[(Value.pointer (some ⟨a,0,none⟩))]⟩ I fun R J=>
 ∃r,R=Value.int .u32 r∧
 FnW Tryz.prog Zya ⟨[(Value.int .i64 o),(Value.int .i64 (IntKind.wrap .i64 (49152+(Int.tmod (IntKind.wrap .i64 (j+1)) 16384)))),(Value.int .i64 n),(Value.int .u32 r)]⟩ J fun S f=>
 ∃s,∃(t:Option Addr) (v u:Nat),∃k:Int,S=(Value.tuple ⟨[(Value.pointer s),(Value.slice t v u),(Value.int .i64 k)]⟩)∧
 IfB (k !=0)
 (d (Value.tuple ⟨[(Value.int .i64 0),(Value.slice none 0 0),(Value.int .i64 k)]⟩) f)
 (∃w,f.cell ⟨a,4,none⟩=some (Value.int .i64 w)∧
 Za f ⟨a,4,none⟩ (Value.int .i64 (IntKind.wrap .i64 (w+1))) fun g=>
 ∃x z y,g.cell ⟨a,3,none⟩=some (Value.slice x z y)∧
 ∃A,g.cell ⟨a,4,none⟩=some (Value.int .i64 A)∧
 NewW g (Obj.cells ⟨[(Value.int .i64 A),(Value.int .u32 i),(Value.pointer s)]⟩ Zfe) fun T K=>
 AppW Tryz.prog #[Zdy,Zdy] Zdy [(Value.slice x z y),(Value.slice (some ⟨T,0,none⟩) 1 1)] K fun U L=>
 ∃B D C,U=Value.slice B D C∧
 Za L ⟨a,3,none⟩ (Value.slice B D C) fun e=>
 ∃h:List Nat,(∀b∈h,∃M,e b=some M)∧
 a∈h∧∃E,e.cell ⟨a,4,none⟩=some (Value.int .i64 E)∧
 FnW Tryz.prog Zjx ⟨[(Value.pointer (some ⟨a,0,none⟩)),(Value.int .u32 i),(Value.slice t v u)]⟩ e fun V l=>
 ∃F H G,V=Value.slice F H G∧
 Zb h e l∧d (Value.tuple ⟨[(Value.int .i64 E),(Value.slice F H G),(Value.int .i64 0)]⟩) l))))
def Zbra (d:Nat) (c f b:Int) (a:Heap) (e:Value->Heap->Prop):Prop:=
 ∃g,a.cell ⟨d,5,none⟩=some (Value.int .i64 g)∧
 IfB (decide (c<g))
 (Zux d c f b true a e)
 (FnW Tryz.prog Zoq ⟨[(Value.int .i64 b)]⟩ a fun j i=>
 ∃h,j=Value.bool h∧
 Zux d c f b (!h) i e)
theorem Zcjd (f:Nat) (e g d:Int) {a:Heap} {c:Value->Heap->Prop} (i:Zbra f e g d a fun j h=>∀b,Shut a h b->c j b):FnW Tryz.prog Zyl ⟨[(Value.pointer (some ⟨f,0,none⟩)),(Value.int .i64 e),(Value.int .u32 g),(Value.int .i64 d)]⟩ a c:=Zc Tryz.func9 ⟨[(14,[0,1,2,3,4,5,6,7,8,9,10],[88])],[],[],[]⟩ (by kernel_rfl) (by kernel_rfl) i
def Ztl (z B:Int) (A:Nat) (w:Option Addr) (y x:Nat) (g:Heap) (v:Value->Heap->Prop):Prop:=
 ∃h j i,g.cell ⟨A,8,none⟩=some (Value.slice h j i)∧
 AppW Tryz.prog #[Zd,Zd] Zd [(Value.slice w y x),(Value.slice h j i)] g fun C p=>
 ∃b a d,C=Value.slice b a d∧
 FnW Tryz.prog Zos ⟨[(Value.int .u32 z),(Value.int .u32 B),(Value.int .u8 6),(Value.int .i64 (a:Int))]⟩ p fun D q=>
 ∃k,D=Value.int .u32 k∧
 FnW Tryz.prog Zly ⟨[(Value.int .u32 k),(Value.slice b a d)]⟩ q fun E r=>
 ∃l,E=Value.int .u32 l∧
 FnW Tryz.prog Zwi ⟨[(Value.int .u32 l)]⟩ r fun F s=>
 ∃m,F=Value.int .u16 m∧
 FnW Tryz.prog Zdn ⟨[(Value.int .i64 (IntKind.wrap .i64 m))]⟩ s fun H c=>
 ∃e f G,H=Value.slice e f G∧
 NilP e fun K=>
 InB 0 f fun I=>
 elemAt K I 1 fun J=>
 ∃n,c.cell J=some (Value.int .u8 n)∧
 NilP e fun N=>
 InB 1 f fun L=>
 elemAt N L 1 fun M=>
 ∃o,c.cell M=some (Value.int .u8 o)∧
 NilP b fun Q=>
 InB 16 a fun O=>
 elemAt Q O 1 fun P=>
 Za c P (Value.int .u8 n) fun t=>
 NilP b fun T=>
 InB 17 a fun R=>
 elemAt T R 1 fun S=>
 Za t S (Value.int .u8 o) fun u=>
 v (Value.tuple ⟨[(Value.slice b a d),(Value.int .i64 0)]⟩) u
def Zboo (j k:Int) (c:Nat) (g:Option Addr) (i h:Nat) (B:Int) (a:Heap) (f:Value->Heap->Prop):Prop:=
 IfB (decide (B>0))
 (∃d:List Nat,(∀b∈d,∃y,a b=some y)∧
 c∈d∧∃u,a.cell ⟨c,7,none⟩=some (Value.int .i64 u)∧
 NewW a (Obj.cells ⟨[(Value.int .u8 2),(Value.int .u8 4)]⟩ Zh) fun C v=>
 AppW Tryz.prog #[Zd,Zd] Zd [(Value.slice g i h),(Value.slice (some ⟨C,0,none⟩) 2 2)] v fun D e=>
 ∃r t s,D=Value.slice r t s∧
 Zb d a e∧FnW Tryz.prog Zdn ⟨[(Value.int .i64 u)]⟩ e fun z w=>
 ∃l n m,z=Value.slice l n m∧
 AppW Tryz.prog #[Zd,Zd] Zd [(Value.slice r t s),(Value.slice l n m)] w fun A x=>
 ∃o q p,A=Value.slice o q p∧
 Ztl j k c o q p x f)
 (Ztl j k c g i h a f)
def Zkz (h i:Int) (b:Nat) (e:Option Addr) (g f:Nat) (a:Heap) (d:Value->Heap->Prop):Prop:=
 ∃c,a.cell ⟨b,7,none⟩=some (Value.int .i64 c)∧
 Zboo h i b e g f c a d
def Ztk (k l:Int) (d:Nat) (c4:Option Addr) (c6 c5:Nat) (c3:Int) (q:Heap) (j:Value->Heap->Prop):Prop:=
 ∃y,q.cell ⟨d,4,none⟩=some (Value.int .i64 y)∧
 NewW q (Obj.cells ⟨[(Value.int .u8 (IntKind.wrap .u8 (IntKind.wrap .i64 (16*c3)))),(Value.int .u8 (IntKind.wrap .u8 y))]⟩ Zh) fun c7 b2=>
 AppW Tryz.prog #[Zd,Zd] Zd [(Value.slice c4 c6 c5),(Value.slice (some ⟨c7,0,none⟩) 2 2)] b2 fun c8 a=>
 ∃e g f,c8=Value.slice e g f∧
 ∃c:List Nat,(∀b∈c,∃c2,a b=some c2)∧
 d∈c∧∃h,a.cell ⟨d,6,none⟩=some (Value.int .i64 h)∧
 ∃m,a.cell ⟨d,5,none⟩=some (Value.int .i64 m)∧
 (NewW a (Obj.cells ⟨[(Value.int .u8 0),(Value.int .u8 0)]⟩ Zh) fun d4 b3=>
 FnW Tryz.prog Zdn ⟨[(Value.int .i64 m)]⟩ b3 fun c9 r=>
 ∃z B A,c9=Value.slice z B A∧
 Zb c a r∧AppW Tryz.prog #[Zd,Zd] Zd [(Value.slice e g f),(Value.slice z B A)] r fun d1 s=>
 ∃C I F,d1=Value.slice C I F∧
 Zb c a s∧AppW Tryz.prog #[Zd,Zd] Zd [(Value.slice C I F),(Value.slice (some ⟨d4,0,none⟩) 2 2)] s fun d7 t=>
 ∃L R O,d7=Value.slice L R O∧
 Zb c a t∧FnW Tryz.prog Zdn ⟨[(Value.int .i64 h)]⟩ t fun e0 b4=>
 ∃U a0 X,e0=Value.slice U a0 X∧
 AppW Tryz.prog #[Zd,Zd] Zd [(Value.slice L R O),(Value.slice U a0 X)] b4 fun e3 b5=>
 ∃a3 a9 a6,e3=Value.slice a3 a9 a6∧
 Zkz k l d a3 a9 a6 b5 j)∧
 (FnW Tryz.prog Zdn ⟨[(Value.int .i64 m)]⟩ a fun d0 i=>
 ∃n p o,d0=Value.slice n p o∧
 Zb c a i∧(NewW i (Obj.cells ⟨[(Value.int .u8 0),(Value.int .u8 0)]⟩ Zh) fun d5 b6=>
 AppW Tryz.prog #[Zd,Zd] Zd [(Value.slice e g f),(Value.slice n p o)] b6 fun d2 u=>
 ∃D J G,d2=Value.slice D J G∧
 Zb c a u∧AppW Tryz.prog #[Zd,Zd] Zd [(Value.slice D J G),(Value.slice (some ⟨d5,0,none⟩) 2 2)] u fun d8 v=>
 ∃M S P,d8=Value.slice M S P∧
 Zb c a v∧FnW Tryz.prog Zdn ⟨[(Value.int .i64 h)]⟩ v fun e1 b7=>
 ∃V a1 Y,e1=Value.slice V a1 Y∧
 AppW Tryz.prog #[Zd,Zd] Zd [(Value.slice M S P),(Value.slice V a1 Y)] b7 fun e4 b8=>
 ∃a4 b0 a7,e4=Value.slice a4 b0 a7∧
 Zkz k l d a4 b0 a7 b8 j)∧
 (AppW Tryz.prog #[Zd,Zd] Zd [(Value.slice e g f),(Value.slice n p o)] i fun d3 w=>
 ∃E K H,d3=Value.slice E K H∧
 Zb c a w∧NewW w (Obj.cells ⟨[(Value.int .u8 0),(Value.int .u8 0)]⟩ Zh) fun d6 b9=>
 AppW Tryz.prog #[Zd,Zd] Zd [(Value.slice E K H),(Value.slice (some ⟨d6,0,none⟩) 2 2)] b9 fun d9 x=>
 ∃N T Q,d9=Value.slice N T Q∧
 Zb c a x∧FnW Tryz.prog Zdn ⟨[(Value.int .i64 h)]⟩ x fun e2 c0=>
 ∃W a2 Z,e2=Value.slice W a2 Z∧
 AppW Tryz.prog #[Zd,Zd] Zd [(Value.slice N T Q),(Value.slice W a2 Z)] c0 fun e5 c1=>
 ∃a5 b1 a8,e5=Value.slice a5 b1 a8∧
 Zkz k l d a5 b1 a8 c1 j))
def Zgm (o p:Int) (a:Nat) (Q:Bool) (c:Heap) (f:Value->Heap->Prop):Prop:=
 IfB Q
 (f (Value.tuple ⟨[(Value.slice none 0 0),(Value.int .i64 2)]⟩) c)
 (∃R q S,c.cell ⟨a,8,none⟩=some (Value.slice R q S)∧
 IfB (decide (((q:Int):Int)>65495))
 (f (Value.tuple ⟨[(Value.slice none 0 0),(Value.int .i64 3)]⟩) c)
 (∃d:List Nat,(∀b∈d,∃h,c b=some h)∧
 ∃r,c.cell ⟨a,0,none⟩=some (Value.int .i64 r)∧
 a∈d∧∃v,c.cell ⟨a,1,none⟩=some (Value.int .i64 v)∧
 FnW Tryz.prog Zdn ⟨[(Value.int .i64 r)]⟩ c fun T l=>
 ∃s u t,T=Value.slice s u t∧
 Zb d c l∧FnW Tryz.prog Zdn ⟨[(Value.int .i64 v)]⟩ l fun U O=>
 ∃w y x,U=Value.slice w y x∧
 AppW Tryz.prog #[Zd,Zd] Zd [(Value.slice s u t),(Value.slice w y x)] O fun V e=>
 ∃z B A,V=Value.slice z B A∧
 ∃d:List Nat,(∀b∈d,∃h,e b=some h)∧
 ∃C,e.cell ⟨a,2,none⟩=some (Value.int .u32 C)∧
 a∈d∧∃J,e.cell ⟨a,3,none⟩=some (Value.int .u32 J)∧
 FnW Tryz.prog Zor ⟨[(Value.int .u32 C)]⟩ e fun W m=>
 ∃D F E,W=Value.slice D F E∧
 Zb d e m∧AppW Tryz.prog #[Zd,Zd] Zd [(Value.slice z B A),(Value.slice D F E)] m fun X n=>
 ∃G I H,X=Value.slice G I H∧
 Zb d e n∧FnW Tryz.prog Zor ⟨[(Value.int .u32 J)]⟩ n fun Y P=>
 ∃K M L,Y=Value.slice K M L∧
 AppW Tryz.prog #[Zd,Zd] Zd [(Value.slice G I H),(Value.slice K M L)] P fun Z g=>
 ∃i k j,Z=Value.slice i k j∧
 ∃N,g.cell ⟨a,7,none⟩=some (Value.int .i64 N)∧
 IfB (decide (N>0))
 (Ztk o p a i k j 6 g f)
 (Ztk o p a i k j 5 g f)))
def Zbop (d e x y z A B C D E:Int) (F:Option Addr) (H G:Nat) (v:Heap) (c:Value->Heap->Prop):Prop:=
 NewW v (Obj.cells ⟨[(Value.int .i64 x),(Value.int .i64 y),(Value.int .u32 z),(Value.int .u32 A),(Value.int .i64 B),(Value.int .i64 C),(Value.int .i64 D),(Value.int .i64 E),(Value.slice F H G)]⟩ Zq) fun a i=>
 ∃j,i.cell ⟨a,0,none⟩=some (Value.int .i64 j)∧
 FnW Tryz.prog Zhy ⟨[(Value.int .i64 j)]⟩ i fun I f=>
 ∃k,I=Value.bool k∧
 IfB (!k)
 (Zgm d e a true f c)
 (∃l,f.cell ⟨a,1,none⟩=some (Value.int .i64 l)∧
 FnW Tryz.prog Zhy ⟨[(Value.int .i64 l)]⟩ f fun J b=>
 ∃m,J=Value.bool m∧
 IfB (!m)
 (Zgm d e a true b c)
 (∃n,b.cell ⟨a,4,none⟩=some (Value.int .i64 n)∧
 IfB (decide (n<0))
 (Zgm d e a true b c)
 (∃o,b.cell ⟨a,4,none⟩=some (Value.int .i64 o)∧
 IfB (decide (o>63))
 (Zgm d e a true b c)
 (∃p,b.cell ⟨a,5,none⟩=some (Value.int .i64 p)∧
 FnW Tryz.prog Zhy ⟨[(Value.int .i64 p)]⟩ b fun K g=>
 ∃q,K=Value.bool q∧
 IfB (!q)
 (Zgm d e a true g c)
 (∃r,g.cell ⟨a,6,none⟩=some (Value.int .i64 r)∧
 FnW Tryz.prog Zhy ⟨[(Value.int .i64 r)]⟩ g fun L h=>
 ∃s,L=Value.bool s∧
 IfB (!s)
 (Zgm d e a true h c)
 (∃t,h.cell ⟨a,7,none⟩=some (Value.int .i64 t)∧
 FnW Tryz.prog Zhy ⟨[(Value.int .i64 t)]⟩ h fun M w=>
 ∃u,M=Value.bool u∧
 Zgm d e a (!u) w c))))))
theorem Zchb (d p e f g h i j k l:Int) (m:Option Addr) (o n:Nat) {a:Heap} {c:Value->Heap->Prop} (r:Zbop d p e f g h i j k l m o n a fun s q=>∀b,Shut a q b->c s b):FnW Tryz.prog Zjp ⟨[(Value.int .u32 d),(Value.int .u32 p),(Value.agg ⟨[(Value.int .i64 e),(Value.int .i64 f),(Value.int .u32 g),(Value.int .u32 h),(Value.int .i64 i),(Value.int .i64 j),(Value.int .i64 k),(Value.int .i64 l),(Value.slice m o n)]⟩)]⟩ a c:=Zc Tryz.func11 ⟨[(5,[0,1,3,4,2,5,6,7],[57]),(6,[0,1,2,5,6,3,4,7,8,9],[66]),(11,[0,1,2,7,8,5,3,4,6,9,10,11],[89]),(13,[0,3,4,1,2,5,6,7],[99])],[],[],[(11,⟨5,[7,8],[0,1,2,3,4],[6],[9,10,11],[3,4]⟩)]⟩ (by kernel_rfl) (by kernel_rfl) r
def Znj (w x b:Nat) (c:Int) (a:Heap) (t:Value->Heap->Prop):Prop:=
 ∃m,a.cell ⟨w,x,none⟩=some (Value.int .u32 m)∧
 ∃n,a.cell ⟨b,0,none⟩=some (Value.int .i64 n)∧
 ∃o,a.cell ⟨b,1,none⟩=some (Value.int .i64 o)∧
 ∃p,a.cell ⟨b,2,none⟩=some (Value.int .u32 p)∧
 ∃q,a.cell ⟨b,3,none⟩=some (Value.int .u32 q)∧
 ∃r,a.cell ⟨b,4,none⟩=some (Value.int .i64 r)∧
 ∃d,a.cell ⟨b,5,none⟩=some (Value.int .i64 d)∧
 ∃e,a.cell ⟨b,6,none⟩=some (Value.int .i64 e)∧
 ∃f,a.cell ⟨b,7,none⟩=some (Value.int .i64 f)∧
 ∃g i h,a.cell ⟨b,8,none⟩=some (Value.slice g i h)∧
 FnW Tryz.prog Zjp ⟨[(Value.int .u32 c),(Value.int .u32 m),(Value.agg ⟨[(Value.int .i64 n),(Value.int .i64 o),(Value.int .u32 p),(Value.int .u32 q),(Value.int .i64 r),(Value.int .i64 d),(Value.int .i64 e),(Value.int .i64 f),(Value.slice g i h)]⟩)]⟩ a fun v s=>
 ∃j l k,∃u:Int,v=(Value.tuple ⟨[(Value.slice j l k),(Value.int .i64 u)]⟩)∧
 t (Value.tuple ⟨[(Value.int .u32 c),(Value.slice j l k)]⟩) s
def Ztc (B C d:Nat) (D:Int) (e:Nat) (E:Bool) (f:Heap) (m:Value->Heap->Prop):Prop:=
 IfB E
 (∃a:List Nat,(∀b∈a,∃h,f b=some h)∧
 d∈a∧∃n,f.cell ⟨d,2,none⟩=some (Value.int .u32 n)∧
 ∃o,f.cell ⟨e,2,none⟩=some (Value.pointer o)∧
 FnW Tryz.prog Zjj ⟨[(Value.pointer o)]⟩ f fun F j=>
 ∃p,F=Value.int .u32 p∧
 Zb a f j∧Za j ⟨d,2,none⟩ (Value.int .u32 (IntKind.wrap .u32 (n+p))) fun g=>
 ∃q,g.cell ⟨d,3,none⟩=some (Value.int .u32 q)∧
 ∃r,g.cell ⟨e,2,none⟩=some (Value.pointer r)∧
 NilP r fun s=>
 ∃t,g.cell ⟨s.block,s.off+4,none⟩=some (Value.pointer t)∧
 NilP t fun G=>
 ∃u,g.cell G=some (Value.int .u32 u)∧
 Za g ⟨d,3,none⟩ (Value.int .u32 (IntKind.wrap .u32 (q+u))) fun c=>
 ∃a:List Nat,(∀b∈a,∃h,c b=some h)∧
 ∃v,c.cell ⟨e,2,none⟩=some (Value.pointer v)∧
 NilP v fun w=>
 ∃x,c.cell ⟨w.block,w.off+2,none⟩=some (Value.int .i64 x)∧
 e∈a∧∃y,c.cell ⟨e,2,none⟩=some (Value.pointer y)∧
 NilP y fun i=>
 i.block∈a∧∃z,c.cell ⟨i.block,i.off+1,none⟩=some (Value.int .i64 z)∧
 e∈a∧∃A,c.cell ⟨e,1,none⟩=some (Value.int .u32 A)∧
 Za c ⟨d,0,none⟩ (Value.int .i64 x) fun k=>
 Zb a c k∧Za k ⟨d,1,none⟩ (Value.int .i64 z) fun l=>
 Zb a c l∧Znj B C d A l m)
 (Znj B C d D f m)
def Zboa (g h:Nat) (a2 a3 b3 b4 b5:Int) (b6:Option Addr) (b8 b7:Nat) (b9 c0 c1 c2 a4 a5 a6 a7:Int) (a8:Option Addr) (b0 a9:Nat) (b1 b2:Bool) (N:Heap) (j:Value->Heap->Prop):Prop:=
 NewW N (Obj.cells ⟨[(Value.int .i64 a2),(Value.int .i64 a3),(Value.int .i64 b3),(Value.int .i64 b4),(Value.int .u32 b5),(Value.slice b6 b8 b7),(Value.int .i64 b9),(Value.int .i64 c0),(Value.int .u32 c1),(Value.int .u32 c2),(Value.int .i64 a4),(Value.int .i64 a5),(Value.int .i64 a6),(Value.int .i64 a7),(Value.slice a8 b0 a9),(Value.bool b1),(Value.bool b2)]⟩ Zey) fun c a=>
 ∃p,a.cell ⟨c,15,none⟩=some (Value.bool p)∧
 IfB (!p)
 (∃q,a.cell ⟨c,4,none⟩=some (Value.int .u32 q)∧
 ∃r c4 l,a.cell ⟨c,5,none⟩=some (Value.slice r c4 l)∧
 ∃c5 s c6,a.cell ⟨c,5,none⟩=some (Value.slice c5 s c6)∧
 InC (min (s:Int) 100) l fun c7=>
 j (Value.tuple ⟨[(Value.int .u32 q),(Value.slice r c7 l)]⟩) a)
 (∃k:List Nat,(∀b∈k,∃c3,a b=some c3)∧
 ∃t,a.cell ⟨c,6,none⟩=some (Value.int .i64 t)∧∃u,a.cell ⟨c,7,none⟩=some (Value.int .i64 u)∧∃v,a.cell ⟨c,8,none⟩=some (Value.int .u32 v)∧∃w,a.cell ⟨c,9,none⟩=some (Value.int .u32 w)∧∃x,a.cell ⟨c,10,none⟩=some (Value.int .i64 x)∧∃y,a.cell ⟨c,11,none⟩=some (Value.int .i64 y)∧∃z,a.cell ⟨c,12,none⟩=some (Value.int .i64 z)∧∃A,a.cell ⟨c,13,none⟩=some (Value.int .i64 A)∧∃B D C,a.cell ⟨c,14,none⟩=some (Value.slice B D C)∧c∈k∧∃m,a.cell ⟨c,4,none⟩=some (Value.int .u32 m)∧
 NewW a (Obj.cells ⟨[(Value.int .i64 0),(Value.int .i64 0),(Value.int .u32 0),(Value.int .u32 0),(Value.int .i64 0),(Value.int .i64 0),(Value.int .i64 0),(Value.int .i64 0),(Value.slice none 0 0)]⟩ Zl) fun d U=>
 Za U ⟨d,0,none⟩ (Value.int .i64 t) fun V=>
 Za V ⟨d,1,none⟩ (Value.int .i64 u) fun W=>
 Za W ⟨d,2,none⟩ (Value.int .u32 v) fun X=>
 Za X ⟨d,3,none⟩ (Value.int .u32 w) fun Y=>
 Za Y ⟨d,4,none⟩ (Value.int .i64 x) fun Z=>
 Za Z ⟨d,5,none⟩ (Value.int .i64 y) fun a0=>
 Za a0 ⟨d,6,none⟩ (Value.int .i64 z) fun a1=>
 Za a1 ⟨d,7,none⟩ (Value.int .i64 A) fun O=>
 Za O ⟨d,8,none⟩ (Value.slice B D C) fun f=>
 Zb k a f∧∃E c8 n,f.cell ⟨d,8,none⟩=some (Value.slice E c8 n)∧
 ∃c9 F d0,f.cell ⟨d,8,none⟩=some (Value.slice c9 F d0)∧
 InC (min (F:Int) 60) n fun d1=>
 Za f ⟨d,8,none⟩ (Value.slice E d1 n) fun o=>
 ∃G,o.cell ⟨c,3,none⟩=some (Value.int .i64 G)∧
 FnW Tryz.prog Zyb ⟨[(Value.pointer (some ⟨g,h,none⟩)),(Value.int .i64 G)]⟩ o fun d2 P=>
 ∃H,d2=Value.int .i64 H∧
 FnW Tryz.prog Zwe ⟨[(Value.pointer (some ⟨g,h,none⟩)),(Value.int .i64 H)]⟩ P fun d3 Q=>
 ∃I,∃J:Int,∃K:Option Addr,∃L:Bool,d3=(Value.tuple ⟨[(Value.agg ⟨[(Value.int .i64 I),(Value.int .u32 J),(Value.pointer K)]⟩),(Value.bool L)]⟩)∧
 NewW Q (Obj.cells ⟨[(Value.int .i64 0),(Value.int .u32 0),(Value.pointer none)]⟩ Zfe) fun e R=>
 Za R ⟨e,0,none⟩ (Value.int .i64 I) fun S=>
 Za S ⟨e,1,none⟩ (Value.int .u32 J) fun T=>
 Za T ⟨e,2,none⟩ (Value.pointer K) fun i=>
 IfB L
 (∃M,i.cell ⟨c,16,none⟩=some (Value.bool M)∧
 Ztc g h d m e M i j)
 (Ztc g h d m e false i j))
theorem Zcgq (y z:Nat) (d e o p q:Int) (r:Option Addr) (t s:Nat) (u v w x f g h i:Int) (j:Option Addr) (l k:Nat) (m n:Bool) {a:Heap} {c:Value->Heap->Prop} (B:Zboa y z d e o p q r t s u v w x f g h i j l k m n a fun C A=>∀b,Shut a A b->c C b):FnW Tryz.prog Zpu ⟨[(Value.pointer (some ⟨y,z,none⟩)),(Value.agg ⟨[(Value.int .i64 d),(Value.int .i64 e),(Value.int .i64 o),(Value.int .i64 p),(Value.int .u32 q),(Value.slice r t s),(Value.int .i64 u),(Value.int .i64 v),(Value.int .u32 w),(Value.int .u32 x),(Value.int .i64 f),(Value.int .i64 g),(Value.int .i64 h),(Value.int .i64 i),(Value.slice j l k),(Value.bool m),(Value.bool n)]⟩)]⟩ a c:=Zc Tryz.func13 ⟨[(3,[0,1,2,3,4,5,6],[27]),(7,[0,1,2,3,4,5,6,7],[51]),(9,[0,1,2,3,4,5,6,7,8,9,10,11,12,13,14,15,16],[75,78,80])],[],[],[]⟩ (by kernel_rfl) (by kernel_rfl) B
def Zbbr (a3:Nat) (a2:Int) (d:Nat) (c:Heap) (e:Value->Heap->Prop):Prop:=
 ∃f,c.cell ⟨d,0,none⟩=some (Value.int .i64 f)∧∃g,c.cell ⟨d,1,none⟩=some (Value.int .i64 g)∧∃h,c.cell ⟨d,2,none⟩=some (Value.int .u32 h)∧∃i,c.cell ⟨d,3,none⟩=some (Value.int .u32 i)∧∃j,c.cell ⟨d,4,none⟩=some (Value.int .i64 j)∧∃k,c.cell ⟨d,5,none⟩=some (Value.int .i64 k)∧∃l,c.cell ⟨d,6,none⟩=some (Value.int .i64 l)∧∃m,c.cell ⟨d,7,none⟩=some (Value.int .i64 m)∧∃n p o,c.cell ⟨d,8,none⟩=some (Value.slice n p o)∧FnW Tryz.prog Zot ⟨[(Value.agg ⟨[(Value.int .i64 f),(Value.int .i64 g),(Value.int .u32 h),(Value.int .u32 i),(Value.int .i64 j),(Value.int .i64 k),(Value.int .i64 l),(Value.int .i64 m),(Value.slice n p o)]⟩)]⟩ c fun a4 Q=>
 ∃q,∃r:Int,∃s:Int,∃t:Int,∃u:Int,∃v:Int,∃w:Int,∃x:Int,∃(y:Option Addr) (A z:Nat),∃B:Bool,a4=(Value.tuple ⟨[(Value.agg ⟨[(Value.int .i64 q),(Value.int .i64 r),(Value.int .u32 s),(Value.int .u32 t),(Value.int .i64 u),(Value.int .i64 v),(Value.int .i64 w),(Value.int .i64 x),(Value.slice y A z)]⟩),(Value.bool B)]⟩)∧
 NewW Q (Obj.cells ⟨[(Value.int .i64 0),(Value.int .i64 0),(Value.int .u32 0),(Value.int .u32 0),(Value.int .i64 0),(Value.int .i64 0),(Value.int .i64 0),(Value.int .i64 0),(Value.slice none 0 0)]⟩ Zq) fun a R=>
 Za R ⟨a,0,none⟩ (Value.int .i64 q) fun S=>
 Za S ⟨a,1,none⟩ (Value.int .i64 r) fun T=>
 Za T ⟨a,2,none⟩ (Value.int .u32 s) fun U=>
 Za U ⟨a,3,none⟩ (Value.int .u32 t) fun V=>
 Za V ⟨a,4,none⟩ (Value.int .i64 u) fun W=>
 Za W ⟨a,5,none⟩ (Value.int .i64 v) fun X=>
 Za X ⟨a,6,none⟩ (Value.int .i64 w) fun Y=>
 Za Y ⟨a,7,none⟩ (Value.int .i64 x) fun Z=>
 Za Z ⟨a,8,none⟩ (Value.slice y A z) fun b=>
 IfB (!B)
 (e (Value.tuple ⟨[(Value.slice none 0 0),(Value.slice none 0 0),(Value.int .i64 0)]⟩) b)
 (∃C,b.cell ⟨a,0,none⟩=some (Value.int .i64 C)∧∃D,b.cell ⟨a,1,none⟩=some (Value.int .i64 D)∧∃E,b.cell ⟨a,2,none⟩=some (Value.int .u32 E)∧∃F,b.cell ⟨a,3,none⟩=some (Value.int .u32 F)∧∃G,b.cell ⟨a,4,none⟩=some (Value.int .i64 G)∧∃H,b.cell ⟨a,5,none⟩=some (Value.int .i64 H)∧∃I,b.cell ⟨a,6,none⟩=some (Value.int .i64 I)∧∃J,b.cell ⟨a,7,none⟩=some (Value.int .i64 J)∧∃K M L,b.cell ⟨a,8,none⟩=some (Value.slice K M L)∧NewW b (Obj.cells ⟨[(Value.int .i64 C),(Value.int .i64 D),(Value.int .u32 E),(Value.int .u32 F),(Value.int .i64 G),(Value.int .i64 H),(Value.int .i64 I),(Value.int .i64 J),(Value.slice K M L)]⟩ Zq) fun a5 a0=>
 FnW Tryz.prog Zjx ⟨[(Value.pointer (some ⟨a3,0,none⟩)),(Value.int .u32 a2),(Value.slice (some ⟨a5,0,none⟩) 1 1)]⟩ a0 fun a6 a1=>
 ∃N P O,a6=Value.slice N P O∧
 e (Value.tuple ⟨[(Value.slice N P O),(Value.slice none 0 0),(Value.int .i64 0)]⟩) a1)
def Zfr (d:Nat) (Q i:Int) (c:Nat) (S:Bool) (a:Heap) (h:Value->Heap->Prop):Prop:=
 IfB S
 (∃T k U,a.cell ⟨d,3,none⟩=some (Value.slice T k U)∧
 IfB (decide (((k:Int):Int)≥16))
 (h (Value.tuple ⟨[(Value.slice none 0 0),(Value.slice none 0 0),(Value.int .i64 0)]⟩) a)
 (∃e:List Nat,(∀b∈e,∃R,a b=some R)∧
 c∈e∧∃l,a.cell ⟨c,0,none⟩=some (Value.int .i64 l)∧∃m,a.cell ⟨c,1,none⟩=some (Value.int .i64 m)∧∃n,a.cell ⟨c,2,none⟩=some (Value.int .u32 n)∧∃o,a.cell ⟨c,3,none⟩=some (Value.int .u32 o)∧∃p,a.cell ⟨c,4,none⟩=some (Value.int .i64 p)∧∃q,a.cell ⟨c,5,none⟩=some (Value.int .i64 q)∧∃r,a.cell ⟨c,6,none⟩=some (Value.int .i64 r)∧∃s,a.cell ⟨c,7,none⟩=some (Value.int .i64 s)∧∃t v u,a.cell ⟨c,8,none⟩=some (Value.slice t v u)∧FnW Tryz.prog Zpn ⟨[(Value.pointer (some ⟨d,0,none⟩))]⟩ a fun V j=>
 ∃w,V=Value.int .u32 w∧
 Zb e a j∧FnW Tryz.prog Zxo ⟨[(Value.int .i64 Q),(Value.agg ⟨[(Value.int .i64 l),(Value.int .i64 m),(Value.int .u32 n),(Value.int .u32 o),(Value.int .i64 p),(Value.int .i64 q),(Value.int .i64 r),(Value.int .i64 s),(Value.slice t v u)]⟩),(Value.int .u32 w)]⟩ j fun X f=>
 ∃x,∃(y:Option Addr) (A z:Nat),∃W:Int,X=(Value.tuple ⟨[(Value.pointer x),(Value.slice y A z),(Value.int .i64 W)]⟩)∧
 Zb e a f∧∃B,f.cell ⟨d,4,none⟩=some (Value.int .i64 B)∧
 Za f ⟨d,4,none⟩ (Value.int .i64 (IntKind.wrap .i64 (B+1))) fun g=>
 ∃C E D,g.cell ⟨d,3,none⟩=some (Value.slice C E D)∧
 ∃F,g.cell ⟨d,4,none⟩=some (Value.int .i64 F)∧
 NewW g (Obj.cells ⟨[(Value.int .i64 F),(Value.int .u32 i),(Value.pointer x)]⟩ Zfe) fun Y M=>
 AppW Tryz.prog #[Zdy,Zdy] Zdy [(Value.slice C E D),(Value.slice (some ⟨Y,0,none⟩) 1 1)] M fun Z N=>
 ∃G I H,Z=Value.slice G I H∧
 Za N ⟨d,3,none⟩ (Value.slice G I H) fun O=>
 FnW Tryz.prog Zjx ⟨[(Value.pointer (some ⟨d,0,none⟩)),(Value.int .u32 i),(Value.slice y A z)]⟩ O fun a0 P=>
 ∃J L K,a0=Value.slice J L K∧
 h (Value.tuple ⟨[(Value.slice J L K),(Value.slice none 0 0),(Value.int .i64 0)]⟩) P))
 (Zbbr d i c a h)
def Zbnl (c:Nat) (h g:Int) (e4:Option Addr) (e6 e5:Nat) (p:Heap) (f:Value->Heap->Prop):Prop:=
 ∃z,p.cell ⟨c,5,none⟩=some (Value.int .i64 z)∧
 IfB (decide (h<z))
 (f (Value.tuple ⟨[(Value.slice none 0 0),(Value.slice none 0 0),(Value.int .i64 2)]⟩) p)
 (Za p ⟨c,5,none⟩ (Value.int .i64 h) fun r=>
 ∃A,r.cell ⟨c,0,none⟩=some (Value.int .u32 A)∧
 FnW Tryz.prog Zxw ⟨[(Value.int .u32 g),(Value.int .u32 A),(Value.slice e4 e6 e5)]⟩ r fun f1 d3=>
 ∃B,∃C:Int,∃D:Int,∃E:Int,∃F:Int,∃G:Int,∃H:Int,∃I:Int,∃(J:Option Addr) (L K:Nat),∃M:Int,f1=(Value.tuple ⟨[(Value.agg ⟨[(Value.int .i64 B),(Value.int .i64 C),(Value.int .u32 D),(Value.int .u32 E),(Value.int .i64 F),(Value.int .i64 G),(Value.int .i64 H),(Value.int .i64 I),(Value.slice J L K)]⟩),(Value.int .i64 M)]⟩)∧
 NewW d3 (Obj.cells ⟨[(Value.int .i64 0),(Value.int .i64 0),(Value.int .u32 0),(Value.int .u32 0),(Value.int .i64 0),(Value.int .i64 0),(Value.int .i64 0),(Value.int .i64 0),(Value.slice none 0 0)]⟩ Zq) fun a d7=>
 Za d7 ⟨a,0,none⟩ (Value.int .i64 B) fun d8=>
 Za d8 ⟨a,1,none⟩ (Value.int .i64 C) fun d9=>
 Za d9 ⟨a,2,none⟩ (Value.int .u32 D) fun e0=>
 Za e0 ⟨a,3,none⟩ (Value.int .u32 E) fun e1=>
 Za e1 ⟨a,4,none⟩ (Value.int .i64 F) fun e2=>
 Za e2 ⟨a,5,none⟩ (Value.int .i64 G) fun e3=>
 Za e3 ⟨a,6,none⟩ (Value.int .i64 H) fun c6=>
 Za c6 ⟨a,7,none⟩ (Value.int .i64 I) fun c7=>
 Za c7 ⟨a,8,none⟩ (Value.slice J L K) fun o=>
 IfB (M !=0)
 (f (Value.tuple ⟨[(Value.slice none 0 0),(Value.slice none 0 0),(Value.int .i64 0)]⟩) o)
 (∃N,o.cell ⟨a,0,none⟩=some (Value.int .i64 N)∧
 ∃O,o.cell ⟨a,1,none⟩=some (Value.int .i64 O)∧
 FnW Tryz.prog Zpv ⟨[(Value.pointer (some ⟨c,0,none⟩)),(Value.int .u32 g),(Value.int .i64 N),(Value.int .i64 O)]⟩ o fun f2 j=>
 ∃q,f2=Value.int .i64 q∧
 IfB (decide (q≥0))
 (∃P Q f3,j.cell ⟨c,3,none⟩=some (Value.slice P Q f3)∧
 NilP P fun f5=>
 InB q Q fun f4=>
 elemAt f5 f4 3 fun n=>
 ∃R,j.cell n=some (Value.int .i64 R)∧∃S,j.cell ⟨n.block,n.off+1,none⟩=some (Value.int .u32 S)∧∃T,j.cell ⟨n.block,n.off+2,none⟩=some (Value.pointer T)∧NewW j (Obj.cells ⟨[(Value.int .i64 0),(Value.int .u32 0),(Value.pointer none)]⟩ Zfe) fun i c8=>
 Za c8 ⟨i,0,none⟩ (Value.int .i64 R) fun c9=>
 Za c9 ⟨i,1,none⟩ (Value.int .u32 S) fun d0=>
 Za d0 ⟨i,2,none⟩ (Value.pointer T) fun s=>
 ∃U,s.cell ⟨i,2,none⟩=some (Value.pointer U)∧
 FnW Tryz.prog Zpx ⟨[(Value.pointer U)]⟩ s fun f6 d1=>
 ∃V,∃W:Int,f6=(Value.agg ⟨[(Value.int .i64 V),(Value.int .i64 W)]⟩)∧
 NewW d1 (Obj.cells ⟨[(Value.int .i64 0),(Value.int .i64 0)]⟩ Ziy) fun l d2=>
 Za d2 ⟨l,0,none⟩ (Value.int .i64 V) fun d4=>
 Za d4 ⟨l,1,none⟩ (Value.int .i64 W) fun e=>
 ∃X,e.cell ⟨i,2,none⟩=some (Value.pointer X)∧
 ∃Y,e.cell ⟨a,0,none⟩=some (Value.int .i64 Y)∧∃Z,e.cell ⟨a,1,none⟩=some (Value.int .i64 Z)∧∃a0,e.cell ⟨a,2,none⟩=some (Value.int .u32 a0)∧∃a1,e.cell ⟨a,3,none⟩=some (Value.int .u32 a1)∧∃a2,e.cell ⟨a,4,none⟩=some (Value.int .i64 a2)∧∃a3,e.cell ⟨a,5,none⟩=some (Value.int .i64 a3)∧∃a4,e.cell ⟨a,6,none⟩=some (Value.int .i64 a4)∧∃a5,e.cell ⟨a,7,none⟩=some (Value.int .i64 a5)∧∃a6 a8 a7,e.cell ⟨a,8,none⟩=some (Value.slice a6 a8 a7)∧FnW Tryz.prog Zxs ⟨[(Value.pointer X),(Value.int .i64 h),(Value.agg ⟨[(Value.int .i64 Y),(Value.int .i64 Z),(Value.int .u32 a0),(Value.int .u32 a1),(Value.int .i64 a2),(Value.int .i64 a3),(Value.int .i64 a4),(Value.int .i64 a5),(Value.slice a6 a8 a7)]⟩)]⟩ e fun f8 k=>
 ∃a9 b1 b0,∃f7:Int,f8=(Value.tuple ⟨[(Value.slice a9 b1 b0),(Value.int .i64 f7)]⟩)∧
 ∃m:List Nat,(∀b∈m,∃e7,k b=some e7)∧
 i∈m∧∃b5,k.cell ⟨i,0,none⟩=some (Value.int .i64 b5)∧
 l∈m∧∃b6,k.cell ⟨l,0,none⟩=some (Value.int .i64 b6)∧∃b7,k.cell ⟨l,1,none⟩=some (Value.int .i64 b7)∧i∈m∧∃b8,k.cell ⟨i,2,none⟩=some (Value.pointer b8)∧
 FnW Tryz.prog Zjx ⟨[(Value.pointer (some ⟨c,0,none⟩)),(Value.int .u32 g),(Value.slice a9 b1 b0)]⟩ k fun f9 t=>
 ∃b2 b4 b3,f9=Value.slice b2 b4 b3∧
 Zb m k t∧FnW Tryz.prog Zxi ⟨[(Value.pointer (some ⟨c,0,none⟩)),(Value.int .i64 b5),(Value.agg ⟨[(Value.int .i64 b6),(Value.int .i64 b7)]⟩),(Value.pointer b8)]⟩ t fun g0 d5=>
 ∃b9 c1 c0,g0=Value.slice b9 c1 c0∧
 f (Value.tuple ⟨[(Value.slice b2 b4 b3),(Value.slice b9 c1 c0),(Value.int .i64 0)]⟩) d5)
 (∃c2,j.cell ⟨a,1,none⟩=some (Value.int .i64 c2)∧
 FnW Tryz.prog Zwf ⟨[(Value.pointer (some ⟨c,0,none⟩)),(Value.int .i64 c2)]⟩ j fun g1 d=>
 ∃c3,g1=Value.bool c3∧
 IfB c3
 (∃c4,d.cell ⟨a,4,none⟩=some (Value.int .i64 c4)∧
 (2:Int)≠0∧
 IfB (((Int.tmod c4 2):Int)==0)
 (∃c5,d.cell ⟨a,4,none⟩=some (Value.int .i64 c5)∧
 (2:Int)≠0∧
 (2:Int)≠0∧
 IfB (((Int.tmod (IntKind.wrap .i64 (Int.tdiv c5 2)) 2):Int)==1)
 (∃u,d.cell ⟨a,4,none⟩=some (Value.int .i64 u)∧
 (4:Int)≠0∧
 (2:Int)≠0∧
 IfB (((Int.tmod (IntKind.wrap .i64 (Int.tdiv u 4)) 2):Int)==0)
 (∃v,d.cell ⟨a,4,none⟩=some (Value.int .i64 v)∧
 (16:Int)≠0∧
 (2:Int)≠0∧
 IfB (((Int.tmod (IntKind.wrap .i64 (Int.tdiv v 16)) 2):Int)==0)
 (∃e8 w e9,d.cell ⟨a,8,none⟩=some (Value.slice e8 w e9)∧
 IfB (((w:Int):Int)==0)
 (∃x,d.cell ⟨a,0,none⟩=some (Value.int .i64 x)∧
 FnW Tryz.prog Zoq ⟨[(Value.int .i64 x)]⟩ d fun f0 d6=>
 ∃y,f0=Value.bool y∧
 Zfr c h g a y d6 f)
 (Zfr c h g a false d f))
 (Zfr c h g a false d f))
 (Zfr c h g a false d f))
 (Zfr c h g a false d f))
 (Zfr c h g a false d f))
 (Zfr c h g a false d f))))
theorem Zcgh (i:Nat) (h g:Int) (d:Option Addr) (f e:Nat) {a:Heap} {c:Value->Heap->Prop} (k:Zbnl i h g d f e a fun l j=>∀b,Shut a j b->c l b):FnW Tryz.prog Zpt ⟨[(Value.pointer (some ⟨i,0,none⟩)),(Value.int .i64 h),(Value.int .u32 g),(Value.slice d f e)]⟩ a c:=Zc Tryz.func14 ⟨[(12,[0,1,2,4,5,6,7,8,9,3,10,11,12,13],[78,79,81]),(16,[0,1,2,3,4,5,6,7,8,9,10,11],[133])],[],[],[]⟩ (by kernel_rfl) (by kernel_rfl) k
def Zbjj (c:Int) (a:Heap) (b:Value->Heap->Prop):Prop:=
 IfB (decide (c≥1))
 (b (Value.bool (decide (c <= 65535))) a)
 (b (Value.bool false) a)
theorem Zcck (d:Int) {a:Heap} {c:Value->Heap->Prop} (f:Zbjj d a fun g e=>∀b,Shut a e b->c g b):FnW Tryz.prog Zoq ⟨[(Value.int .i64 d)]⟩ a c:=Zc Tryz.func34 ⟨[],[],[],[]⟩ (by kernel_rfl) (by kernel_rfl) f
def Zbod (g:Nat) (f e h b:Int) (c:(Int×Unit)->Heap->Prop) (a:Heap) (d:Value->Heap->Prop):Prop:=
 c ((IntKind.wrap .i64 (b+1)),()) a
def Znk (g:Nat) (f d h c:Int) (e:(Int×Unit)->Heap->Prop) (i:Bool) (a:Heap) (b:Value->Heap->Prop):Prop:=
 IfB i
 (b (Value.int .i64 c) a)
 (Zbod g f d h c e a b)
def Zboe (c:Nat) (f e g b:Int) (a:Heap) (h:(Int×Unit)->Heap->Prop) (d:Value->Heap->Prop):Prop:=
 ∃z i A,a.cell ⟨c,3,none⟩=some (Value.slice z i A)∧
 IfB (decide (b<(i:Int)))
 (∃j k B,a.cell ⟨c,3,none⟩=some (Value.slice j k B)∧
 NilP j fun D=>
 InB b k fun C=>
 elemAt D C 3 fun l=>
 ∃m,a.cell ⟨l.block,l.off+1,none⟩=some (Value.int .u32 m)∧
 IfB (m==f)
 (∃n o E,a.cell ⟨c,3,none⟩=some (Value.slice n o E)∧
 NilP n fun G=>
 InB b o fun F=>
 elemAt G F 3 fun p=>
 ∃q,a.cell ⟨p.block,p.off+2,none⟩=some (Value.pointer q)∧
 NilP q fun r=>
 ∃s,a.cell ⟨r.block,r.off+2,none⟩=some (Value.int .i64 s)∧
 IfB (s==e)
 (∃t u H,a.cell ⟨c,3,none⟩=some (Value.slice t u H)∧
 NilP t fun J=>
 InB b u fun I=>
 elemAt J I 3 fun v=>
 ∃w,a.cell ⟨v.block,v.off+2,none⟩=some (Value.pointer w)∧
 NilP w fun x=>
 ∃y,a.cell ⟨x.block,x.off+1,none⟩=some (Value.int .i64 y)∧
 Znk c f e g b h (y==g) a d)
 (Znk c f e g b h false a d))
 (Znk c f e g b h false a d))
 (d (Value.int .i64 (-1)) a)
def Zbof (f:Nat) (e c g:Int) (a:Heap) (b:Value->Heap->Prop):Prop:=
 Zbk (Int×Unit) (0,()) a fun h a d=>∀i:Env,Zboe f e c g h.1 a d b
theorem Zcgs (f:Nat) (e d g:Int) {a:Heap} {c:Value->Heap->Prop} (i:Zbof f e d g a fun j h=>∀b,Shut a h b->c j b):FnW Tryz.prog Zpv ⟨[(Value.pointer (some ⟨f,0,none⟩)),(Value.int .u32 e),(Value.int .i64 d),(Value.int .i64 g)]⟩ a c:=Zc Tryz.func35 ⟨[],[(2,[9],[.int .i64],[0,1,2,3])],[],[]⟩ (by kernel_rfl) (by kernel_rfl) i
def Zuj (z y A d:Int) (B:Bool) (b:Heap) (c:Value->Heap->Prop):Prop:=
 IfB B
 (c (Value.tuple ⟨[(Value.pointer none),(Value.slice none 0 0),(Value.int .i64 2)]⟩) b)
 (NewW b (Obj.cells ⟨[(Value.int .i64 1),(Value.int .i64 y),(Value.int .i64 A),(Value.int .u32 d),(Value.pointer none),(Value.pointer none),(Value.bool false),(Value.bool false),(Value.bool false),(Value.bool false),(Value.int .i64 z),(Value.int .i64 (-1))]⟩ Zgn) fun a r=>
 FnW Tryz.prog Zdg ⟨[(Value.int .u32 d),(Value.int .i64 1)]⟩ r fun C s=>
 ∃e,C=Value.int .u32 e∧
 FnW Tryz.prog Zpw ⟨[(Value.int .u32 e),(Value.int .i64 4096),(Value.int .i64 0),(Value.int .i64 536)]⟩ s fun E t=>
 ∃f,∃D:Int,E=(Value.tuple ⟨[(Value.pointer f),(Value.int .i64 D)]⟩)∧
 Za t ⟨a,4,none⟩ (Value.pointer f) fun u=>
 FnW Tryz.prog Zmd ⟨[(Value.pointer (some ⟨a,0,none⟩))]⟩ u fun F v=>
 ∃g,∃h:Int,∃i:Int,∃j:Int,∃k:Int,∃l:Int,∃m:Int,∃n:Int,∃(o:Option Addr) (q p:Nat),F=(Value.agg ⟨[(Value.int .i64 g),(Value.int .i64 h),(Value.int .u32 i),(Value.int .u32 j),(Value.int .i64 k),(Value.int .i64 l),(Value.int .i64 m),(Value.int .i64 n),(Value.slice o q p)]⟩)∧
 NewW v (Obj.cells ⟨[(Value.int .i64 g),(Value.int .i64 h),(Value.int .u32 i),(Value.int .u32 j),(Value.int .i64 k),(Value.int .i64 l),(Value.int .i64 m),(Value.int .i64 n),(Value.slice o q p)]⟩ Zq) fun G w=>
 FnW Tryz.prog Zme ⟨[(Value.pointer (some ⟨a,0,none⟩))]⟩ w fun H x=>
 H=Value.tuple ⟨[]⟩∧
 c (Value.tuple ⟨[(Value.pointer (some ⟨a,0,none⟩)),(Value.slice (some ⟨G,0,none⟩) 1 1),(Value.int .i64 0)]⟩) x)
def Zbpw (b a c e:Int) (j:Heap) (d:Value->Heap->Prop):Prop:=
 FnW Tryz.prog Zjt ⟨[(Value.int .i64 a)]⟩ j fun k f=>
 ∃h,k=Value.bool h∧
 IfB (!h)
 (Zuj b a c e true f d)
 (FnW Tryz.prog Zjt ⟨[(Value.int .i64 c)]⟩ f fun l g=>
 ∃i,l=Value.bool i∧
 IfB (!i)
 (Zuj b a c e true g d)
 (Zuj b a c e (decide (b<0)) g d))
theorem Zcif (f e g d:Int) {a:Heap} {c:Value->Heap->Prop} (i:Zbpw f e g d a fun j h=>∀b,Shut a h b->c j b):FnW Tryz.prog Zya ⟨[(Value.int .i64 f),(Value.int .i64 e),(Value.int .i64 g),(Value.int .u32 d)]⟩ a c:=Zc Tryz.func36 ⟨[],[],[],[]⟩ (by kernel_rfl) (by kernel_rfl) i
def Zbly (b:Nat) (a:Heap) (g:Value->Heap->Prop):Prop:=
 ∃e,a.cell ⟨b,1,none⟩=some (Value.int .u32 e)∧
 ∃c,a.cell ⟨b,4,none⟩=some (Value.int .i64 c)∧
 FnW Tryz.prog Zdg ⟨[(Value.int .u32 e),(Value.int .i64 (IntKind.wrap .i64 (64000*(IntKind.wrap .i64 (c+1)))))]⟩ a fun h f=>
 ∃d,h=Value.int .u32 d∧
 g (Value.int .u32 d) f
theorem Zceq (d:Nat) {a:Heap} {c:Value->Heap->Prop} (f:Zbly d a fun g e=>∀b,Shut a e b->c g b):FnW Tryz.prog Zpn ⟨[(Value.pointer (some ⟨d,0,none⟩))]⟩ a c:=Zc Tryz.func37 ⟨[],[],[],[]⟩ (by kernel_rfl) (by kernel_rfl) f
def Zbqn (G:Nat) (h:Int) (E:Option Addr) (d N:Nat) (e:Option Addr) (g f:Nat) (c:Int) (b:Heap) (F:((Option Addr×Nat×Nat)×Int×Unit)->Heap->Prop) (D:Value->Heap->Prop):Prop:=
 IfB (decide (c<(d:Int)))
 (∃i,b.cell ⟨G,0,none⟩=some (Value.int .u32 i)∧
 NilP E fun I=>
 InB c d fun H=>
 elemAt I H 9 fun a=>
 ∃j,b.cell a=some (Value.int .i64 j)∧∃k,b.cell ⟨a.block,a.off+1,none⟩=some (Value.int .i64 k)∧∃l,b.cell ⟨a.block,a.off+2,none⟩=some (Value.int .u32 l)∧∃m,b.cell ⟨a.block,a.off+3,none⟩=some (Value.int .u32 m)∧∃n,b.cell ⟨a.block,a.off+4,none⟩=some (Value.int .i64 n)∧∃o,b.cell ⟨a.block,a.off+5,none⟩=some (Value.int .i64 o)∧∃p,b.cell ⟨a.block,a.off+6,none⟩=some (Value.int .i64 p)∧∃q,b.cell ⟨a.block,a.off+7,none⟩=some (Value.int .i64 q)∧∃r t s,b.cell ⟨a.block,a.off+8,none⟩=some (Value.slice r t s)∧FnW Tryz.prog Zjp ⟨[(Value.int .u32 i),(Value.int .u32 h),(Value.agg ⟨[(Value.int .i64 j),(Value.int .i64 k),(Value.int .u32 l),(Value.int .u32 m),(Value.int .i64 n),(Value.int .i64 o),(Value.int .i64 p),(Value.int .i64 q),(Value.slice r t s)]⟩)]⟩ b fun K A=>
 ∃u w v,∃J:Int,K=(Value.tuple ⟨[(Value.slice u w v),(Value.int .i64 J)]⟩)∧
 NewW A (Obj.cells ⟨[(Value.int .u32 h),(Value.slice u w v)]⟩ Zhs) fun L B=>
 AppW Tryz.prog #[Znz,Znz] Znz [(Value.slice e g f),(Value.slice (some ⟨L,0,none⟩) 1 1)] B fun M C=>
 ∃x z y,M=Value.slice x z y∧
 F ((x,z,y),((IntKind.wrap .i64 (c+1)),())) C)
 (D (Value.slice e g f) b)
def Zbqo (i:Nat) (j:Int) (e:Option Addr) (g f:Nat) (b:Heap) (d:Value->Heap->Prop):Prop:=
 NewW b (Obj.cells ⟨[]⟩ Zhs) fun k c=>
 Zbk ((Option Addr×Nat×Nat)×Int×Unit) (((some ⟨k,0,none⟩),0,0),(0,())) c fun a b h=>∀l:Env,Zbqn i j e g f a.1.1 a.1.2.1 a.1.2.2 a.2.1 b h d
theorem Zcis (g:Nat) (h:Int) (d:Option Addr) (f e:Nat) {a:Heap} {c:Value->Heap->Prop} (j:Zbqo g h d f e a fun k i=>∀b,Shut a i b->c k b):FnW Tryz.prog Zjx ⟨[(Value.pointer (some ⟨g,0,none⟩)),(Value.int .u32 h),(Value.slice d f e)]⟩ a c:=Zc Tryz.func38 ⟨[],[(3,[7,8],[.slice,.int .i64],[0,1,2])],[],[]⟩ (by kernel_rfl) (by kernel_rfl) j
def Zbor (c:Int) (a:Heap) (b:Value->Heap->Prop):Prop:=
 IfB (decide (c≥0))
 (b (Value.bool (decide (c <= 65535))) a)
 (b (Value.bool false) a)
theorem Zchd (d:Int) {a:Heap} {c:Value->Heap->Prop} (f:Zbor d a fun g e=>∀b,Shut a e b->c g b):FnW Tryz.prog Zhy ⟨[(Value.int .i64 d)]⟩ a c:=Zc Tryz.func39 ⟨[],[],[],[]⟩ (by kernel_rfl) (by kernel_rfl) f
def Zbnd (a:Int) (b:Heap) (d:Value->Heap->Prop):Prop:=
 (256:Int)≠0∧
 (256:Int)≠0∧
 (256:Int)≠0∧
 NewW b (Obj.cells ⟨[(Value.int .u8 (IntKind.wrap .u8 (Int.tmod (IntKind.wrap .i64 (Int.tdiv a 256)) 256))),(Value.int .u8 (IntKind.wrap .u8 (Int.tmod a 256)))]⟩ Zh) fun e c=>
 d (Value.slice (some ⟨e,0,none⟩) 2 2) c
theorem Zcgc (d:Int) {a:Heap} {c:Value->Heap->Prop} (f:Zbnd d a fun g e=>∀b,Shut a e b->c g b):FnW Tryz.prog Zdn ⟨[(Value.int .i64 d)]⟩ a c:=Zc Tryz.func40 ⟨[],[],[],[]⟩ (by kernel_rfl) (by kernel_rfl) f
def Zbjl (a:Int) (k:Heap) (o:Value->Heap->Prop):Prop:=
 (65536:Int)≠0∧
 FnW Tryz.prog Zdn ⟨[(Value.int .i64 (IntKind.wrap .i64 (IntKind.wrap .u32 (Int.tdiv a 65536))))]⟩ k fun r l=>
 ∃h j i,r=Value.slice h j i∧
 (65536:Int)≠0∧
 FnW Tryz.prog Zdn ⟨[(Value.int .i64 (IntKind.wrap .i64 (Int.tmod a 65536)))]⟩ l fun p m=>
 ∃b d c,p=Value.slice b d c∧
 AppW Tryz.prog #[Zd,Zd] Zd [(Value.slice h j i),(Value.slice b d c)] m fun q n=>
 ∃e g f,q=Value.slice e g f∧
 o (Value.slice e g f) n
theorem Zccl (d:Int) {a:Heap} {c:Value->Heap->Prop} (f:Zbjl d a fun g e=>∀b,Shut a e b->c g b):FnW Tryz.prog Zor ⟨[(Value.int .u32 d)]⟩ a c:=Zc Tryz.func41 ⟨[],[],[],[]⟩ (by kernel_rfl) (by kernel_rfl) f
def Zbkz (e:Int) (b:Heap) (d:Value->Heap->Prop):Prop:=
 FnW Tryz.prog Zmc ⟨[(Value.int .u32 e)]⟩ b fun f c=>
 ∃a,f=Value.int .u32 a∧
 d (Value.int .u16 (IntKind.wrap .u16 (IntKind.wrap .u32 (65535 - a)))) c
theorem Zcdn (d:Int) {a:Heap} {c:Value->Heap->Prop} (f:Zbkz d a fun g e=>∀b,Shut a e b->c g b):FnW Tryz.prog Zwi ⟨[(Value.int .u32 d)]⟩ a c:=Zc Tryz.func42 ⟨[],[],[],[]⟩ (by kernel_rfl) (by kernel_rfl) f
def Ztd (j:Option Addr) (l k:Nat) (e d:Int) (f:(Int×Int×Unit)->Heap->Prop) (g:Int) (b:Heap) (i:Value->Heap->Prop):Prop:=
 FnW Tryz.prog Zmc ⟨[(Value.int .u32 (IntKind.wrap .u32 (e+g)))]⟩ b fun h c=>
 ∃a,h=Value.int .u32 a∧
 f (a,((IntKind.wrap .i64 (d+2)),())) c
def Zbob (d:Option Addr) (a h:Nat) (f b:Int) (c:Heap) (i:(Int×Int×Unit)->Heap->Prop) (e:Value->Heap->Prop):Prop:=
 IfB (decide (b<(a:Int)))
 (NilP d fun m=>
 InB b a fun k=>
 elemAt m k 1 fun l=>
 ∃g,c.cell l=some (Value.int .u8 g)∧
 IfB (decide (((IntKind.wrap .i64 (b+1)):Int)<(a:Int)))
 (NilP d fun p=>
 InB (IntKind.wrap .i64 (b+1)) a fun n=>
 elemAt p n 1 fun o=>
 ∃j,c.cell o=some (Value.int .u8 j)∧
 Ztd d a h f b i (IntKind.wrap .u32 ((IntKind.wrap .u32 (256*(IntKind.wrap .u32 g)))+(IntKind.wrap .u32 j))) c e)
 (Ztd d a h f b i (IntKind.wrap .u32 (256*(IntKind.wrap .u32 g))) c e))
 (e (Value.int .u32 f) c)
def Zboc (j:Int) (f:Option Addr) (h g:Nat) (a:Heap) (e:Value->Heap->Prop):Prop:=
 FnW Tryz.prog Zmc ⟨[(Value.int .u32 j)]⟩ a fun k d=>
 ∃c,k=Value.int .u32 c∧
 Zbk (Int×Int×Unit) (c,(0,())) d fun b a i=>∀l:Env,Zbob f h g b.1 b.2.1 a i e
theorem Zcgr (g:Int) (d:Option Addr) (f e:Nat) {a:Heap} {c:Value->Heap->Prop} (i:Zboc g d f e a fun j h=>∀b,Shut a h b->c j b):FnW Tryz.prog Zly ⟨[(Value.int .u32 g),(Value.slice d f e)]⟩ a c:=Zc Tryz.func43 ⟨[],[(3,[5,6],[.int .u32,.int .i64],[1])],[],[]⟩ (by kernel_rfl) (by kernel_rfl) i
def Zbjn (a b i c:Int) (e:Heap) (h:Value->Heap->Prop):Prop:=
 (65536:Int)≠0∧
 (16777216:Int)≠0∧
 (65536:Int)≠0∧
 (256:Int)≠0∧
 (256:Int)≠0∧
 (256:Int)≠0∧
 (256:Int)≠0∧
 (16777216:Int)≠0∧
 (65536:Int)≠0∧
 (256:Int)≠0∧
 (256:Int)≠0∧
 (256:Int)≠0∧
 (256:Int)≠0∧
 (256:Int)≠0∧
 (256:Int)≠0∧
 NewW e (Obj.cells ⟨[(Value.int .u8 (IntKind.wrap .u8 (IntKind.wrap .u32 (Int.tdiv a 16777216)))),(Value.int .u8 (IntKind.wrap .u8 (Int.tmod (IntKind.wrap .u32 (Int.tdiv a 65536)) 256))),(Value.int .u8 (IntKind.wrap .u8 (Int.tmod (IntKind.wrap .u32 (Int.tdiv a 256)) 256))),(Value.int .u8 (IntKind.wrap .u8 (Int.tmod a 256))),(Value.int .u8 (IntKind.wrap .u8 (IntKind.wrap .u32 (Int.tdiv b 16777216)))),(Value.int .u8 (IntKind.wrap .u8 (Int.tmod (IntKind.wrap .u32 (Int.tdiv b 65536)) 256))),(Value.int .u8 (IntKind.wrap .u8 (Int.tmod (IntKind.wrap .u32 (Int.tdiv b 256)) 256))),(Value.int .u8 (IntKind.wrap .u8 (Int.tmod b 256))),(Value.int .u8 0),(Value.int .u8 i),(Value.int .u8 (IntKind.wrap .u8 (IntKind.wrap .u32 (Int.tdiv (IntKind.wrap .u32 (Int.tmod (IntKind.wrap .u64 c) 65536)) 256)))),(Value.int .u8 (IntKind.wrap .u8 (Int.tmod (IntKind.wrap .u32 (Int.tmod (IntKind.wrap .u64 c) 65536)) 256)))]⟩ Zh) fun j f=>
 FnW Tryz.prog Zly ⟨[(Value.int .u32 0),(Value.slice (some ⟨j,0,none⟩) 12 12)]⟩ f fun k g=>
 ∃d,k=Value.int .u32 d∧
 h (Value.int .u32 d) g
theorem Zccm (d g e f:Int) {a:Heap} {c:Value->Heap->Prop} (i:Zbjn d g e f a fun j h=>∀b,Shut a h b->c j b):FnW Tryz.prog Zos ⟨[(Value.int .u32 d),(Value.int .u32 g),(Value.int .u8 e),(Value.int .i64 f)]⟩ a c:=Zc Tryz.func44 ⟨[],[],[],[]⟩ (by kernel_rfl) (by kernel_rfl) i
def Zbkf (g:Nat) (B:Int) (a:Nat) (f:Int) (b:Heap) (C:(Int×Unit)->Heap->Prop) (h:Value->Heap->Prop):Prop:=
 ∃D o E,b.cell ⟨g,3,none⟩=some (Value.slice D o E)∧
 IfB (decide (f<(o:Int)))
 (∃p q F,b.cell ⟨g,3,none⟩=some (Value.slice p q F)∧
 NilP p fun I=>
 InB f q fun G=>
 elemAt I G 3 fun H=>
 ∃r,b.cell H=some (Value.int .i64 r)∧
 IfB (r==B)
 (∃s t J,b.cell ⟨g,3,none⟩=some (Value.slice s t J)∧
 NilP s fun L=>
 InB f t fun K=>
 elemAt L K 3 fun c=>
 ∃u,b.cell c=some (Value.int .i64 u)∧∃v,b.cell ⟨c.block,c.off+1,none⟩=some (Value.int .u32 v)∧∃w,b.cell ⟨c.block,c.off+2,none⟩=some (Value.pointer w)∧Za b ⟨a,0,none⟩ (Value.int .i64 u) fun x=>
 Za x ⟨a,1,none⟩ (Value.int .u32 v) fun y=>
 Za y ⟨a,2,none⟩ (Value.pointer w) fun d=>
 ∃i,d.cell ⟨a,0,none⟩=some (Value.int .i64 i)∧∃k,d.cell ⟨a,1,none⟩=some (Value.int .u32 k)∧∃m,d.cell ⟨a,2,none⟩=some (Value.pointer m)∧h (Value.tuple ⟨[(Value.agg ⟨[(Value.int .i64 i),(Value.int .u32 k),(Value.pointer m)]⟩),(Value.bool true)]⟩) d)
 (C ((IntKind.wrap .i64 (f+1)),()) b))
 (Za b ⟨a,0,none⟩ (Value.int .i64 0) fun z=>
 Za z ⟨a,1,none⟩ (Value.int .u32 0) fun A=>
 Za A ⟨a,2,none⟩ (Value.pointer none) fun e=>
 ∃j,e.cell ⟨a,0,none⟩=some (Value.int .i64 j)∧∃l,e.cell ⟨a,1,none⟩=some (Value.int .u32 l)∧∃n,e.cell ⟨a,2,none⟩=some (Value.pointer n)∧h (Value.tuple ⟨[(Value.agg ⟨[(Value.int .i64 j),(Value.int .u32 l),(Value.pointer n)]⟩),(Value.bool false)]⟩) e)
def Zbkg (f:Nat) (d:Int) (a:Heap) (c:Value->Heap->Prop):Prop:=
 NewW a (Obj.cells ⟨[(Value.int .i64 0),(Value.int .u32 0),(Value.pointer none)]⟩ Zfe) fun h b=>
 Zbk (Int×Unit) (0,()) b fun g a e=>∀i:Env,Zbkf f d h g.1 a e c
theorem Zccx (e:Nat) (d:Int) {a:Heap} {c:Value->Heap->Prop} (g:Zbkg e d a fun h f=>∀b,Shut a f b->c h b):FnW Tryz.prog Zwe ⟨[(Value.pointer (some ⟨e,0,none⟩)),(Value.int .i64 d)]⟩ a c:=Zc Tryz.func49 ⟨[],[(2,[6],[.int .i64],[0,1,4])],[],[]⟩ (by kernel_rfl) (by kernel_rfl) g
def Zuk (e m:Nat) (g:Int) (o:Bool) (a:Heap) (f:Value->Heap->Prop):Prop:=
 IfB o
 (f (Value.int .i64 g) a)
 (∃d:List Nat,(∀b∈d,∃n,a b=some n)∧
 e∈d∧∃h i p,a.cell ⟨e,m+3,none⟩=some (Value.slice h i p)∧
 ∃q j r,a.cell ⟨e,m+3,none⟩=some (Value.slice q j r)∧
 FnW Tryz.prog Zji ⟨[(Value.int .i64 g),(Value.int .i64 (j:Int))]⟩ a fun s c=>
 ∃k,s=Value.int .i64 k∧
 Zb d a c∧NilP h fun v=>
 InB k i fun t=>
 elemAt v t 3 fun u=>
 ∃l,c.cell u=some (Value.int .i64 l)∧
 f (Value.int .i64 l) c)
def Zbpx (c d:Nat) (b:Int) (a:Heap) (e:Value->Heap->Prop):Prop:=
 ∃j g k,a.cell ⟨c,d+3,none⟩=some (Value.slice j g k)∧
 IfB (((g:Int):Int)==0)
 (Zuk c d b true a e)
 (FnW Tryz.prog Zji ⟨[(Value.int .i64 b),(Value.int .i64 7)]⟩ a fun i h=>
 ∃f,i=Value.int .i64 f∧
 Zuk c d b (f==6) h e)
theorem Zcih (e f:Nat) (d:Int) {a:Heap} {c:Value->Heap->Prop} (h:Zbpx e f d a fun i g=>∀b,Shut a g b->c i b):FnW Tryz.prog Zyb ⟨[(Value.pointer (some ⟨e,f,none⟩)),(Value.int .i64 d)]⟩ a c:=Zc Tryz.func50 ⟨[(3,[0,1,2,3,4,5,6,7,8,9,10,11,12,13,14],[20])],[],[],[]⟩ (by kernel_rfl) (by kernel_rfl) h
def Zbkh (b:Nat) (a:Heap) (c:Value->Heap->Prop):Prop:=
 ∃j,a.cell ⟨b,5,none⟩=some (Value.pointer j)∧
 IfB j.isNone
 (c (Value.int .u32 0) a)
 (∃d,a.cell ⟨b,9,none⟩=some (Value.bool d)∧
 IfB d
 (∃e,a.cell ⟨b,5,none⟩=some (Value.pointer e)∧
 NilP e fun l=>
 ∃f,a.cell l=some (Value.int .u32 f)∧
 FnW Tryz.prog Zdg ⟨[(Value.int .u32 f),(Value.int .i64 1)]⟩ a fun m k=>
 ∃g,m=Value.int .u32 g∧
 c (Value.int .u32 g) k)
 (∃h,a.cell ⟨b,5,none⟩=some (Value.pointer h)∧
 NilP h fun n=>
 ∃i,a.cell n=some (Value.int .u32 i)∧
 c (Value.int .u32 i) a))
theorem Zccy (d:Nat) {a:Heap} {c:Value->Heap->Prop} (f:Zbkh d a fun g e=>∀b,Shut a e b->c g b):FnW Tryz.prog Zjj ⟨[(Value.pointer (some ⟨d,0,none⟩))]⟩ a c:=Zc Tryz.func51 ⟨[],[],[],[]⟩ (by kernel_rfl) (by kernel_rfl) f
def Znp (d:Option Addr) (q c a:Nat) (r0:Int) (H7:Bool) (a6:Heap) (p:Value->Heap->Prop):Prop:=
 IfB H7
 (Za a6 ⟨a,0,none⟩ (Value.int .i64 0) fun z1=>
 Za z1 ⟨a,1,none⟩ (Value.int .i64 0) fun z7=>
 Za z7 ⟨a,2,none⟩ (Value.int .u32 0) fun A3=>
 Za A3 ⟨a,3,none⟩ (Value.int .u32 0) fun B2=>
 Za B2 ⟨a,4,none⟩ (Value.int .i64 0) fun C1=>
 Za C1 ⟨a,5,none⟩ (Value.int .i64 0) fun C9=>
 Za C9 ⟨a,6,none⟩ (Value.int .i64 0) fun D3=>
 Za D3 ⟨a,7,none⟩ (Value.int .i64 0) fun D4=>
 Za D4 ⟨a,8,none⟩ (Value.slice none 0 0) fun x=>
 ∃e9,x.cell ⟨a,0,none⟩=some (Value.int .i64 e9)∧∃g0,x.cell ⟨a,1,none⟩=some (Value.int .i64 g0)∧∃h1,x.cell ⟨a,2,none⟩=some (Value.int .u32 h1)∧∃i2,x.cell ⟨a,3,none⟩=some (Value.int .u32 i2)∧∃j3,x.cell ⟨a,4,none⟩=some (Value.int .i64 j3)∧∃k4,x.cell ⟨a,5,none⟩=some (Value.int .i64 k4)∧∃l5,x.cell ⟨a,6,none⟩=some (Value.int .i64 l5)∧∃m6,x.cell ⟨a,7,none⟩=some (Value.int .i64 m6)∧∃n7 p9 o8,x.cell ⟨a,8,none⟩=some (Value.slice n7 p9 o8)∧p (Value.tuple ⟨[(Value.agg ⟨[(Value.int .i64 e9),(Value.int .i64 g0),(Value.int .u32 h1),(Value.int .u32 i2),(Value.int .i64 j3),(Value.int .i64 k4),(Value.int .i64 l5),(Value.int .i64 m6),(Value.slice n7 p9 o8)]⟩),(Value.int .i64 110)]⟩) x)
 (InC (IntKind.wrap .i64 (4*(IntKind.wrap .i64 (IntKind.wrap .u8 (Int.tdiv r0 16))))) c fun r1=>
 InC 20 r1 fun Q=>
 FnW Tryz.prog Zxk ⟨[(Value.slice (if c=Q then d else Option.map (fun e=>Addr.add e (Q*1)) d) (r1 - Q) (c - Q))]⟩ a6 fun H8 f=>
 ∃C,∃r2:Bool,H8=(Value.tuple ⟨[(Value.int .i64 C),(Value.bool r2)]⟩)∧
 IfB (!r2)
 (Za f ⟨a,0,none⟩ (Value.int .i64 0) fun D5=>
 Za D5 ⟨a,1,none⟩ (Value.int .i64 0) fun D6=>
 Za D6 ⟨a,2,none⟩ (Value.int .u32 0) fun D7=>
 Za D7 ⟨a,3,none⟩ (Value.int .u32 0) fun D8=>
 Za D8 ⟨a,4,none⟩ (Value.int .i64 0) fun D9=>
 Za D9 ⟨a,5,none⟩ (Value.int .i64 0) fun E0=>
 Za E0 ⟨a,6,none⟩ (Value.int .i64 0) fun E1=>
 Za E1 ⟨a,7,none⟩ (Value.int .i64 0) fun E2=>
 Za E2 ⟨a,8,none⟩ (Value.slice none 0 0) fun y=>
 ∃f2,y.cell ⟨a,0,none⟩=some (Value.int .i64 f2)∧∃g3,y.cell ⟨a,1,none⟩=some (Value.int .i64 g3)∧∃h4,y.cell ⟨a,2,none⟩=some (Value.int .u32 h4)∧∃i5,y.cell ⟨a,3,none⟩=some (Value.int .u32 i5)∧∃j6,y.cell ⟨a,4,none⟩=some (Value.int .i64 j6)∧∃k7,y.cell ⟨a,5,none⟩=some (Value.int .i64 k7)∧∃l8,y.cell ⟨a,6,none⟩=some (Value.int .i64 l8)∧∃m9,y.cell ⟨a,7,none⟩=some (Value.int .i64 m9)∧∃o0 q2 p1,y.cell ⟨a,8,none⟩=some (Value.slice o0 q2 p1)∧p (Value.tuple ⟨[(Value.agg ⟨[(Value.int .i64 f2),(Value.int .i64 g3),(Value.int .u32 h4),(Value.int .u32 i5),(Value.int .i64 j6),(Value.int .i64 k7),(Value.int .i64 l8),(Value.int .i64 m9),(Value.slice o0 q2 p1)]⟩),(Value.int .i64 110)]⟩) y)
 (∃g:List Nat,(∀b∈g,∃H6,f b=some H6)∧
 NilP d fun K7=>
 InB 13 q fun K6=>
 elemAt K7 K6 1 fun t4=>
 t4.block∈g∧∃D,f.cell t4=some (Value.int .u8 D)∧
 InC 2 c fun a0=>
 InC 0 a0 fun H=>
 InC 4 c fun R=>
 InC 2 R fun o=>
 InC 6 c fun O=>
 InC 4 O fun n=>
 InC 8 c fun M=>
 InC 6 M fun m=>
 InC 10 c fun L=>
 InC 8 L fun l=>
 InC 12 c fun J=>
 InC 10 J fun k=>
 (64:Int)≠0∧
 InC 16 c fun G=>
 InC 14 G fun j=>
 InC 20 c fun E=>
 InC 18 E fun h=>
 InC (IntKind.wrap .i64 (4*(IntKind.wrap .i64 (IntKind.wrap .u8 (Int.tdiv r0 16))))) q fun i=>
 (NewW f (Obj.cells ⟨[]⟩ Zh) fun M5 E3=>
 FnW Tryz.prog Zp ⟨[(Value.slice (if c=H then d else Option.map (fun e=>Addr.add e (H*1)) d) (a0 - H) (c - H))]⟩ E3 fun H9 b9=>
 ∃r3,H9=Value.int .i64 r3∧
 Zb g f b9∧FnW Tryz.prog Zp ⟨[(Value.slice (if c=o then d else Option.map (fun e=>Addr.add e (o*1)) d) (R - o) (c - o))]⟩ b9 fun I1 c0=>
 ∃r4,I1=Value.int .i64 r4∧
 Zb g f c0∧FnW Tryz.prog Zp ⟨[(Value.slice (if c=n then d else Option.map (fun e=>Addr.add e (n*1)) d) (O - n) (c - n))]⟩ c0 fun I4 c1=>
 ∃r6,I4=Value.int .i64 r6∧
 Zb g f c1∧FnW Tryz.prog Zp ⟨[(Value.slice (if c=m then d else Option.map (fun e=>Addr.add e (m*1)) d) (M - m) (c - m))]⟩ c1 fun I8 c2=>
 ∃r9,I8=Value.int .i64 r9∧
 Zb g f c2∧FnW Tryz.prog Zp ⟨[(Value.slice (if c=l then d else Option.map (fun e=>Addr.add e (l*1)) d) (L - l) (c - l))]⟩ c2 fun J3 c3=>
 ∃s3,J3=Value.int .i64 s3∧
 Zb g f c3∧FnW Tryz.prog Zp ⟨[(Value.slice (if c=k then d else Option.map (fun e=>Addr.add e (k*1)) d) (J - k) (c - k))]⟩ c3 fun J9 c4=>
 ∃s8,J9=Value.int .i64 s8∧
 Zb g f c4∧FnW Tryz.prog Zp ⟨[(Value.slice (if c=j then d else Option.map (fun e=>Addr.add e (j*1)) d) (G - j) (c - j))]⟩ c4 fun K8 c5=>
 ∃t5,K8=Value.int .i64 t5∧
 Zb g f c5∧FnW Tryz.prog Zp ⟨[(Value.slice (if c=h then d else Option.map (fun e=>Addr.add e (h*1)) d) (E - h) (c - h))]⟩ c5 fun L6 c6=>
 ∃u2,L6=Value.int .i64 u2∧
 Zb g f c6∧AppW Tryz.prog #[Zd,Zd] Zd [(Value.slice (some ⟨M5,0,none⟩) 0 0),(Value.slice (if c=i then d else Option.map (fun e=>Addr.add e (i*1)) d) (q - i) (c - i))] c6 fun N4 c7=>
 ∃v2 x0 w1,N4=Value.slice v2 x0 w1∧
 Zb g f c7∧Za c7 ⟨a,0,none⟩ (Value.int .i64 r3) fun E4=>
 Za E4 ⟨a,1,none⟩ (Value.int .i64 r4) fun E5=>
 Za E5 ⟨a,2,none⟩ (Value.int .u32 (IntKind.wrap .u32 (IntKind.wrap .i64 ((IntKind.wrap .i64 (65536*r6))+r9)))) fun E6=>
 Za E6 ⟨a,3,none⟩ (Value.int .u32 (IntKind.wrap .u32 (IntKind.wrap .i64 ((IntKind.wrap .i64 (65536*s3))+s8)))) fun E7=>
 Za E7 ⟨a,4,none⟩ (Value.int .i64 (IntKind.wrap .i64 (Int.tmod D 64))) fun E8=>
 Za E8 ⟨a,5,none⟩ (Value.int .i64 t5) fun E9=>
 Za E9 ⟨a,6,none⟩ (Value.int .i64 u2) fun F0=>
 Za F0 ⟨a,7,none⟩ (Value.int .i64 C) fun F1=>
 Za F1 ⟨a,8,none⟩ (Value.slice v2 x0 w1) fun z=>
 ∃f3,z.cell ⟨a,0,none⟩=some (Value.int .i64 f3)∧∃g4,z.cell ⟨a,1,none⟩=some (Value.int .i64 g4)∧∃h5,z.cell ⟨a,2,none⟩=some (Value.int .u32 h5)∧∃i6,z.cell ⟨a,3,none⟩=some (Value.int .u32 i6)∧∃j7,z.cell ⟨a,4,none⟩=some (Value.int .i64 j7)∧∃k8,z.cell ⟨a,5,none⟩=some (Value.int .i64 k8)∧∃l9,z.cell ⟨a,6,none⟩=some (Value.int .i64 l9)∧∃n0,z.cell ⟨a,7,none⟩=some (Value.int .i64 n0)∧∃o1 q3 p2,z.cell ⟨a,8,none⟩=some (Value.slice o1 q3 p2)∧p (Value.tuple ⟨[(Value.agg ⟨[(Value.int .i64 f3),(Value.int .i64 g4),(Value.int .u32 h5),(Value.int .u32 i6),(Value.int .i64 j7),(Value.int .i64 k8),(Value.int .i64 l9),(Value.int .i64 n0),(Value.slice o1 q3 p2)]⟩),(Value.int .i64 0)]⟩) z)∧
 (FnW Tryz.prog Zp ⟨[(Value.slice (if c=H then d else Option.map (fun e=>Addr.add e (H*1)) d) (a0 - H) (c - H))]⟩ f fun I0 X=>
 ∃F,I0=Value.int .i64 F∧
 Zb g f X∧(NewW X (Obj.cells ⟨[]⟩ Zh) fun M6 F2=>
 FnW Tryz.prog Zp ⟨[(Value.slice (if c=o then d else Option.map (fun e=>Addr.add e (o*1)) d) (R - o) (c - o))]⟩ F2 fun I2 c8=>
 ∃r5,I2=Value.int .i64 r5∧
 Zb g f c8∧FnW Tryz.prog Zp ⟨[(Value.slice (if c=n then d else Option.map (fun e=>Addr.add e (n*1)) d) (O - n) (c - n))]⟩ c8 fun I5 c9=>
 ∃r7,I5=Value.int .i64 r7∧
 Zb g f c9∧FnW Tryz.prog Zp ⟨[(Value.slice (if c=m then d else Option.map (fun e=>Addr.add e (m*1)) d) (M - m) (c - m))]⟩ c9 fun I9 d0=>
 ∃s0,I9=Value.int .i64 s0∧
 Zb g f d0∧FnW Tryz.prog Zp ⟨[(Value.slice (if c=l then d else Option.map (fun e=>Addr.add e (l*1)) d) (L - l) (c - l))]⟩ d0 fun J4 d1=>
 ∃s4,J4=Value.int .i64 s4∧
 Zb g f d1∧FnW Tryz.prog Zp ⟨[(Value.slice (if c=k then d else Option.map (fun e=>Addr.add e (k*1)) d) (J - k) (c - k))]⟩ d1 fun K0 d2=>
 ∃s9,K0=Value.int .i64 s9∧
 Zb g f d2∧FnW Tryz.prog Zp ⟨[(Value.slice (if c=j then d else Option.map (fun e=>Addr.add e (j*1)) d) (G - j) (c - j))]⟩ d2 fun K9 d3=>
 ∃t6,K9=Value.int .i64 t6∧
 Zb g f d3∧FnW Tryz.prog Zp ⟨[(Value.slice (if c=h then d else Option.map (fun e=>Addr.add e (h*1)) d) (E - h) (c - h))]⟩ d3 fun L7 d4=>
 ∃u3,L7=Value.int .i64 u3∧
 Zb g f d4∧AppW Tryz.prog #[Zd,Zd] Zd [(Value.slice (some ⟨M6,0,none⟩) 0 0),(Value.slice (if c=i then d else Option.map (fun e=>Addr.add e (i*1)) d) (q - i) (c - i))] d4 fun N5 d5=>
 ∃v3 x1 w2,N5=Value.slice v3 x1 w2∧
 Zb g f d5∧Za d5 ⟨a,0,none⟩ (Value.int .i64 F) fun F3=>
 Za F3 ⟨a,1,none⟩ (Value.int .i64 r5) fun F4=>
 Za F4 ⟨a,2,none⟩ (Value.int .u32 (IntKind.wrap .u32 (IntKind.wrap .i64 ((IntKind.wrap .i64 (65536*r7))+s0)))) fun F5=>
 Za F5 ⟨a,3,none⟩ (Value.int .u32 (IntKind.wrap .u32 (IntKind.wrap .i64 ((IntKind.wrap .i64 (65536*s4))+s9)))) fun F6=>
 Za F6 ⟨a,4,none⟩ (Value.int .i64 (IntKind.wrap .i64 (Int.tmod D 64))) fun F7=>
 Za F7 ⟨a,5,none⟩ (Value.int .i64 t6) fun F8=>
 Za F8 ⟨a,6,none⟩ (Value.int .i64 u3) fun F9=>
 Za F9 ⟨a,7,none⟩ (Value.int .i64 C) fun G0=>
 Za G0 ⟨a,8,none⟩ (Value.slice v3 x1 w2) fun A=>
 ∃f4,A.cell ⟨a,0,none⟩=some (Value.int .i64 f4)∧∃g5,A.cell ⟨a,1,none⟩=some (Value.int .i64 g5)∧∃h6,A.cell ⟨a,2,none⟩=some (Value.int .u32 h6)∧∃i7,A.cell ⟨a,3,none⟩=some (Value.int .u32 i7)∧∃j8,A.cell ⟨a,4,none⟩=some (Value.int .i64 j8)∧∃k9,A.cell ⟨a,5,none⟩=some (Value.int .i64 k9)∧∃m0,A.cell ⟨a,6,none⟩=some (Value.int .i64 m0)∧∃n1,A.cell ⟨a,7,none⟩=some (Value.int .i64 n1)∧∃o2 q4 p3,A.cell ⟨a,8,none⟩=some (Value.slice o2 q4 p3)∧p (Value.tuple ⟨[(Value.agg ⟨[(Value.int .i64 f4),(Value.int .i64 g5),(Value.int .u32 h6),(Value.int .u32 i7),(Value.int .i64 j8),(Value.int .i64 k9),(Value.int .i64 m0),(Value.int .i64 n1),(Value.slice o2 q4 p3)]⟩),(Value.int .i64 0)]⟩) A)∧
 (FnW Tryz.prog Zp ⟨[(Value.slice (if c=o then d else Option.map (fun e=>Addr.add e (o*1)) d) (R - o) (c - o))]⟩ X fun I3 Y=>
 ∃I,I3=Value.int .i64 I∧
 Zb g f Y∧(NewW Y (Obj.cells ⟨[]⟩ Zh) fun M7 G1=>
 FnW Tryz.prog Zp ⟨[(Value.slice (if c=n then d else Option.map (fun e=>Addr.add e (n*1)) d) (O - n) (c - n))]⟩ G1 fun I6 d6=>
 ∃r8,I6=Value.int .i64 r8∧
 Zb g f d6∧FnW Tryz.prog Zp ⟨[(Value.slice (if c=m then d else Option.map (fun e=>Addr.add e (m*1)) d) (M - m) (c - m))]⟩ d6 fun J0 d7=>
 ∃s1,J0=Value.int .i64 s1∧
 Zb g f d7∧FnW Tryz.prog Zp ⟨[(Value.slice (if c=l then d else Option.map (fun e=>Addr.add e (l*1)) d) (L - l) (c - l))]⟩ d7 fun J5 d8=>
 ∃s5,J5=Value.int .i64 s5∧
 Zb g f d8∧FnW Tryz.prog Zp ⟨[(Value.slice (if c=k then d else Option.map (fun e=>Addr.add e (k*1)) d) (J - k) (c - k))]⟩ d8 fun K1 d9=>
 ∃t0,K1=Value.int .i64 t0∧
 Zb g f d9∧FnW Tryz.prog Zp ⟨[(Value.slice (if c=j then d else Option.map (fun e=>Addr.add e (j*1)) d) (G - j) (c - j))]⟩ d9 fun L0 e0=>
 ∃t7,L0=Value.int .i64 t7∧
 Zb g f e0∧FnW Tryz.prog Zp ⟨[(Value.slice (if c=h then d else Option.map (fun e=>Addr.add e (h*1)) d) (E - h) (c - h))]⟩ e0 fun L8 e1=>
 ∃u4,L8=Value.int .i64 u4∧
 Zb g f e1∧AppW Tryz.prog #[Zd,Zd] Zd [(Value.slice (some ⟨M7,0,none⟩) 0 0),(Value.slice (if c=i then d else Option.map (fun e=>Addr.add e (i*1)) d) (q - i) (c - i))] e1 fun N6 e2=>
 ∃v4 x2 w3,N6=Value.slice v4 x2 w3∧
 Zb g f e2∧Za e2 ⟨a,0,none⟩ (Value.int .i64 F) fun G2=>
 Za G2 ⟨a,1,none⟩ (Value.int .i64 I) fun G3=>
 Za G3 ⟨a,2,none⟩ (Value.int .u32 (IntKind.wrap .u32 (IntKind.wrap .i64 ((IntKind.wrap .i64 (65536*r8))+s1)))) fun G4=>
 Za G4 ⟨a,3,none⟩ (Value.int .u32 (IntKind.wrap .u32 (IntKind.wrap .i64 ((IntKind.wrap .i64 (65536*s5))+t0)))) fun G5=>
 Za G5 ⟨a,4,none⟩ (Value.int .i64 (IntKind.wrap .i64 (Int.tmod D 64))) fun G6=>
 Za G6 ⟨a,5,none⟩ (Value.int .i64 t7) fun G7=>
 Za G7 ⟨a,6,none⟩ (Value.int .i64 u4) fun G8=>
 Za G8 ⟨a,7,none⟩ (Value.int .i64 C) fun G9=>
 Za G9 ⟨a,8,none⟩ (Value.slice v4 x2 w3) fun B=>
 ∃f5,B.cell ⟨a,0,none⟩=some (Value.int .i64 f5)∧∃g6,B.cell ⟨a,1,none⟩=some (Value.int .i64 g6)∧∃h7,B.cell ⟨a,2,none⟩=some (Value.int .u32 h7)∧∃i8,B.cell ⟨a,3,none⟩=some (Value.int .u32 i8)∧∃j9,B.cell ⟨a,4,none⟩=some (Value.int .i64 j9)∧∃l0,B.cell ⟨a,5,none⟩=some (Value.int .i64 l0)∧∃m1,B.cell ⟨a,6,none⟩=some (Value.int .i64 m1)∧∃n2,B.cell ⟨a,7,none⟩=some (Value.int .i64 n2)∧∃o3 q5 p4,B.cell ⟨a,8,none⟩=some (Value.slice o3 q5 p4)∧p (Value.tuple ⟨[(Value.agg ⟨[(Value.int .i64 f5),(Value.int .i64 g6),(Value.int .u32 h7),(Value.int .u32 i8),(Value.int .i64 j9),(Value.int .i64 l0),(Value.int .i64 m1),(Value.int .i64 n2),(Value.slice o3 q5 p4)]⟩),(Value.int .i64 0)]⟩) B)∧
 (FnW Tryz.prog Zp ⟨[(Value.slice (if c=n then d else Option.map (fun e=>Addr.add e (n*1)) d) (O - n) (c - n))]⟩ Y fun I7 Z=>
 ∃K,I7=Value.int .i64 K∧
 Zb g f Z∧(NewW Z (Obj.cells ⟨[]⟩ Zh) fun M8 H0=>
 FnW Tryz.prog Zp ⟨[(Value.slice (if c=m then d else Option.map (fun e=>Addr.add e (m*1)) d) (M - m) (c - m))]⟩ H0 fun J1 e3=>
 ∃s2,J1=Value.int .i64 s2∧
 Zb g f e3∧FnW Tryz.prog Zp ⟨[(Value.slice (if c=l then d else Option.map (fun e=>Addr.add e (l*1)) d) (L - l) (c - l))]⟩ e3 fun J6 e4=>
 ∃s6,J6=Value.int .i64 s6∧
 Zb g f e4∧FnW Tryz.prog Zp ⟨[(Value.slice (if c=k then d else Option.map (fun e=>Addr.add e (k*1)) d) (J - k) (c - k))]⟩ e4 fun K2 e5=>
 ∃t1,K2=Value.int .i64 t1∧
 Zb g f e5∧FnW Tryz.prog Zp ⟨[(Value.slice (if c=j then d else Option.map (fun e=>Addr.add e (j*1)) d) (G - j) (c - j))]⟩ e5 fun L1 e6=>
 ∃t8,L1=Value.int .i64 t8∧
 Zb g f e6∧FnW Tryz.prog Zp ⟨[(Value.slice (if c=h then d else Option.map (fun e=>Addr.add e (h*1)) d) (E - h) (c - h))]⟩ e6 fun L9 e7=>
 ∃u5,L9=Value.int .i64 u5∧
 Zb g f e7∧AppW Tryz.prog #[Zd,Zd] Zd [(Value.slice (some ⟨M8,0,none⟩) 0 0),(Value.slice (if c=i then d else Option.map (fun e=>Addr.add e (i*1)) d) (q - i) (c - i))] e7 fun N7 e8=>
 ∃v5 x3 w4,N7=Value.slice v5 x3 w4∧
 Zb g f e8∧Za e8 ⟨a,0,none⟩ (Value.int .i64 F) fun H1=>
 Za H1 ⟨a,1,none⟩ (Value.int .i64 I) fun H2=>
 Za H2 ⟨a,2,none⟩ (Value.int .u32 (IntKind.wrap .u32 (IntKind.wrap .i64 ((IntKind.wrap .i64 (65536*K))+s2)))) fun H3=>
 Za H3 ⟨a,3,none⟩ (Value.int .u32 (IntKind.wrap .u32 (IntKind.wrap .i64 ((IntKind.wrap .i64 (65536*s6))+t1)))) fun H4=>
 Za H4 ⟨a,4,none⟩ (Value.int .i64 (IntKind.wrap .i64 (Int.tmod D 64))) fun H5=>
 Za H5 ⟨a,5,none⟩ (Value.int .i64 t8) fun x9=>
 Za x9 ⟨a,6,none⟩ (Value.int .i64 u5) fun y0=>
 Za y0 ⟨a,7,none⟩ (Value.int .i64 C) fun y1=>
 Za y1 ⟨a,8,none⟩ (Value.slice v5 x3 w4) fun r=>
 ∃f6,r.cell ⟨a,0,none⟩=some (Value.int .i64 f6)∧∃g7,r.cell ⟨a,1,none⟩=some (Value.int .i64 g7)∧∃h8,r.cell ⟨a,2,none⟩=some (Value.int .u32 h8)∧∃i9,r.cell ⟨a,3,none⟩=some (Value.int .u32 i9)∧∃k0,r.cell ⟨a,4,none⟩=some (Value.int .i64 k0)∧∃l1,r.cell ⟨a,5,none⟩=some (Value.int .i64 l1)∧∃m2,r.cell ⟨a,6,none⟩=some (Value.int .i64 m2)∧∃n3,r.cell ⟨a,7,none⟩=some (Value.int .i64 n3)∧∃o4 q6 p5,r.cell ⟨a,8,none⟩=some (Value.slice o4 q6 p5)∧p (Value.tuple ⟨[(Value.agg ⟨[(Value.int .i64 f6),(Value.int .i64 g7),(Value.int .u32 h8),(Value.int .u32 i9),(Value.int .i64 k0),(Value.int .i64 l1),(Value.int .i64 m2),(Value.int .i64 n3),(Value.slice o4 q6 p5)]⟩),(Value.int .i64 0)]⟩) r)∧
 (FnW Tryz.prog Zp ⟨[(Value.slice (if c=m then d else Option.map (fun e=>Addr.add e (m*1)) d) (M - m) (c - m))]⟩ Z fun J2 T=>
 ∃N,J2=Value.int .i64 N∧
 Zb g f T∧(NewW T (Obj.cells ⟨[]⟩ Zh) fun M9 y2=>
 FnW Tryz.prog Zp ⟨[(Value.slice (if c=l then d else Option.map (fun e=>Addr.add e (l*1)) d) (L - l) (c - l))]⟩ y2 fun J7 a2=>
 ∃s7,J7=Value.int .i64 s7∧
 Zb g f a2∧FnW Tryz.prog Zp ⟨[(Value.slice (if c=k then d else Option.map (fun e=>Addr.add e (k*1)) d) (J - k) (c - k))]⟩ a2 fun K3 a3=>
 ∃t2,K3=Value.int .i64 t2∧
 Zb g f a3∧FnW Tryz.prog Zp ⟨[(Value.slice (if c=j then d else Option.map (fun e=>Addr.add e (j*1)) d) (G - j) (c - j))]⟩ a3 fun L2 a4=>
 ∃t9,L2=Value.int .i64 t9∧
 Zb g f a4∧FnW Tryz.prog Zp ⟨[(Value.slice (if c=h then d else Option.map (fun e=>Addr.add e (h*1)) d) (E - h) (c - h))]⟩ a4 fun M0 a5=>
 ∃u6,M0=Value.int .i64 u6∧
 Zb g f a5∧AppW Tryz.prog #[Zd,Zd] Zd [(Value.slice (some ⟨M9,0,none⟩) 0 0),(Value.slice (if c=i then d else Option.map (fun e=>Addr.add e (i*1)) d) (q - i) (c - i))] a5 fun N8 a7=>
 ∃v6 x4 w5,N8=Value.slice v6 x4 w5∧
 Zb g f a7∧Za a7 ⟨a,0,none⟩ (Value.int .i64 F) fun y3=>
 Za y3 ⟨a,1,none⟩ (Value.int .i64 I) fun y4=>
 Za y4 ⟨a,2,none⟩ (Value.int .u32 (IntKind.wrap .u32 (IntKind.wrap .i64 ((IntKind.wrap .i64 (65536*K))+N)))) fun y5=>
 Za y5 ⟨a,3,none⟩ (Value.int .u32 (IntKind.wrap .u32 (IntKind.wrap .i64 ((IntKind.wrap .i64 (65536*s7))+t2)))) fun y6=>
 Za y6 ⟨a,4,none⟩ (Value.int .i64 (IntKind.wrap .i64 (Int.tmod D 64))) fun y7=>
 Za y7 ⟨a,5,none⟩ (Value.int .i64 t9) fun y8=>
 Za y8 ⟨a,6,none⟩ (Value.int .i64 u6) fun y9=>
 Za y9 ⟨a,7,none⟩ (Value.int .i64 C) fun z0=>
 Za z0 ⟨a,8,none⟩ (Value.slice v6 x4 w5) fun s=>
 ∃f7,s.cell ⟨a,0,none⟩=some (Value.int .i64 f7)∧∃g8,s.cell ⟨a,1,none⟩=some (Value.int .i64 g8)∧∃h9,s.cell ⟨a,2,none⟩=some (Value.int .u32 h9)∧∃j0,s.cell ⟨a,3,none⟩=some (Value.int .u32 j0)∧∃k1,s.cell ⟨a,4,none⟩=some (Value.int .i64 k1)∧∃l2,s.cell ⟨a,5,none⟩=some (Value.int .i64 l2)∧∃m3,s.cell ⟨a,6,none⟩=some (Value.int .i64 m3)∧∃n4,s.cell ⟨a,7,none⟩=some (Value.int .i64 n4)∧∃o5 q7 p6,s.cell ⟨a,8,none⟩=some (Value.slice o5 q7 p6)∧p (Value.tuple ⟨[(Value.agg ⟨[(Value.int .i64 f7),(Value.int .i64 g8),(Value.int .u32 h9),(Value.int .u32 j0),(Value.int .i64 k1),(Value.int .i64 l2),(Value.int .i64 m3),(Value.int .i64 n4),(Value.slice o5 q7 p6)]⟩),(Value.int .i64 0)]⟩) s)∧
 (FnW Tryz.prog Zp ⟨[(Value.slice (if c=l then d else Option.map (fun e=>Addr.add e (l*1)) d) (L - l) (c - l))]⟩ T fun J8 U=>
 ∃P,J8=Value.int .i64 P∧
 Zb g f U∧(NewW U (Obj.cells ⟨[]⟩ Zh) fun N0 z2=>
 FnW Tryz.prog Zp ⟨[(Value.slice (if c=k then d else Option.map (fun e=>Addr.add e (k*1)) d) (J - k) (c - k))]⟩ z2 fun K4 a8=>
 ∃t3,K4=Value.int .i64 t3∧
 Zb g f a8∧FnW Tryz.prog Zp ⟨[(Value.slice (if c=j then d else Option.map (fun e=>Addr.add e (j*1)) d) (G - j) (c - j))]⟩ a8 fun L3 a9=>
 ∃u0,L3=Value.int .i64 u0∧
 Zb g f a9∧FnW Tryz.prog Zp ⟨[(Value.slice (if c=h then d else Option.map (fun e=>Addr.add e (h*1)) d) (E - h) (c - h))]⟩ a9 fun M1 b0=>
 ∃u7,M1=Value.int .i64 u7∧
 Zb g f b0∧AppW Tryz.prog #[Zd,Zd] Zd [(Value.slice (some ⟨N0,0,none⟩) 0 0),(Value.slice (if c=i then d else Option.map (fun e=>Addr.add e (i*1)) d) (q - i) (c - i))] b0 fun N9 b1=>
 ∃v7 x5 w6,N9=Value.slice v7 x5 w6∧
 Zb g f b1∧Za b1 ⟨a,0,none⟩ (Value.int .i64 F) fun z3=>
 Za z3 ⟨a,1,none⟩ (Value.int .i64 I) fun z4=>
 Za z4 ⟨a,2,none⟩ (Value.int .u32 (IntKind.wrap .u32 (IntKind.wrap .i64 ((IntKind.wrap .i64 (65536*K))+N)))) fun z5=>
 Za z5 ⟨a,3,none⟩ (Value.int .u32 (IntKind.wrap .u32 (IntKind.wrap .i64 ((IntKind.wrap .i64 (65536*P))+t3)))) fun z6=>
 Za z6 ⟨a,4,none⟩ (Value.int .i64 (IntKind.wrap .i64 (Int.tmod D 64))) fun z8=>
 Za z8 ⟨a,5,none⟩ (Value.int .i64 u0) fun z9=>
 Za z9 ⟨a,6,none⟩ (Value.int .i64 u7) fun A0=>
 Za A0 ⟨a,7,none⟩ (Value.int .i64 C) fun A1=>
 Za A1 ⟨a,8,none⟩ (Value.slice v7 x5 w6) fun t=>
 ∃f8,t.cell ⟨a,0,none⟩=some (Value.int .i64 f8)∧∃g9,t.cell ⟨a,1,none⟩=some (Value.int .i64 g9)∧∃i0,t.cell ⟨a,2,none⟩=some (Value.int .u32 i0)∧∃j1,t.cell ⟨a,3,none⟩=some (Value.int .u32 j1)∧∃k2,t.cell ⟨a,4,none⟩=some (Value.int .i64 k2)∧∃l3,t.cell ⟨a,5,none⟩=some (Value.int .i64 l3)∧∃m4,t.cell ⟨a,6,none⟩=some (Value.int .i64 m4)∧∃n5,t.cell ⟨a,7,none⟩=some (Value.int .i64 n5)∧∃o6 q8 p7,t.cell ⟨a,8,none⟩=some (Value.slice o6 q8 p7)∧p (Value.tuple ⟨[(Value.agg ⟨[(Value.int .i64 f8),(Value.int .i64 g9),(Value.int .u32 i0),(Value.int .u32 j1),(Value.int .i64 k2),(Value.int .i64 l3),(Value.int .i64 m4),(Value.int .i64 n5),(Value.slice o6 q8 p7)]⟩),(Value.int .i64 0)]⟩) t)∧
 (FnW Tryz.prog Zp ⟨[(Value.slice (if c=k then d else Option.map (fun e=>Addr.add e (k*1)) d) (J - k) (c - k))]⟩ U fun K5 V=>
 ∃S,K5=Value.int .i64 S∧
 Zb g f V∧(NewW V (Obj.cells ⟨[]⟩ Zh) fun N1 A2=>
 FnW Tryz.prog Zp ⟨[(Value.slice (if c=j then d else Option.map (fun e=>Addr.add e (j*1)) d) (G - j) (c - j))]⟩ A2 fun L4 b2=>
 ∃u1,L4=Value.int .i64 u1∧
 Zb g f b2∧FnW Tryz.prog Zp ⟨[(Value.slice (if c=h then d else Option.map (fun e=>Addr.add e (h*1)) d) (E - h) (c - h))]⟩ b2 fun M2 b3=>
 ∃u9,M2=Value.int .i64 u9∧
 Zb g f b3∧AppW Tryz.prog #[Zd,Zd] Zd [(Value.slice (some ⟨N1,0,none⟩) 0 0),(Value.slice (if c=i then d else Option.map (fun e=>Addr.add e (i*1)) d) (q - i) (c - i))] b3 fun O0 b4=>
 ∃v8 x6 w7,O0=Value.slice v8 x6 w7∧
 Zb g f b4∧Za b4 ⟨a,0,none⟩ (Value.int .i64 F) fun A4=>
 Za A4 ⟨a,1,none⟩ (Value.int .i64 I) fun A5=>
 Za A5 ⟨a,2,none⟩ (Value.int .u32 (IntKind.wrap .u32 (IntKind.wrap .i64 ((IntKind.wrap .i64 (65536*K))+N)))) fun A6=>
 Za A6 ⟨a,3,none⟩ (Value.int .u32 (IntKind.wrap .u32 (IntKind.wrap .i64 ((IntKind.wrap .i64 (65536*P))+S)))) fun A7=>
 Za A7 ⟨a,4,none⟩ (Value.int .i64 (IntKind.wrap .i64 (Int.tmod D 64))) fun A8=>
 Za A8 ⟨a,5,none⟩ (Value.int .i64 u1) fun A9=>
 Za A9 ⟨a,6,none⟩ (Value.int .i64 u9) fun B0=>
 Za B0 ⟨a,7,none⟩ (Value.int .i64 C) fun B1=>
 Za B1 ⟨a,8,none⟩ (Value.slice v8 x6 w7) fun u=>
 ∃f9,u.cell ⟨a,0,none⟩=some (Value.int .i64 f9)∧∃h0,u.cell ⟨a,1,none⟩=some (Value.int .i64 h0)∧∃i1,u.cell ⟨a,2,none⟩=some (Value.int .u32 i1)∧∃j2,u.cell ⟨a,3,none⟩=some (Value.int .u32 j2)∧∃k3,u.cell ⟨a,4,none⟩=some (Value.int .i64 k3)∧∃l4,u.cell ⟨a,5,none⟩=some (Value.int .i64 l4)∧∃m5,u.cell ⟨a,6,none⟩=some (Value.int .i64 m5)∧∃n6,u.cell ⟨a,7,none⟩=some (Value.int .i64 n6)∧∃o7 q9 p8,u.cell ⟨a,8,none⟩=some (Value.slice o7 q9 p8)∧p (Value.tuple ⟨[(Value.agg ⟨[(Value.int .i64 f9),(Value.int .i64 h0),(Value.int .u32 i1),(Value.int .u32 j2),(Value.int .i64 k3),(Value.int .i64 l4),(Value.int .i64 m5),(Value.int .i64 n6),(Value.slice o7 q9 p8)]⟩),(Value.int .i64 0)]⟩) u)∧
 (FnW Tryz.prog Zp ⟨[(Value.slice (if c=j then d else Option.map (fun e=>Addr.add e (j*1)) d) (G - j) (c - j))]⟩ V fun L5 W=>
 ∃a1,L5=Value.int .i64 a1∧
 Zb g f W∧(NewW W (Obj.cells ⟨[]⟩ Zh) fun N2 B3=>
 FnW Tryz.prog Zp ⟨[(Value.slice (if c=h then d else Option.map (fun e=>Addr.add e (h*1)) d) (E - h) (c - h))]⟩ B3 fun M3 b5=>
 ∃v0,M3=Value.int .i64 v0∧
 Zb g f b5∧AppW Tryz.prog #[Zd,Zd] Zd [(Value.slice (some ⟨N2,0,none⟩) 0 0),(Value.slice (if c=i then d else Option.map (fun e=>Addr.add e (i*1)) d) (q - i) (c - i))] b5 fun O1 b6=>
 ∃v9 x7 w8,O1=Value.slice v9 x7 w8∧
 Zb g f b6∧Za b6 ⟨a,0,none⟩ (Value.int .i64 F) fun B4=>
 Za B4 ⟨a,1,none⟩ (Value.int .i64 I) fun B5=>
 Za B5 ⟨a,2,none⟩ (Value.int .u32 (IntKind.wrap .u32 (IntKind.wrap .i64 ((IntKind.wrap .i64 (65536*K))+N)))) fun B6=>
 Za B6 ⟨a,3,none⟩ (Value.int .u32 (IntKind.wrap .u32 (IntKind.wrap .i64 ((IntKind.wrap .i64 (65536*P))+S)))) fun B7=>
 Za B7 ⟨a,4,none⟩ (Value.int .i64 (IntKind.wrap .i64 (Int.tmod D 64))) fun B8=>
 Za B8 ⟨a,5,none⟩ (Value.int .i64 a1) fun B9=>
 Za B9 ⟨a,6,none⟩ (Value.int .i64 v0) fun C0=>
 Za C0 ⟨a,7,none⟩ (Value.int .i64 C) fun C2=>
 Za C2 ⟨a,8,none⟩ (Value.slice v9 x7 w8) fun v=>
 ∃f0,v.cell ⟨a,0,none⟩=some (Value.int .i64 f0)∧∃g1,v.cell ⟨a,1,none⟩=some (Value.int .i64 g1)∧∃h2,v.cell ⟨a,2,none⟩=some (Value.int .u32 h2)∧∃i3,v.cell ⟨a,3,none⟩=some (Value.int .u32 i3)∧∃j4,v.cell ⟨a,4,none⟩=some (Value.int .i64 j4)∧∃k5,v.cell ⟨a,5,none⟩=some (Value.int .i64 k5)∧∃l6,v.cell ⟨a,6,none⟩=some (Value.int .i64 l6)∧∃m7,v.cell ⟨a,7,none⟩=some (Value.int .i64 m7)∧∃n8 q0 o9,v.cell ⟨a,8,none⟩=some (Value.slice n8 q0 o9)∧p (Value.tuple ⟨[(Value.agg ⟨[(Value.int .i64 f0),(Value.int .i64 g1),(Value.int .u32 h2),(Value.int .u32 i3),(Value.int .i64 j4),(Value.int .i64 k5),(Value.int .i64 l6),(Value.int .i64 m7),(Value.slice n8 q0 o9)]⟩),(Value.int .i64 0)]⟩) v)∧
 (FnW Tryz.prog Zp ⟨[(Value.slice (if c=h then d else Option.map (fun e=>Addr.add e (h*1)) d) (E - h) (c - h))]⟩ W fun M4 b7=>
 ∃v1,M4=Value.int .i64 v1∧
 Zb g f b7∧NewW b7 (Obj.cells ⟨[]⟩ Zh) fun N3 C3=>
 AppW Tryz.prog #[Zd,Zd] Zd [(Value.slice (some ⟨N3,0,none⟩) 0 0),(Value.slice (if c=i then d else Option.map (fun e=>Addr.add e (i*1)) d) (q - i) (c - i))] C3 fun O2 b8=>
 ∃w0 x8 w9,O2=Value.slice w0 x8 w9∧
 Zb g f b8∧Za b8 ⟨a,0,none⟩ (Value.int .i64 F) fun C4=>
 Za C4 ⟨a,1,none⟩ (Value.int .i64 I) fun C5=>
 Za C5 ⟨a,2,none⟩ (Value.int .u32 (IntKind.wrap .u32 (IntKind.wrap .i64 ((IntKind.wrap .i64 (65536*K))+N)))) fun C6=>
 Za C6 ⟨a,3,none⟩ (Value.int .u32 (IntKind.wrap .u32 (IntKind.wrap .i64 ((IntKind.wrap .i64 (65536*P))+S)))) fun C7=>
 Za C7 ⟨a,4,none⟩ (Value.int .i64 (IntKind.wrap .i64 (Int.tmod D 64))) fun C8=>
 Za C8 ⟨a,5,none⟩ (Value.int .i64 a1) fun D0=>
 Za D0 ⟨a,6,none⟩ (Value.int .i64 v1) fun D1=>
 Za D1 ⟨a,7,none⟩ (Value.int .i64 C) fun D2=>
 Za D2 ⟨a,8,none⟩ (Value.slice w0 x8 w9) fun w=>
 ∃f1,w.cell ⟨a,0,none⟩=some (Value.int .i64 f1)∧∃g2,w.cell ⟨a,1,none⟩=some (Value.int .i64 g2)∧∃h3,w.cell ⟨a,2,none⟩=some (Value.int .u32 h3)∧∃i4,w.cell ⟨a,3,none⟩=some (Value.int .u32 i4)∧∃j5,w.cell ⟨a,4,none⟩=some (Value.int .i64 j5)∧∃k6,w.cell ⟨a,5,none⟩=some (Value.int .i64 k6)∧∃l7,w.cell ⟨a,6,none⟩=some (Value.int .i64 l7)∧∃m8,w.cell ⟨a,7,none⟩=some (Value.int .i64 m8)∧∃n9 q1 p0,w.cell ⟨a,8,none⟩=some (Value.slice n9 q1 p0)∧p (Value.tuple ⟨[(Value.agg ⟨[(Value.int .i64 f1),(Value.int .i64 g2),(Value.int .u32 h3),(Value.int .u32 i4),(Value.int .i64 j5),(Value.int .i64 k6),(Value.int .i64 l7),(Value.int .i64 m8),(Value.slice n9 q1 p0)]⟩),(Value.int .i64 0)]⟩) w))))))))))
def Zbpk (G H:Int) (f:Option Addr) (c h:Nat) (v:Heap) (g:Value->Heap->Prop):Prop:=
 NewW v (Obj.cells ⟨[(Value.int .i64 0),(Value.int .i64 0),(Value.int .u32 0),(Value.int .u32 0),(Value.int .i64 0),(Value.int .i64 0),(Value.int .i64 0),(Value.int .i64 0),(Value.slice none 0 0)]⟩ Zq) fun a e=>
 IfB (decide (((c:Int):Int)<20))
 (Za e ⟨a,0,none⟩ (Value.int .i64 0) fun y=>
 Za y ⟨a,1,none⟩ (Value.int .i64 0) fun z=>
 Za z ⟨a,2,none⟩ (Value.int .u32 0) fun A=>
 Za A ⟨a,3,none⟩ (Value.int .u32 0) fun B=>
 Za B ⟨a,4,none⟩ (Value.int .i64 0) fun C=>
 Za C ⟨a,5,none⟩ (Value.int .i64 0) fun D=>
 Za D ⟨a,6,none⟩ (Value.int .i64 0) fun E=>
 Za E ⟨a,7,none⟩ (Value.int .i64 0) fun F=>
 Za F ⟨a,8,none⟩ (Value.slice none 0 0) fun b=>
 ∃i,b.cell ⟨a,0,none⟩=some (Value.int .i64 i)∧∃j,b.cell ⟨a,1,none⟩=some (Value.int .i64 j)∧∃k,b.cell ⟨a,2,none⟩=some (Value.int .u32 k)∧∃l,b.cell ⟨a,3,none⟩=some (Value.int .u32 l)∧∃m,b.cell ⟨a,4,none⟩=some (Value.int .i64 m)∧∃n,b.cell ⟨a,5,none⟩=some (Value.int .i64 n)∧∃o,b.cell ⟨a,6,none⟩=some (Value.int .i64 o)∧∃p,b.cell ⟨a,7,none⟩=some (Value.int .i64 p)∧∃q s r,b.cell ⟨a,8,none⟩=some (Value.slice q s r)∧g (Value.tuple ⟨[(Value.agg ⟨[(Value.int .i64 i),(Value.int .i64 j),(Value.int .u32 k),(Value.int .u32 l),(Value.int .i64 m),(Value.int .i64 n),(Value.int .i64 o),(Value.int .i64 p),(Value.slice q s r)]⟩),(Value.int .i64 110)]⟩) b)
 (NilP f fun K=>
 InB 12 c fun I=>
 elemAt K I 1 fun J=>
 ∃d,e.cell J=some (Value.int .u8 d)∧
 (16:Int)≠0∧
 IfB (decide (((IntKind.wrap .i64 (4*(IntKind.wrap .i64 (IntKind.wrap .u8 (Int.tdiv d 16))))):Int)<20))
 (Znp f c h a d true e g)
 (IfB (decide (((IntKind.wrap .i64 (4*(IntKind.wrap .i64 (IntKind.wrap .u8 (Int.tdiv d 16))))):Int)>(c:Int)))
 (Znp f c h a d true e g)
 (FnW Tryz.prog Zos ⟨[(Value.int .u32 G),(Value.int .u32 H),(Value.int .u8 6),(Value.int .i64 (c:Int))]⟩ e fun L w=>
 ∃t,L=Value.int .u32 t∧
 FnW Tryz.prog Zly ⟨[(Value.int .u32 t),(Value.slice f c h)]⟩ w fun M x=>
 ∃u,M=Value.int .u32 u∧
 Znp f c h a d (u !=65535) x g)))
theorem Zchs (g h:Int) (d:Option Addr) (f e:Nat) {a:Heap} {c:Value->Heap->Prop} (j:Zbpk g h d f e a fun k i=>∀b,Shut a i b->c k b):FnW Tryz.prog Zxw ⟨[(Value.int .u32 g),(Value.int .u32 h),(Value.slice d f e)]⟩ a c:=Zc Tryz.func52 ⟨[(9,[0,1,3,4,6,7,10,11,15,16,19,20,24,25,26,27,28,29,30,32,33,35,37,38,39,36,2,5,8,9,12,13,14,17,18,21,22,23,31,34,40,41,42,43],[76])],[],[],[(9,⟨36,[24,25,26],[0,1,3,4,6,7,10,11,15,16,19,20,27,28,29,30,32,33,35,37,38,39,2,5,8,9,12,13,14,17,18,21,22,23,31,34],[40],[41,42,43],[2,5,8,12,17,21,31,34]⟩)]⟩ (by kernel_rfl) (by kernel_rfl) j
def Ztw (i j a:Nat) (k:Int) (c:Heap) (h:Value->Heap->Prop):Prop:=
 ∃f,c.cell ⟨i,j,none⟩=some (Value.int .i64 f)∧
 Za c ⟨a,0,none⟩ (Value.int .i64 f) fun g=>
 Za g ⟨a,1,none⟩ (Value.int .i64 k) fun b=>
 ∃d,b.cell ⟨a,0,none⟩=some (Value.int .i64 d)∧∃e,b.cell ⟨a,1,none⟩=some (Value.int .i64 e)∧h (Value.agg ⟨[(Value.int .i64 d),(Value.int .i64 e)]⟩) b
def Zbpa (b c:Nat) (j:Heap) (d:Value->Heap->Prop):Prop:=
 NewW j (Obj.cells ⟨[(Value.int .i64 0),(Value.int .i64 0)]⟩ Ziy) fun h a=>
 ∃i,a.cell ⟨b,c+5,none⟩=some (Value.pointer i)∧
 IfB (!i.isNone)
 (∃e,a.cell ⟨b,c+5,none⟩=some (Value.pointer e)∧
 NilP e fun f=>
 ∃k g l,a.cell ⟨f.block,f.off+2,none⟩=some (Value.slice k g l)∧
 Ztw b c h (g:Int) a d)
 (Ztw b c h 0 a d)
theorem Zchl (d e:Nat) {a:Heap} {c:Value->Heap->Prop} (g:Zbpa d e a fun h f=>∀b,Shut a f b->c h b):FnW Tryz.prog Zpx ⟨[(Value.pointer (some ⟨d,e,none⟩))]⟩ a c:=Zc Tryz.func53 ⟨[],[],[],[]⟩ (by kernel_rfl) (by kernel_rfl) g
def Ztp (d:Nat) (f:Option Addr) (h g:Nat) (e:Int) (a:Heap) (c:Value->Heap->Prop):Prop:=
 FnW Tryz.prog Zme ⟨[(Value.pointer (some ⟨d,0,none⟩))]⟩ a fun i b=>
 i=Value.tuple ⟨[]⟩∧
 c (Value.tuple ⟨[(Value.slice f h g),(Value.int .i64 e)]⟩) b
def Zto (c:Nat) (N:Int) (b:Nat) (O:Bool) (d:Heap) (e:Value->Heap->Prop):Prop:=
 IfB O
 (e (Value.tuple ⟨[(Value.slice none 0 0),(Value.int .i64 2)]⟩) d)
 (∃f,d.cell ⟨c,0,none⟩=some (Value.int .i64 f)∧
 IfB (f==0)
 (e (Value.tuple ⟨[(Value.slice none 0 0),(Value.int .i64 150)]⟩) d)
 (Za d ⟨c,10,none⟩ (Value.int .i64 N) fun a=>
 ∃g,a.cell ⟨c,0,none⟩=some (Value.int .i64 g)∧
 IfB (g==1)
 (∃h,a.cell ⟨b,0,none⟩=some (Value.int .i64 h)∧∃i,a.cell ⟨b,1,none⟩=some (Value.int .i64 i)∧∃j,a.cell ⟨b,2,none⟩=some (Value.int .u32 j)∧∃k,a.cell ⟨b,3,none⟩=some (Value.int .u32 k)∧∃l,a.cell ⟨b,4,none⟩=some (Value.int .i64 l)∧∃m,a.cell ⟨b,5,none⟩=some (Value.int .i64 m)∧∃n,a.cell ⟨b,6,none⟩=some (Value.int .i64 n)∧∃o,a.cell ⟨b,7,none⟩=some (Value.int .i64 o)∧∃p r q,a.cell ⟨b,8,none⟩=some (Value.slice p r q)∧FnW Tryz.prog Zym ⟨[(Value.pointer (some ⟨c,0,none⟩)),(Value.agg ⟨[(Value.int .i64 h),(Value.int .i64 i),(Value.int .u32 j),(Value.int .u32 k),(Value.int .i64 l),(Value.int .i64 m),(Value.int .i64 n),(Value.int .i64 o),(Value.slice p r q)]⟩)]⟩ a fun P L=>
 ∃s u t,∃v:Int,P=(Value.tuple ⟨[(Value.slice s u t),(Value.int .i64 v)]⟩)∧
 Ztp c s u t v L e)
 (∃w,a.cell ⟨b,0,none⟩=some (Value.int .i64 w)∧∃x,a.cell ⟨b,1,none⟩=some (Value.int .i64 x)∧∃y,a.cell ⟨b,2,none⟩=some (Value.int .u32 y)∧∃z,a.cell ⟨b,3,none⟩=some (Value.int .u32 z)∧∃A,a.cell ⟨b,4,none⟩=some (Value.int .i64 A)∧∃B,a.cell ⟨b,5,none⟩=some (Value.int .i64 B)∧∃C,a.cell ⟨b,6,none⟩=some (Value.int .i64 C)∧∃D,a.cell ⟨b,7,none⟩=some (Value.int .i64 D)∧∃E G F,a.cell ⟨b,8,none⟩=some (Value.slice E G F)∧FnW Tryz.prog Zxt ⟨[(Value.pointer (some ⟨c,0,none⟩)),(Value.agg ⟨[(Value.int .i64 w),(Value.int .i64 x),(Value.int .u32 y),(Value.int .u32 z),(Value.int .i64 A),(Value.int .i64 B),(Value.int .i64 C),(Value.int .i64 D),(Value.slice E G F)]⟩)]⟩ a fun Q M=>
 ∃H J I,∃K:Int,Q=(Value.tuple ⟨[(Value.slice H J I),(Value.int .i64 K)]⟩)∧
 Ztp c H J I K M e)))
def Zbos (c:Nat) (d u v w x y z A B:Int) (C:Option Addr) (E D:Nat) (s:Heap) (e:Value->Heap->Prop):Prop:=
 NewW s (Obj.cells ⟨[(Value.int .i64 u),(Value.int .i64 v),(Value.int .u32 w),(Value.int .u32 x),(Value.int .i64 y),(Value.int .i64 z),(Value.int .i64 A),(Value.int .i64 B),(Value.slice C E D)]⟩ Zq) fun b a=>
 ∃f,a.cell ⟨c,10,none⟩=some (Value.int .i64 f)∧
 IfB (decide (d<f))
 (Zto c d b true a e)
 (∃g,a.cell ⟨b,0,none⟩=some (Value.int .i64 g)∧∃h,a.cell ⟨b,1,none⟩=some (Value.int .i64 h)∧∃i,a.cell ⟨b,2,none⟩=some (Value.int .u32 i)∧∃j,a.cell ⟨b,3,none⟩=some (Value.int .u32 j)∧∃k,a.cell ⟨b,4,none⟩=some (Value.int .i64 k)∧∃l,a.cell ⟨b,5,none⟩=some (Value.int .i64 l)∧∃m,a.cell ⟨b,6,none⟩=some (Value.int .i64 m)∧∃n,a.cell ⟨b,7,none⟩=some (Value.int .i64 n)∧∃o q p,a.cell ⟨b,8,none⟩=some (Value.slice o q p)∧FnW Tryz.prog Zou ⟨[(Value.agg ⟨[(Value.int .i64 g),(Value.int .i64 h),(Value.int .u32 i),(Value.int .u32 j),(Value.int .i64 k),(Value.int .i64 l),(Value.int .i64 m),(Value.int .i64 n),(Value.slice o q p)]⟩)]⟩ a fun F t=>
 ∃r,F=Value.bool r∧
 Zto c d b (!r) t e)
theorem Zche (d:Nat) (e f g h i j k l m:Int) (n:Option Addr) (p o:Nat) {a:Heap} {c:Value->Heap->Prop} (r:Zbos d e f g h i j k l m n p o a fun s q=>∀b,Shut a q b->c s b):FnW Tryz.prog Zxs ⟨[(Value.pointer (some ⟨d,0,none⟩)),(Value.int .i64 e),(Value.agg ⟨[(Value.int .i64 f),(Value.int .i64 g),(Value.int .u32 h),(Value.int .u32 i),(Value.int .i64 j),(Value.int .i64 k),(Value.int .i64 l),(Value.int .i64 m),(Value.slice n p o)]⟩)]⟩ a c:=Zc Tryz.func54 ⟨[],[],[],[]⟩ (by kernel_rfl) (by kernel_rfl) r
def Ztb (i:Nat) (h:Int) (j:Option Addr) (l k:Nat) (b:Int) (f:((Option Addr×Nat×Nat)×Int×Unit)->Heap->Prop) (c:Option Addr) (e d:Nat) (a:Heap) (g:Value->Heap->Prop):Prop:=
 f ((c,e,d),((IntKind.wrap .i64 (b+1)),())) a
def Zbny (b:Nat) (f:Int) (j:Option Addr) (l k:Nat) (g:Option Addr) (i h:Nat) (c:Int) (a:Heap) (m:((Option Addr×Nat×Nat)×Int×Unit)->Heap->Prop) (e:Value->Heap->Prop):Prop:=
 ∃G t H,a.cell ⟨b,3,none⟩=some (Value.slice G t H)∧
 IfB (decide (c<(t:Int)))
 (∃u v I,a.cell ⟨b,3,none⟩=some (Value.slice u v I)∧
 NilP u fun L=>
 InB c v fun J=>
 elemAt L J 3 fun K=>
 ∃w,a.cell K=some (Value.int .i64 w)∧
 IfB (w !=f)
 (∃x y M,a.cell ⟨b,3,none⟩=some (Value.slice x y M)∧
 NilP x fun D=>
 InB c y fun C=>
 elemAt D C 3 fun d=>
 ∃n,a.cell d=some (Value.int .i64 n)∧∃o,a.cell ⟨d.block,d.off+1,none⟩=some (Value.int .u32 o)∧∃p,a.cell ⟨d.block,d.off+2,none⟩=some (Value.pointer p)∧NewW a (Obj.cells ⟨[(Value.int .i64 n),(Value.int .u32 o),(Value.pointer p)]⟩ Zfe) fun E z=>
 AppW Tryz.prog #[Zdy,Zdy] Zdy [(Value.slice g i h),(Value.slice (some ⟨E,0,none⟩) 1 1)] z fun F A=>
 ∃q s r,F=Value.slice q s r∧
 Ztb b f j l k c m q s r A e)
 (Ztb b f j l k c m g i h a e))
 (Za a ⟨b,3,none⟩ (Value.slice g i h) fun B=>
 e (Value.slice j l k) B)
def Zbnx (p:Nat) (d:Int) (e:Option Addr) (g f:Nat) (q:Int) (b:Heap) (c:Value->Heap->Prop):Prop:=
 IfB (q==0)
 (NewW b (Obj.cells ⟨[(Value.int .i64 4),(Value.int .i64 d)]⟩ Zhr) fun r l=>
 AppW Tryz.prog #[Zdx,Zdx] Zdx [(Value.slice e g f),(Value.slice (some ⟨r,0,none⟩) 1 1)] l fun s m=>
 ∃h j i,s=Value.slice h j i∧
 NewW m (Obj.cells ⟨[]⟩ Zfe) fun t n=>
 Zbk ((Option Addr×Nat×Nat)×Int×Unit) (((some ⟨t,0,none⟩),0,0),(0,())) n fun a k o=>∀u:Env,Zbny p d h j i a.1.1 a.1.2.1 a.1.2.2 a.2.1 k o c)
 (c (Value.slice e g f) b)
def Zta (i:Nat) (e:Int) (d:Nat) (f:Option Addr) (h g:Nat) (a:Heap) (c:Value->Heap->Prop):Prop:=
 ∃b,a.cell ⟨d,0,none⟩=some (Value.int .i64 b)∧
 Zbnx i e f h g b a c
def Zit (h:Nat) (a:Int) (d:Nat) (e:Option Addr) (g f:Nat) (n:Bool) (b:Heap) (c:Value->Heap->Prop):Prop:=
 IfB n
 (NewW b (Obj.cells ⟨[(Value.int .i64 3),(Value.int .i64 a)]⟩ Zhr) fun o l=>
 AppW Tryz.prog #[Zdx,Zdx] Zdx [(Value.slice e g f),(Value.slice (some ⟨o,0,none⟩) 1 1)] l fun p m=>
 ∃i k j,p=Value.slice i k j∧
 Zta h a d i k j m c)
 (Zta h a d e g f b c)
def Zsz (h:Nat) (d:Int) (i b:Nat) (e:Option Addr) (g f:Nat) (a:Heap) (c:Value->Heap->Prop):Prop:=
 ∃j,a.cell ⟨i,0,none⟩=some (Value.int .i64 j)∧
 IfB (decide (j <= 5))
 (∃k,a.cell ⟨b,0,none⟩=some (Value.int .i64 k)∧
 IfB (k==6)
 (∃n,a.cell ⟨i,0,none⟩=some (Value.int .i64 n)∧
 Zit h d b e g f (n !=0) a c)
 (∃l,a.cell ⟨b,0,none⟩=some (Value.int .i64 l)∧
 IfB (l==7)
 (∃o,a.cell ⟨i,0,none⟩=some (Value.int .i64 o)∧
 Zit h d b e g f (o !=0) a c)
 (∃m,a.cell ⟨b,0,none⟩=some (Value.int .i64 m)∧
 IfB (m==9)
 (∃p,a.cell ⟨i,0,none⟩=some (Value.int .i64 p)∧
 Zit h d b e g f (p !=0) a c)
 (Zit h d b e g f false a c))))
 (Zit h d b e g f false a c)
def Zsy (i:Nat) (d:Int) (b c:Nat) (f:Option Addr) (h g:Nat) (a:Heap) (e:Value->Heap->Prop):Prop:=
 ∃j,a.cell ⟨c,1,none⟩=some (Value.int .i64 j)∧
 ∃k,a.cell ⟨b,1,none⟩=some (Value.int .i64 k)∧
 IfB (decide (j>k))
 (NewW a (Obj.cells ⟨[(Value.int .i64 2),(Value.int .i64 d)]⟩ Zhr) fun q o=>
 AppW Tryz.prog #[Zdx,Zdx] Zdx [(Value.slice f h g),(Value.slice (some ⟨q,0,none⟩) 1 1)] o fun r p=>
 ∃l n m,r=Value.slice l n m∧
 Zsz i d b c l n m p e)
 (Zsz i d b c f h g a e)
def Zsx (f:Nat) (a:Int) (d e g:Nat) (m:Bool) (b:Heap) (c:Value->Heap->Prop):Prop:=
 IfB m
 (NewW b (Obj.cells ⟨[(Value.int .i64 1),(Value.int .i64 a)]⟩ Zhr) fun n k=>
 AppW Tryz.prog #[Zdx,Zdx] Zdx [(Value.slice (some ⟨g,0,none⟩) 0 0),(Value.slice (some ⟨n,0,none⟩) 1 1)] k fun o l=>
 ∃h j i,o=Value.slice h j i∧
 Zsy f a d e h j i l c)
 (Zsy f a d e (some ⟨g,0,none⟩) 0 0 b c)
def Zbnz (f:Nat) (e r s:Int) (t u:Nat) (l:Heap) (d:Value->Heap->Prop):Prop:=
 NewW l (Obj.cells ⟨[(Value.int .i64 r),(Value.int .i64 s)]⟩ Ziy) fun c m=>
 FnW Tryz.prog Zpx ⟨[(Value.pointer (some ⟨t,u,none⟩))]⟩ m fun v n=>
 ∃g,∃h:Int,v=(Value.agg ⟨[(Value.int .i64 g),(Value.int .i64 h)]⟩)∧
 NewW n (Obj.cells ⟨[(Value.int .i64 0),(Value.int .i64 0)]⟩ Ziy) fun a o=>
 Za o ⟨a,0,none⟩ (Value.int .i64 g) fun p=>
 Za p ⟨a,1,none⟩ (Value.int .i64 h) fun q=>
 NewW q (Obj.cells ⟨[]⟩ Zhr) fun i b=>
 ∃j,b.cell ⟨c,0,none⟩=some (Value.int .i64 j)∧
 IfB (decide (j<3))
 (∃k,b.cell ⟨a,0,none⟩=some (Value.int .i64 k)∧
 Zsx f e c a i (decide (k≥3)) b d)
 (Zsx f e c a i false b d)
theorem Zcgo (i:Nat) (h d e:Int) (f g:Nat) {a:Heap} {c:Value->Heap->Prop} (k:Zbnz i h d e f g a fun l j=>∀b,Shut a j b->c l b):FnW Tryz.prog Zxi ⟨[(Value.pointer (some ⟨i,0,none⟩)),(Value.int .i64 h),(Value.agg ⟨[(Value.int .i64 d),(Value.int .i64 e)]⟩),(Value.pointer (some ⟨f,g,none⟩))]⟩ a c:=Zc Tryz.func55 ⟨[],[(13,[11,12],[.slice,.int .i64],[0,1,10])],[],[]⟩ (by kernel_rfl) (by kernel_rfl) k
def Zbki (d:Nat) (i b:Int) (a:Heap) (j:(Int×Unit)->Heap->Prop) (c:Value->Heap->Prop):Prop:=
 ∃k e l,a.cell ⟨d,2,none⟩=some (Value.slice k e l)∧
 IfB (decide (b<(e:Int)))
 (∃f g m,a.cell ⟨d,2,none⟩=some (Value.slice f g m)∧
 NilP f fun p=>
 InB b g fun n=>
 elemAt p n 1 fun o=>
 ∃h,a.cell o=some (Value.int .i64 h)∧
 IfB (h==i)
 (c (Value.bool true) a)
 (j ((IntKind.wrap .i64 (b+1)),()) a))
 (c (Value.bool false) a)
def Zbkj (e:Nat) (c:Int) (a:Heap) (b:Value->Heap->Prop):Prop:=
 Zbk (Int×Unit) (0,()) a fun f a d=>∀g:Env,Zbki e c f.1 a d b
theorem Zccz (e:Nat) (d:Int) {a:Heap} {c:Value->Heap->Prop} (g:Zbkj e d a fun h f=>∀b,Shut a f b->c h b):FnW Tryz.prog Zwf ⟨[(Value.pointer (some ⟨e,0,none⟩)),(Value.int .i64 d)]⟩ a c:=Zc Tryz.func56 ⟨[],[(2,[5],[.int .i64],[0,1])],[],[]⟩ (by kernel_rfl) (by kernel_rfl) g
def Zfs (I H:Int) (a:Nat) (J:Bool) (c:Heap) (e:Value->Heap->Prop):Prop:=
 IfB J
 (e (Value.tuple ⟨[(Value.pointer none),(Value.slice none 0 0),(Value.int .i64 2)]⟩) c)
 (∃f,c.cell ⟨a,1,none⟩=some (Value.int .i64 f)∧
 ∃g,c.cell ⟨a,0,none⟩=some (Value.int .i64 g)∧
 NewW c (Obj.cells ⟨[(Value.int .i64 2),(Value.int .i64 f),(Value.int .i64 g),(Value.int .u32 H),(Value.pointer none),(Value.pointer none),(Value.bool false),(Value.bool false),(Value.bool false),(Value.bool false),(Value.int .i64 I),(Value.int .i64 (-1))]⟩ Zgn) fun d b=>
 ∃h,b.cell ⟨a,0,none⟩=some (Value.int .i64 h)∧∃i,b.cell ⟨a,1,none⟩=some (Value.int .i64 i)∧∃j,b.cell ⟨a,2,none⟩=some (Value.int .u32 j)∧∃k,b.cell ⟨a,3,none⟩=some (Value.int .u32 k)∧∃l,b.cell ⟨a,4,none⟩=some (Value.int .i64 l)∧∃m,b.cell ⟨a,5,none⟩=some (Value.int .i64 m)∧∃n,b.cell ⟨a,6,none⟩=some (Value.int .i64 n)∧∃o,b.cell ⟨a,7,none⟩=some (Value.int .i64 o)∧∃p r q,b.cell ⟨a,8,none⟩=some (Value.slice p r q)∧FnW Tryz.prog Zlo ⟨[(Value.pointer (some ⟨d,0,none⟩)),(Value.agg ⟨[(Value.int .i64 h),(Value.int .i64 i),(Value.int .u32 j),(Value.int .u32 k),(Value.int .i64 l),(Value.int .i64 m),(Value.int .i64 n),(Value.int .i64 o),(Value.slice p r q)]⟩)]⟩ b fun K D=>
 K=Value.tuple ⟨[]⟩∧
 FnW Tryz.prog Zmd ⟨[(Value.pointer (some ⟨d,0,none⟩))]⟩ D fun L E=>
 ∃s,∃t:Int,∃u:Int,∃v:Int,∃w:Int,∃x:Int,∃y:Int,∃z:Int,∃(A:Option Addr) (C B:Nat),L=(Value.agg ⟨[(Value.int .i64 s),(Value.int .i64 t),(Value.int .u32 u),(Value.int .u32 v),(Value.int .i64 w),(Value.int .i64 x),(Value.int .i64 y),(Value.int .i64 z),(Value.slice A C B)]⟩)∧
 NewW E (Obj.cells ⟨[(Value.int .i64 s),(Value.int .i64 t),(Value.int .u32 u),(Value.int .u32 v),(Value.int .i64 w),(Value.int .i64 x),(Value.int .i64 y),(Value.int .i64 z),(Value.slice A C B)]⟩ Zq) fun M F=>
 FnW Tryz.prog Zme ⟨[(Value.pointer (some ⟨d,0,none⟩))]⟩ F fun N G=>
 N=Value.tuple ⟨[]⟩∧
 e (Value.tuple ⟨[(Value.pointer (some ⟨d,0,none⟩)),(Value.slice (some ⟨M,0,none⟩) 1 1),(Value.int .i64 0)]⟩) G)
def Zbog (g c6 c7 c8 c9 d0 d1 d2 d3:Int) (d4:Option Addr) (d6 d5:Nat) (i:Int) (c5:Heap) (h:Value->Heap->Prop):Prop:=
 NewW c5 (Obj.cells ⟨[(Value.int .i64 c6),(Value.int .i64 c7),(Value.int .u32 c8),(Value.int .u32 c9),(Value.int .i64 d0),(Value.int .i64 d1),(Value.int .i64 d2),(Value.int .i64 d3),(Value.slice d4 d6 d5)]⟩ Zq) fun a f=>
 ∃m,f.cell ⟨a,0,none⟩=some (Value.int .i64 m)∧∃n,f.cell ⟨a,1,none⟩=some (Value.int .i64 n)∧∃o,f.cell ⟨a,2,none⟩=some (Value.int .u32 o)∧∃p,f.cell ⟨a,3,none⟩=some (Value.int .u32 p)∧∃q,f.cell ⟨a,4,none⟩=some (Value.int .i64 q)∧∃r,f.cell ⟨a,5,none⟩=some (Value.int .i64 r)∧∃s,f.cell ⟨a,6,none⟩=some (Value.int .i64 s)∧∃t,f.cell ⟨a,7,none⟩=some (Value.int .i64 t)∧∃u w v,f.cell ⟨a,8,none⟩=some (Value.slice u w v)∧FnW Tryz.prog Zou ⟨[(Value.agg ⟨[(Value.int .i64 m),(Value.int .i64 n),(Value.int .u32 o),(Value.int .u32 p),(Value.int .i64 q),(Value.int .i64 r),(Value.int .i64 s),(Value.int .i64 t),(Value.slice u w v)]⟩)]⟩ f fun d7 k=>
 ∃x,d7=Value.bool x∧
 IfB (!x)
 (Zfs g i a true k h)
 (∃y,k.cell ⟨a,0,none⟩=some (Value.int .i64 y)∧
 FnW Tryz.prog Zjt ⟨[(Value.int .i64 y)]⟩ k fun d8 l=>
 ∃z,d8=Value.bool z∧
 IfB (!z)
 (Zfs g i a true l h)
 (∃A,l.cell ⟨a,1,none⟩=some (Value.int .i64 A)∧
 FnW Tryz.prog Zjt ⟨[(Value.int .i64 A)]⟩ l fun d9 b=>
 ∃B,d9=Value.bool B∧
 IfB (!B)
 (Zfs g i a true b h)
 (IfB (decide (g<0))
 (Zfs g i a true b h)
 (∃C,b.cell ⟨a,0,none⟩=some (Value.int .i64 C)∧∃D,b.cell ⟨a,1,none⟩=some (Value.int .i64 D)∧∃E,b.cell ⟨a,2,none⟩=some (Value.int .u32 E)∧∃F,b.cell ⟨a,3,none⟩=some (Value.int .u32 F)∧∃G,b.cell ⟨a,4,none⟩=some (Value.int .i64 G)∧∃H,b.cell ⟨a,5,none⟩=some (Value.int .i64 H)∧∃I,b.cell ⟨a,6,none⟩=some (Value.int .i64 I)∧∃J,b.cell ⟨a,7,none⟩=some (Value.int .i64 J)∧∃K M L,b.cell ⟨a,8,none⟩=some (Value.slice K M L)∧FnW Tryz.prog Zda ⟨[(Value.agg ⟨[(Value.int .i64 C),(Value.int .i64 D),(Value.int .u32 E),(Value.int .u32 F),(Value.int .i64 G),(Value.int .i64 H),(Value.int .i64 I),(Value.int .i64 J),(Value.slice K M L)]⟩),(Value.int .i64 2)]⟩ b fun e0 c=>
 ∃N,e0=Value.bool N∧
 IfB (!N)
 (Zfs g i a true c h)
 (∃O,c.cell ⟨a,0,none⟩=some (Value.int .i64 O)∧∃P,c.cell ⟨a,1,none⟩=some (Value.int .i64 P)∧∃Q,c.cell ⟨a,2,none⟩=some (Value.int .u32 Q)∧∃R,c.cell ⟨a,3,none⟩=some (Value.int .u32 R)∧∃S,c.cell ⟨a,4,none⟩=some (Value.int .i64 S)∧∃T,c.cell ⟨a,5,none⟩=some (Value.int .i64 T)∧∃U,c.cell ⟨a,6,none⟩=some (Value.int .i64 U)∧∃V,c.cell ⟨a,7,none⟩=some (Value.int .i64 V)∧∃W Y X,c.cell ⟨a,8,none⟩=some (Value.slice W Y X)∧FnW Tryz.prog Zda ⟨[(Value.agg ⟨[(Value.int .i64 O),(Value.int .i64 P),(Value.int .u32 Q),(Value.int .u32 R),(Value.int .i64 S),(Value.int .i64 T),(Value.int .i64 U),(Value.int .i64 V),(Value.slice W Y X)]⟩),(Value.int .i64 16)]⟩ c fun e1 d=>
 ∃Z,e1=Value.bool Z∧
 IfB Z
 (Zfs g i a true d h)
 (∃a0,d.cell ⟨a,0,none⟩=some (Value.int .i64 a0)∧∃a1,d.cell ⟨a,1,none⟩=some (Value.int .i64 a1)∧∃a2,d.cell ⟨a,2,none⟩=some (Value.int .u32 a2)∧∃a3,d.cell ⟨a,3,none⟩=some (Value.int .u32 a3)∧∃a4,d.cell ⟨a,4,none⟩=some (Value.int .i64 a4)∧∃a5,d.cell ⟨a,5,none⟩=some (Value.int .i64 a5)∧∃a6,d.cell ⟨a,6,none⟩=some (Value.int .i64 a6)∧∃a7,d.cell ⟨a,7,none⟩=some (Value.int .i64 a7)∧∃a8 b0 a9,d.cell ⟨a,8,none⟩=some (Value.slice a8 b0 a9)∧FnW Tryz.prog Zda ⟨[(Value.agg ⟨[(Value.int .i64 a0),(Value.int .i64 a1),(Value.int .u32 a2),(Value.int .u32 a3),(Value.int .i64 a4),(Value.int .i64 a5),(Value.int .i64 a6),(Value.int .i64 a7),(Value.slice a8 b0 a9)]⟩),(Value.int .i64 4)]⟩ d fun e2 e=>
 ∃b1,e2=Value.bool b1∧
 IfB b1
 (Zfs g i a true e h)
 (∃b2,e.cell ⟨a,0,none⟩=some (Value.int .i64 b2)∧∃b3,e.cell ⟨a,1,none⟩=some (Value.int .i64 b3)∧∃b4,e.cell ⟨a,2,none⟩=some (Value.int .u32 b4)∧∃b5,e.cell ⟨a,3,none⟩=some (Value.int .u32 b5)∧∃b6,e.cell ⟨a,4,none⟩=some (Value.int .i64 b6)∧∃b7,e.cell ⟨a,5,none⟩=some (Value.int .i64 b7)∧∃b8,e.cell ⟨a,6,none⟩=some (Value.int .i64 b8)∧∃b9,e.cell ⟨a,7,none⟩=some (Value.int .i64 b9)∧∃c0 c2 c1,e.cell ⟨a,8,none⟩=some (Value.slice c0 c2 c1)∧FnW Tryz.prog Zda ⟨[(Value.agg ⟨[(Value.int .i64 b2),(Value.int .i64 b3),(Value.int .u32 b4),(Value.int .u32 b5),(Value.int .i64 b6),(Value.int .i64 b7),(Value.int .i64 b8),(Value.int .i64 b9),(Value.slice c0 c2 c1)]⟩),(Value.int .i64 1)]⟩ e fun e3 j=>
 ∃c3,e3=Value.bool c3∧
 IfB c3
 (Zfs g i a true j h)
 (∃e4 c4 e5,j.cell ⟨a,8,none⟩=some (Value.slice e4 c4 e5)∧
 Zfs g i a (decide (((c4:Int):Int)>0)) j h))))))))
theorem Zcgu (e f g h i j k l m:Int) (n:Option Addr) (p o:Nat) (d:Int) {a:Heap} {c:Value->Heap->Prop} (r:Zbog e f g h i j k l m n p o d a fun s q=>∀b,Shut a q b->c s b):FnW Tryz.prog Zxo ⟨[(Value.int .i64 e),(Value.agg ⟨[(Value.int .i64 f),(Value.int .i64 g),(Value.int .u32 h),(Value.int .u32 i),(Value.int .i64 j),(Value.int .i64 k),(Value.int .i64 l),(Value.int .i64 m),(Value.slice n p o)]⟩),(Value.int .u32 d)]⟩ a c:=Zc Tryz.func57 ⟨[],[],[],[]⟩ (by kernel_rfl) (by kernel_rfl) r
def Zbjp (g2 g3 g4 g5 g6 g7 g8 g9:Int) (h0:Option Addr) (h2 h1:Nat) (d5:Heap) (k:Value->Heap->Prop):Prop:=
 NewW d5 (Obj.cells ⟨[(Value.int .i64 g2),(Value.int .i64 g3),(Value.int .u32 g4),(Value.int .u32 g5),(Value.int .i64 g6),(Value.int .i64 g7),(Value.int .i64 g8),(Value.int .i64 g9),(Value.slice h0 h2 h1)]⟩ Zq) fun c d6=>
 NewW d6 (Obj.cells ⟨[(Value.int .i64 0),(Value.int .i64 0),(Value.int .u32 0),(Value.int .u32 0),(Value.int .i64 0),(Value.int .i64 0),(Value.int .i64 0),(Value.int .i64 0),(Value.slice none 0 0)]⟩ Zq) fun a g=>
 ∃b1,g.cell ⟨c,0,none⟩=some (Value.int .i64 b1)∧∃b2,g.cell ⟨c,1,none⟩=some (Value.int .i64 b2)∧∃b3,g.cell ⟨c,2,none⟩=some (Value.int .u32 b3)∧∃b4,g.cell ⟨c,3,none⟩=some (Value.int .u32 b4)∧∃b5,g.cell ⟨c,4,none⟩=some (Value.int .i64 b5)∧∃b6,g.cell ⟨c,5,none⟩=some (Value.int .i64 b6)∧∃b7,g.cell ⟨c,6,none⟩=some (Value.int .i64 b7)∧∃b8,g.cell ⟨c,7,none⟩=some (Value.int .i64 b8)∧∃b9 c1 c0,g.cell ⟨c,8,none⟩=some (Value.slice b9 c1 c0)∧FnW Tryz.prog Zju ⟨[(Value.agg ⟨[(Value.int .i64 b1),(Value.int .i64 b2),(Value.int .u32 b3),(Value.int .u32 b4),(Value.int .i64 b5),(Value.int .i64 b6),(Value.int .i64 b7),(Value.int .i64 b8),(Value.slice b9 c1 c0)]⟩),(Value.int .i64 4)]⟩ g fun h4 e=>
 ∃c2,h4=Value.bool c2∧
 IfB c2
 (Za e ⟨a,0,none⟩ (Value.int .i64 0) fun f5=>
 Za f5 ⟨a,1,none⟩ (Value.int .i64 0) fun f6=>
 Za f6 ⟨a,2,none⟩ (Value.int .u32 0) fun f7=>
 Za f7 ⟨a,3,none⟩ (Value.int .u32 0) fun f8=>
 Za f8 ⟨a,4,none⟩ (Value.int .i64 0) fun f9=>
 Za f9 ⟨a,5,none⟩ (Value.int .i64 0) fun g0=>
 Za g0 ⟨a,6,none⟩ (Value.int .i64 0) fun d7=>
 Za d7 ⟨a,7,none⟩ (Value.int .i64 0) fun d8=>
 Za d8 ⟨a,8,none⟩ (Value.slice none 0 0) fun f=>
 ∃m,f.cell ⟨a,0,none⟩=some (Value.int .i64 m)∧∃p,f.cell ⟨a,1,none⟩=some (Value.int .i64 p)∧∃s,f.cell ⟨a,2,none⟩=some (Value.int .u32 s)∧∃v,f.cell ⟨a,3,none⟩=some (Value.int .u32 v)∧∃y,f.cell ⟨a,4,none⟩=some (Value.int .i64 y)∧∃B,f.cell ⟨a,5,none⟩=some (Value.int .i64 B)∧∃E,f.cell ⟨a,6,none⟩=some (Value.int .i64 E)∧∃H,f.cell ⟨a,7,none⟩=some (Value.int .i64 H)∧∃K Q N,f.cell ⟨a,8,none⟩=some (Value.slice K Q N)∧k (Value.tuple ⟨[(Value.agg ⟨[(Value.int .i64 m),(Value.int .i64 p),(Value.int .u32 s),(Value.int .u32 v),(Value.int .i64 y),(Value.int .i64 B),(Value.int .i64 E),(Value.int .i64 H),(Value.slice K Q N)]⟩),(Value.bool false)]⟩) f)
 (∃c3,e.cell ⟨c,0,none⟩=some (Value.int .i64 c3)∧∃c4,e.cell ⟨c,1,none⟩=some (Value.int .i64 c4)∧∃c5,e.cell ⟨c,2,none⟩=some (Value.int .u32 c5)∧∃c6,e.cell ⟨c,3,none⟩=some (Value.int .u32 c6)∧∃c7,e.cell ⟨c,4,none⟩=some (Value.int .i64 c7)∧∃c8,e.cell ⟨c,5,none⟩=some (Value.int .i64 c8)∧∃c9,e.cell ⟨c,6,none⟩=some (Value.int .i64 c9)∧∃d0,e.cell ⟨c,7,none⟩=some (Value.int .i64 d0)∧∃d1 d3 d2,e.cell ⟨c,8,none⟩=some (Value.slice d1 d3 d2)∧FnW Tryz.prog Zju ⟨[(Value.agg ⟨[(Value.int .i64 c3),(Value.int .i64 c4),(Value.int .u32 c5),(Value.int .u32 c6),(Value.int .i64 c7),(Value.int .i64 c8),(Value.int .i64 c9),(Value.int .i64 d0),(Value.slice d1 d3 d2)]⟩),(Value.int .i64 16)]⟩ e fun h5 d=>
 ∃d4,h5=Value.bool d4∧
 IfB d4
 (∃T,d.cell ⟨c,1,none⟩=some (Value.int .i64 T)∧
 ∃U,d.cell ⟨c,0,none⟩=some (Value.int .i64 U)∧
 ∃V,d.cell ⟨c,3,none⟩=some (Value.int .u32 V)∧
 Za d ⟨a,0,none⟩ (Value.int .i64 T) fun d9=>
 Za d9 ⟨a,1,none⟩ (Value.int .i64 U) fun e0=>
 Za e0 ⟨a,2,none⟩ (Value.int .u32 V) fun e1=>
 Za e1 ⟨a,3,none⟩ (Value.int .u32 0) fun e2=>
 Za e2 ⟨a,4,none⟩ (Value.int .i64 4) fun e3=>
 Za e3 ⟨a,5,none⟩ (Value.int .i64 0) fun e4=>
 Za e4 ⟨a,6,none⟩ (Value.int .i64 0) fun e5=>
 Za e5 ⟨a,7,none⟩ (Value.int .i64 0) fun e6=>
 Za e6 ⟨a,8,none⟩ (Value.slice none 0 0) fun h=>
 ∃n,h.cell ⟨a,0,none⟩=some (Value.int .i64 n)∧∃q,h.cell ⟨a,1,none⟩=some (Value.int .i64 q)∧∃t,h.cell ⟨a,2,none⟩=some (Value.int .u32 t)∧∃w,h.cell ⟨a,3,none⟩=some (Value.int .u32 w)∧∃z,h.cell ⟨a,4,none⟩=some (Value.int .i64 z)∧∃C,h.cell ⟨a,5,none⟩=some (Value.int .i64 C)∧∃F,h.cell ⟨a,6,none⟩=some (Value.int .i64 F)∧∃I,h.cell ⟨a,7,none⟩=some (Value.int .i64 I)∧∃L R O,h.cell ⟨a,8,none⟩=some (Value.slice L R O)∧k (Value.tuple ⟨[(Value.agg ⟨[(Value.int .i64 n),(Value.int .i64 q),(Value.int .u32 t),(Value.int .u32 w),(Value.int .i64 z),(Value.int .i64 C),(Value.int .i64 F),(Value.int .i64 I),(Value.slice L R O)]⟩),(Value.bool true)]⟩) h)
 (∃j:List Nat,(∀b∈j,∃g1,d b=some g1)∧
 c∈j∧∃W,d.cell ⟨c,1,none⟩=some (Value.int .i64 W)∧
 c∈j∧∃X,d.cell ⟨c,0,none⟩=some (Value.int .i64 X)∧
 c∈j∧∃Y,d.cell ⟨c,2,none⟩=some (Value.int .u32 Y)∧
 ∃Z,d.cell ⟨c,0,none⟩=some (Value.int .i64 Z)∧∃a0,d.cell ⟨c,1,none⟩=some (Value.int .i64 a0)∧∃a1,d.cell ⟨c,2,none⟩=some (Value.int .u32 a1)∧∃a2,d.cell ⟨c,3,none⟩=some (Value.int .u32 a2)∧∃a3,d.cell ⟨c,4,none⟩=some (Value.int .i64 a3)∧∃a4,d.cell ⟨c,5,none⟩=some (Value.int .i64 a4)∧∃a5,d.cell ⟨c,6,none⟩=some (Value.int .i64 a5)∧∃a6,d.cell ⟨c,7,none⟩=some (Value.int .i64 a6)∧∃a7 a9 a8,d.cell ⟨c,8,none⟩=some (Value.slice a7 a9 a8)∧FnW Tryz.prog Zmb ⟨[(Value.agg ⟨[(Value.int .i64 Z),(Value.int .i64 a0),(Value.int .u32 a1),(Value.int .u32 a2),(Value.int .i64 a3),(Value.int .i64 a4),(Value.int .i64 a5),(Value.int .i64 a6),(Value.slice a7 a9 a8)]⟩)]⟩ d fun h3 l=>
 ∃b0,h3=Value.int .i64 b0∧
 Zb j d l∧Za l ⟨a,0,none⟩ (Value.int .i64 W) fun e7=>
 Za e7 ⟨a,1,none⟩ (Value.int .i64 X) fun e8=>
 Za e8 ⟨a,2,none⟩ (Value.int .u32 0) fun e9=>
 Za e9 ⟨a,3,none⟩ (Value.int .u32 (IntKind.wrap .u32 (IntKind.wrap .u64 ((IntKind.wrap .u64 Y)+(IntKind.wrap .u64 b0))))) fun f0=>
 Za f0 ⟨a,4,none⟩ (Value.int .i64 20) fun f1=>
 Za f1 ⟨a,5,none⟩ (Value.int .i64 0) fun f2=>
 Za f2 ⟨a,6,none⟩ (Value.int .i64 0) fun f3=>
 Za f3 ⟨a,7,none⟩ (Value.int .i64 0) fun f4=>
 Za f4 ⟨a,8,none⟩ (Value.slice none 0 0) fun i=>
 ∃o,i.cell ⟨a,0,none⟩=some (Value.int .i64 o)∧∃r,i.cell ⟨a,1,none⟩=some (Value.int .i64 r)∧∃u,i.cell ⟨a,2,none⟩=some (Value.int .u32 u)∧∃x,i.cell ⟨a,3,none⟩=some (Value.int .u32 x)∧∃A,i.cell ⟨a,4,none⟩=some (Value.int .i64 A)∧∃D,i.cell ⟨a,5,none⟩=some (Value.int .i64 D)∧∃G,i.cell ⟨a,6,none⟩=some (Value.int .i64 G)∧∃J,i.cell ⟨a,7,none⟩=some (Value.int .i64 J)∧∃M S P,i.cell ⟨a,8,none⟩=some (Value.slice M S P)∧k (Value.tuple ⟨[(Value.agg ⟨[(Value.int .i64 o),(Value.int .i64 r),(Value.int .u32 u),(Value.int .u32 x),(Value.int .i64 A),(Value.int .i64 D),(Value.int .i64 G),(Value.int .i64 J),(Value.slice M S P)]⟩),(Value.bool true)]⟩) i))
theorem Zccn (d e f g h i j k:Int) (l:Option Addr) (n m:Nat) {a:Heap} {c:Value->Heap->Prop} (p:Zbjp d e f g h i j k l n m a fun q o=>∀b,Shut a o b->c q b):FnW Tryz.prog Zot ⟨[(Value.agg ⟨[(Value.int .i64 d),(Value.int .i64 e),(Value.int .u32 f),(Value.int .u32 g),(Value.int .i64 h),(Value.int .i64 i),(Value.int .i64 j),(Value.int .i64 k),(Value.slice l n m)]⟩)]⟩ a c:=Zc Tryz.func58 ⟨[(5,[0,1,2,3,4,5,6,7,8,9,10,11,12,13,14],[17,19,21])],[],[],[]⟩ (by kernel_rfl) (by kernel_rfl) p
def Zbpl (c:Int) (a:Heap) (b:Value->Heap->Prop):Prop:=
 IfB (decide (c≥1))
 (b (Value.bool (decide (c <= 65535))) a)
 (b (Value.bool false) a)
theorem Zcht (d:Int) {a:Heap} {c:Value->Heap->Prop} (f:Zbpl d a fun g e=>∀b,Shut a e b->c g b):FnW Tryz.prog Zjt ⟨[(Value.int .i64 d)]⟩ a c:=Zc Tryz.func78 ⟨[],[],[],[]⟩ (by kernel_rfl) (by kernel_rfl) f
def Ztq (f e g d:Int) (h:Bool) (a:Heap) (b:Value->Heap->Prop):Prop:=
 IfB h
 (b (Value.tuple ⟨[(Value.pointer none),(Value.int .i64 2)]⟩) a)
 (NewW a (Obj.cells ⟨[(Value.int .u32 f),(Value.slice none 0 0),(Value.int .i64 0),(Value.int .i64 e),(Value.int .i64 g),(Value.int .i64 d),(Value.int .i64 0),(Value.int .i64 0),(Value.int .i64 0),(Value.int .i64 0),(Value.bool false),(Value.bool false),(Value.int .u32 0),(Value.int .i64 0)]⟩ Zva) fun i c=>
 b (Value.tuple ⟨[(Value.pointer (some ⟨i,0,none⟩)),(Value.int .i64 0)]⟩) c)
def Zbou (e b c a:Int) (k:Heap) (d:Value->Heap->Prop):Prop:=
 FnW Tryz.prog Zjv ⟨[(Value.int .i64 b),(Value.int .i64 1)]⟩ k fun m f=>
 ∃h,m=Value.bool h∧
 IfB (!h)
 (Ztq e b c a true f d)
 (FnW Tryz.prog Zjv ⟨[(Value.int .i64 c),(Value.int .i64 0)]⟩ f fun n g=>
 ∃i,n=Value.bool i∧
 IfB (!i)
 (Ztq e b c a true g d)
 (FnW Tryz.prog Zjv ⟨[(Value.int .i64 a),(Value.int .i64 1)]⟩ g fun o l=>
 ∃j,o=Value.bool j∧
 Ztq e b c a (!j) l d))
theorem Zchg (f e g d:Int) {a:Heap} {c:Value->Heap->Prop} (i:Zbou f e g d a fun j h=>∀b,Shut a h b->c j b):FnW Tryz.prog Zpw ⟨[(Value.int .u32 f),(Value.int .i64 e),(Value.int .i64 g),(Value.int .i64 d)]⟩ a c:=Zc Tryz.func79 ⟨[],[],[],[]⟩ (by kernel_rfl) (by kernel_rfl) i
def Zbre (c d:Int) (a:Heap) (b:Value->Heap->Prop):Prop:=
 b (Value.int .u32 (IntKind.wrap .u32 (IntKind.wrap .u64 ((IntKind.wrap .u64 c)+(IntKind.wrap .u64 d))))) a
theorem Zcjh (d e:Int) {a:Heap} {c:Value->Heap->Prop} (g:Zbre d e a fun h f=>∀b,Shut a f b->c h b):FnW Tryz.prog Zdg ⟨[(Value.int .u32 d),(Value.int .i64 e)]⟩ a c:=Zc Tryz.func80 ⟨[],[],[],[]⟩ (by kernel_rfl) (by kernel_rfl) g
def Zul (a d:Nat) (b:Heap) (I:Value->Heap->Prop):Prop:=
 ∃p,b.cell ⟨d,0,none⟩=some (Value.int .i64 p)∧∃q,b.cell ⟨d,1,none⟩=some (Value.int .i64 q)∧∃r,b.cell ⟨d,2,none⟩=some (Value.int .u32 r)∧∃s,b.cell ⟨d,3,none⟩=some (Value.int .u32 s)∧∃t,b.cell ⟨d,4,none⟩=some (Value.int .i64 t)∧∃u,b.cell ⟨d,5,none⟩=some (Value.int .i64 u)∧∃v,b.cell ⟨d,6,none⟩=some (Value.int .i64 v)∧∃w,b.cell ⟨d,7,none⟩=some (Value.int .i64 w)∧∃x z y,b.cell ⟨d,8,none⟩=some (Value.slice x z y)∧Za b ⟨a,0,none⟩ (Value.int .i64 p) fun A=>
 Za A ⟨a,1,none⟩ (Value.int .i64 q) fun B=>
 Za B ⟨a,2,none⟩ (Value.int .u32 r) fun C=>
 Za C ⟨a,3,none⟩ (Value.int .u32 s) fun D=>
 Za D ⟨a,4,none⟩ (Value.int .i64 t) fun E=>
 Za E ⟨a,5,none⟩ (Value.int .i64 u) fun F=>
 Za F ⟨a,6,none⟩ (Value.int .i64 v) fun G=>
 Za G ⟨a,7,none⟩ (Value.int .i64 w) fun H=>
 Za H ⟨a,8,none⟩ (Value.slice x z y) fun c=>
 ∃e,c.cell ⟨a,0,none⟩=some (Value.int .i64 e)∧∃f,c.cell ⟨a,1,none⟩=some (Value.int .i64 f)∧∃g,c.cell ⟨a,2,none⟩=some (Value.int .u32 g)∧∃h,c.cell ⟨a,3,none⟩=some (Value.int .u32 h)∧∃i,c.cell ⟨a,4,none⟩=some (Value.int .i64 i)∧∃j,c.cell ⟨a,5,none⟩=some (Value.int .i64 j)∧∃k,c.cell ⟨a,6,none⟩=some (Value.int .i64 k)∧∃l,c.cell ⟨a,7,none⟩=some (Value.int .i64 l)∧∃m o n,c.cell ⟨a,8,none⟩=some (Value.slice m o n)∧I (Value.agg ⟨[(Value.int .i64 e),(Value.int .i64 f),(Value.int .u32 g),(Value.int .u32 h),(Value.int .i64 i),(Value.int .i64 j),(Value.int .i64 k),(Value.int .i64 l),(Value.slice m o n)]⟩) c
def Zbpy (c:Nat) (t:Heap) (e:Value->Heap->Prop):Prop:=
 NewW t (Obj.cells ⟨[(Value.int .i64 0),(Value.int .i64 0),(Value.int .u32 0),(Value.int .u32 0),(Value.int .i64 0),(Value.int .i64 0),(Value.int .i64 0),(Value.int .i64 0),(Value.slice none 0 0)]⟩ Zq) fun g d=>
 ∃h,d.cell ⟨c,3,none⟩=some (Value.int .u32 h)∧
 FnW Tryz.prog Zjw ⟨[(Value.pointer (some ⟨c,0,none⟩)),(Value.int .u32 h),(Value.int .i64 2),(Value.slice none 0 0)]⟩ d fun G y=>
 ∃i,∃j:Int,∃k:Int,∃l:Int,∃m:Int,∃n:Int,∃o:Int,∃p:Int,∃(q:Option Addr) (s r:Nat),G=(Value.agg ⟨[(Value.int .i64 i),(Value.int .i64 j),(Value.int .u32 k),(Value.int .u32 l),(Value.int .i64 m),(Value.int .i64 n),(Value.int .i64 o),(Value.int .i64 p),(Value.slice q s r)]⟩)∧
 NewW y (Obj.cells ⟨[(Value.int .i64 0),(Value.int .i64 0),(Value.int .u32 0),(Value.int .u32 0),(Value.int .i64 0),(Value.int .i64 0),(Value.int .i64 0),(Value.int .i64 0),(Value.slice none 0 0)]⟩ Zq) fun a z=>
 Za z ⟨a,0,none⟩ (Value.int .i64 i) fun A=>
 Za A ⟨a,1,none⟩ (Value.int .i64 j) fun B=>
 Za B ⟨a,2,none⟩ (Value.int .u32 k) fun C=>
 Za C ⟨a,3,none⟩ (Value.int .u32 l) fun D=>
 Za D ⟨a,4,none⟩ (Value.int .i64 m) fun E=>
 Za E ⟨a,5,none⟩ (Value.int .i64 n) fun F=>
 Za F ⟨a,6,none⟩ (Value.int .i64 o) fun u=>
 Za u ⟨a,7,none⟩ (Value.int .i64 p) fun v=>
 Za v ⟨a,8,none⟩ (Value.slice q s r) fun w=>
 Za w ⟨a,7,none⟩ (Value.int .i64 1460) fun b=>
 ∃f,b.cell ⟨c,0,none⟩=some (Value.int .i64 f)∧
 IfB (f==2)
 (Za b ⟨a,4,none⟩ (Value.int .i64 18) fun x=>
 Zul g a x e)
 (Zul g a b e)
theorem Zcii (d:Nat) {a:Heap} {c:Value->Heap->Prop} (f:Zbpy d a fun g e=>∀b,Shut a e b->c g b):FnW Tryz.prog Zmd ⟨[(Value.pointer (some ⟨d,0,none⟩))]⟩ a c:=Zc Tryz.func81 ⟨[],[],[],[]⟩ (by kernel_rfl) (by kernel_rfl) f
def Zum (c:Nat) (o:Bool) (a:Heap) (d:Value->Heap->Prop):Prop:=
 IfB o
 (Za a ⟨c,11,none⟩ (Value.int .i64 (-1)) fun l=>
 d (Value.tuple ⟨[]⟩) l)
 (∃g,a.cell ⟨c,11,none⟩=some (Value.int .i64 g)∧
 IfB (decide (g<0))
 (∃e:List Nat,(∀b∈e,∃n,a b=some n)∧
 c∈e∧∃h,a.cell ⟨c,10,none⟩=some (Value.int .i64 h)∧
 ∃i,a.cell ⟨c,4,none⟩=some (Value.pointer i)∧
 NilP i fun j=>
 FnW Tryz.prog Zxx ⟨[(Value.pointer (some ⟨j.block,j.off+7,none⟩))]⟩ a fun p f=>
 ∃k,p=Value.int .i64 k∧
 Zb e a f∧Za f ⟨c,11,none⟩ (Value.int .i64 (IntKind.wrap .i64 (h+k))) fun m=>
 d (Value.tuple ⟨[]⟩) m)
 (d (Value.tuple ⟨[]⟩) a))
def Zbpz (b:Nat) (a:Heap) (c:Value->Heap->Prop):Prop:=
 ∃f,a.cell ⟨b,0,none⟩=some (Value.int .i64 f)∧
 IfB (f==9)
 (c (Value.tuple ⟨[]⟩) a)
 (∃d,a.cell ⟨b,0,none⟩=some (Value.int .i64 d)∧
 IfB (d==0)
 (Zum b true a c)
 (FnW Tryz.prog Zxf ⟨[(Value.pointer (some ⟨b,0,none⟩))]⟩ a fun h g=>
 ∃e,h=Value.bool e∧
 Zum b (!e) g c))
theorem Zcij (d:Nat) {a:Heap} {c:Value->Heap->Prop} (f:Zbpz d a fun g e=>∀b,Shut a e b->c g b):FnW Tryz.prog Zme ⟨[(Value.pointer (some ⟨d,0,none⟩))]⟩ a c:=Zc Tryz.func82 ⟨[(4,[0,1,2,3,4,5,6,7,8,9,10,11,12,13,14,15],[29])],[],[],[]⟩ (by kernel_rfl) (by kernel_rfl) f
def Zbpc (a c:Int) (b:Heap) (e:(Int×Int×Unit)->Heap->Prop) (d:Value->Heap->Prop):Prop:=
 IfB (decide (c<3))
 ((65536:Int)≠0∧
 (65536:Int)≠0∧
 e ((IntKind.wrap .u32 ((Int.tmod a 65536)+(IntKind.wrap .u32 (Int.tdiv a 65536)))),((IntKind.wrap .i64 (c+1)),())) b)
 (d (Value.int .u32 a) b)
def Zbpd (d:Int) (a:Heap) (c:Value->Heap->Prop):Prop:=
 Zbk (Int×Int×Unit) (d,(0,())) a fun b a e=>∀f:Env,Zbpc b.1 b.2.1 a e c
theorem Zchn (d:Int) {a:Heap} {c:Value->Heap->Prop} (f:Zbpd d a fun g e=>∀b,Shut a e b->c g b):FnW Tryz.prog Zmc ⟨[(Value.int .u32 d)]⟩ a c:=Zc Tryz.func83 ⟨[],[(2,[0,3],[.int .u32,.int .i64],[])],[],[]⟩ (by kernel_rfl) (by kernel_rfl) f
def Zsp (f:Option Addr) (g l:Nat) (b:Int) (e:(Int×Int×Unit)->Heap->Prop) (d:Int) (a:Heap) (k:Value->Heap->Prop):Prop:=
 NilP f fun j=>
 InB (IntKind.wrap .i64 (b+1)) g fun h=>
 elemAt j h 1 fun i=>
 ∃c,a.cell i=some (Value.int .u8 c)∧
 e (d,((IntKind.wrap .i64 (b+(IntKind.wrap .i64 c))),())) a
def Zir (b:Option Addr) (g c:Nat) (n a:Int) (h:(Int×Int×Unit)->Heap->Prop) (o:Bool) (d:Heap) (f:Value->Heap->Prop):Prop:=
 IfB o
 (f (Value.tuple ⟨[(Value.int .i64 0),(Value.bool false)]⟩) d)
 (NilP b fun r=>
 InB a g fun p=>
 elemAt r p 1 fun q=>
 ∃i,d.cell q=some (Value.int .u8 i)∧
 IfB (i==2)
 (InC (IntKind.wrap .i64 (a+4)) c fun j=>
 InC (IntKind.wrap .i64 (a+2)) j fun e=>
 FnW Tryz.prog Zp ⟨[(Value.slice (if c=e then b else Option.map (fun m=>Addr.add m (e*1)) b) (j - e) (c - e))]⟩ d fun s l=>
 ∃k,s=Value.int .i64 k∧
 Zsp b g c a h k l f)
 (Zsp b g c a h n d f))
def Zbnj (d:Option Addr) (c h:Nat) (e a:Int) (b:Heap) (g:(Int×Int×Unit)->Heap->Prop) (f:Value->Heap->Prop):Prop:=
 IfB (decide (a<(c:Int)))
 (NilP d fun q=>
 InB a c fun o=>
 elemAt q o 1 fun p=>
 ∃i,b.cell p=some (Value.int .u8 i)∧
 IfB (i==0)
 (f (Value.tuple ⟨[(Value.int .i64 e),(Value.bool true)]⟩) b)
 (NilP d fun t=>
 InB a c fun r=>
 elemAt t r 1 fun s=>
 ∃j,b.cell s=some (Value.int .u8 j)∧
 IfB (j==1)
 (g (e,((IntKind.wrap .i64 (a+1)),())) b)
 (IfB (decide (((IntKind.wrap .i64 (a+1)):Int)≥(c:Int)))
 (Zir d c h e a g true b f)
 (NilP d fun w=>
 InB (IntKind.wrap .i64 (a+1)) c fun u=>
 elemAt w u 1 fun v=>
 ∃k,b.cell v=some (Value.int .u8 k)∧
 IfB (decide (k<2))
 (Zir d c h e a g true b f)
 (NilP d fun z=>
 InB (IntKind.wrap .i64 (a+1)) c fun x=>
 elemAt z x 1 fun y=>
 ∃l,b.cell y=some (Value.int .u8 l)∧
 IfB (decide (((IntKind.wrap .i64 l):Int)>(IntKind.wrap .i64 ((c:Int) - a))))
 (Zir d c h e a g true b f)
 (NilP d fun C=>
 InB a c fun A=>
 elemAt C A 1 fun B=>
 ∃m,b.cell B=some (Value.int .u8 m)∧
 IfB (m==2)
 (NilP d fun F=>
 InB (IntKind.wrap .i64 (a+1)) c fun D=>
 elemAt F D 1 fun E=>
 ∃n,b.cell E=some (Value.int .u8 n)∧
 Zir d c h e a g (n !=4) b f)
 (Zir d c h e a g false b f)))))))
 (f (Value.tuple ⟨[(Value.int .i64 e),(Value.bool true)]⟩) b)
def Zbnk (e:Option Addr) (g f:Nat) (a:Heap) (c:Value->Heap->Prop):Prop:=
 Zbk (Int×Int×Unit) (0,(0,())) a fun b a d=>∀h:Env,Zbnj e g f b.1 b.2.1 a d c
theorem Zcgg (d:Option Addr) (f e:Nat) {a:Heap} {c:Value->Heap->Prop} (h:Zbnk d f e a fun i g=>∀b,Shut a g b->c i b):FnW Tryz.prog Zxk ⟨[(Value.slice d f e)]⟩ a c:=Zc Tryz.func92 ⟨[],[(3,[4,5],[.int .i64,.int .i64],[0])],[],[]⟩ (by kernel_rfl) (by kernel_rfl) h
def Zbjh (b:Option Addr) (c m:Nat) (a:Heap) (f:Value->Heap->Prop):Prop:=
 NilP b fun i=>
 InB 0 c fun g=>
 elemAt i g 1 fun h=>
 ∃e,a.cell h=some (Value.int .u8 e)∧
 NilP b fun l=>
 InB 1 c fun j=>
 elemAt l j 1 fun k=>
 ∃d,a.cell k=some (Value.int .u8 d)∧
 f (Value.int .i64 (IntKind.wrap .i64 ((IntKind.wrap .i64 (256*(IntKind.wrap .i64 e)))+(IntKind.wrap .i64 d)))) a
theorem Zccj (d:Option Addr) (f e:Nat) {a:Heap} {c:Value->Heap->Prop} (h:Zbjh d f e a fun i g=>∀b,Shut a g b->c i b):FnW Tryz.prog Zp ⟨[(Value.slice d f e)]⟩ a c:=Zc Tryz.func93 ⟨[],[],[],[]⟩ (by kernel_rfl) (by kernel_rfl) h
def Zbjr (r s t u v w x y:Int) (z:Option Addr) (B A:Nat) (o:Heap) (q:Value->Heap->Prop):Prop:=
 NewW o (Obj.cells ⟨[(Value.int .i64 r),(Value.int .i64 s),(Value.int .u32 t),(Value.int .u32 u),(Value.int .i64 v),(Value.int .i64 w),(Value.int .i64 x),(Value.int .i64 y),(Value.slice z B A)]⟩ Zq) fun b a=>
 ∃c,a.cell ⟨b,0,none⟩=some (Value.int .i64 c)∧∃d,a.cell ⟨b,1,none⟩=some (Value.int .i64 d)∧∃e,a.cell ⟨b,2,none⟩=some (Value.int .u32 e)∧∃f,a.cell ⟨b,3,none⟩=some (Value.int .u32 f)∧∃g,a.cell ⟨b,4,none⟩=some (Value.int .i64 g)∧∃h,a.cell ⟨b,5,none⟩=some (Value.int .i64 h)∧∃i,a.cell ⟨b,6,none⟩=some (Value.int .i64 i)∧∃j,a.cell ⟨b,7,none⟩=some (Value.int .i64 j)∧∃k m l,a.cell ⟨b,8,none⟩=some (Value.slice k m l)∧FnW Tryz.prog Zjp ⟨[(Value.int .u32 0),(Value.int .u32 0),(Value.agg ⟨[(Value.int .i64 c),(Value.int .i64 d),(Value.int .u32 e),(Value.int .u32 f),(Value.int .i64 g),(Value.int .i64 h),(Value.int .i64 i),(Value.int .i64 j),(Value.slice k m l)]⟩)]⟩ a fun F p=>
 ∃C E D,∃n:Int,F=(Value.tuple ⟨[(Value.slice C E D),(Value.int .i64 n)]⟩)∧
 q (Value.bool (n==0)) p
theorem Zcco (d e f g h i j k:Int) (l:Option Addr) (n m:Nat) {a:Heap} {c:Value->Heap->Prop} (p:Zbjr d e f g h i j k l n m a fun q o=>∀b,Shut a o b->c q b):FnW Tryz.prog Zou ⟨[(Value.agg ⟨[(Value.int .i64 d),(Value.int .i64 e),(Value.int .u32 f),(Value.int .u32 g),(Value.int .i64 h),(Value.int .i64 i),(Value.int .i64 j),(Value.int .i64 k),(Value.slice l n m)]⟩)]⟩ a c:=Zc Tryz.func94 ⟨[],[],[],[]⟩ (by kernel_rfl) (by kernel_rfl) p
def Zuy (f a:Nat) (h4:Bool) (b:Heap) (g:Value->Heap->Prop):Prop:=
 IfB h4
 (∃o,b.cell ⟨a,0,none⟩=some (Value.int .i64 o)∧∃p,b.cell ⟨a,1,none⟩=some (Value.int .i64 p)∧∃q,b.cell ⟨a,2,none⟩=some (Value.int .u32 q)∧∃r,b.cell ⟨a,3,none⟩=some (Value.int .u32 r)∧∃s,b.cell ⟨a,4,none⟩=some (Value.int .i64 s)∧∃t,b.cell ⟨a,5,none⟩=some (Value.int .i64 t)∧∃u,b.cell ⟨a,6,none⟩=some (Value.int .i64 u)∧∃v,b.cell ⟨a,7,none⟩=some (Value.int .i64 v)∧∃w y x,b.cell ⟨a,8,none⟩=some (Value.slice w y x)∧FnW Tryz.prog Zov ⟨[(Value.agg ⟨[(Value.int .i64 o),(Value.int .i64 p),(Value.int .u32 q),(Value.int .u32 r),(Value.int .i64 s),(Value.int .i64 t),(Value.int .i64 u),(Value.int .i64 v),(Value.slice w y x)]⟩)]⟩ b fun h5 h2=>
 ∃z B A,h5=Value.slice z B A∧
 g (Value.tuple ⟨[(Value.slice z B A),(Value.int .i64 0)]⟩) h2)
 (∃C,b.cell ⟨a,0,none⟩=some (Value.int .i64 C)∧∃D,b.cell ⟨a,1,none⟩=some (Value.int .i64 D)∧∃E,b.cell ⟨a,2,none⟩=some (Value.int .u32 E)∧∃F,b.cell ⟨a,3,none⟩=some (Value.int .u32 F)∧∃G,b.cell ⟨a,4,none⟩=some (Value.int .i64 G)∧∃H,b.cell ⟨a,5,none⟩=some (Value.int .i64 H)∧∃I,b.cell ⟨a,6,none⟩=some (Value.int .i64 I)∧∃J,b.cell ⟨a,7,none⟩=some (Value.int .i64 J)∧∃K M L,b.cell ⟨a,8,none⟩=some (Value.slice K M L)∧FnW Tryz.prog Zda ⟨[(Value.agg ⟨[(Value.int .i64 C),(Value.int .i64 D),(Value.int .u32 E),(Value.int .u32 F),(Value.int .i64 G),(Value.int .i64 H),(Value.int .i64 I),(Value.int .i64 J),(Value.slice K M L)]⟩),(Value.int .i64 4)]⟩ b fun h6 c=>
 ∃N,h6=Value.bool N∧
 IfB N
 (∃O,c.cell ⟨a,0,none⟩=some (Value.int .i64 O)∧∃P,c.cell ⟨a,1,none⟩=some (Value.int .i64 P)∧∃Q,c.cell ⟨a,2,none⟩=some (Value.int .u32 Q)∧∃R,c.cell ⟨a,3,none⟩=some (Value.int .u32 R)∧∃S,c.cell ⟨a,4,none⟩=some (Value.int .i64 S)∧∃T,c.cell ⟨a,5,none⟩=some (Value.int .i64 T)∧∃U,c.cell ⟨a,6,none⟩=some (Value.int .i64 U)∧∃V,c.cell ⟨a,7,none⟩=some (Value.int .i64 V)∧∃W Y X,c.cell ⟨a,8,none⟩=some (Value.slice W Y X)∧FnW Tryz.prog Zda ⟨[(Value.agg ⟨[(Value.int .i64 O),(Value.int .i64 P),(Value.int .u32 Q),(Value.int .u32 R),(Value.int .i64 S),(Value.int .i64 T),(Value.int .i64 U),(Value.int .i64 V),(Value.slice W Y X)]⟩),(Value.int .i64 16)]⟩ c fun h7 n=>
 ∃Z,h7=Value.bool Z∧
 IfB (!Z)
 (g (Value.tuple ⟨[(Value.slice none 0 0),(Value.int .i64 0)]⟩) n)
 (FnW Tryz.prog Zlx ⟨[(Value.pointer (some ⟨f,0,none⟩))]⟩ n fun h8 h3=>
 h8=Value.tuple ⟨[]⟩∧
 g (Value.tuple ⟨[(Value.slice none 0 0),(Value.int .i64 151)]⟩) h3))
 (∃a0,c.cell ⟨a,0,none⟩=some (Value.int .i64 a0)∧∃a1,c.cell ⟨a,1,none⟩=some (Value.int .i64 a1)∧∃a2,c.cell ⟨a,2,none⟩=some (Value.int .u32 a2)∧∃a3,c.cell ⟨a,3,none⟩=some (Value.int .u32 a3)∧∃a4,c.cell ⟨a,4,none⟩=some (Value.int .i64 a4)∧∃a5,c.cell ⟨a,5,none⟩=some (Value.int .i64 a5)∧∃a6,c.cell ⟨a,6,none⟩=some (Value.int .i64 a6)∧∃a7,c.cell ⟨a,7,none⟩=some (Value.int .i64 a7)∧∃a8 b0 a9,c.cell ⟨a,8,none⟩=some (Value.slice a8 b0 a9)∧FnW Tryz.prog Zda ⟨[(Value.agg ⟨[(Value.int .i64 a0),(Value.int .i64 a1),(Value.int .u32 a2),(Value.int .u32 a3),(Value.int .i64 a4),(Value.int .i64 a5),(Value.int .i64 a6),(Value.int .i64 a7),(Value.slice a8 b0 a9)]⟩),(Value.int .i64 2)]⟩ c fun h9 d=>
 ∃b1,h9=Value.bool b1∧
 IfB (!b1)
 (g (Value.tuple ⟨[(Value.slice none 0 0),(Value.int .i64 0)]⟩) d)
 (∃b2,d.cell ⟨a,0,none⟩=some (Value.int .i64 b2)∧∃b3,d.cell ⟨a,1,none⟩=some (Value.int .i64 b3)∧∃b4,d.cell ⟨a,2,none⟩=some (Value.int .u32 b4)∧∃b5,d.cell ⟨a,3,none⟩=some (Value.int .u32 b5)∧∃b6,d.cell ⟨a,4,none⟩=some (Value.int .i64 b6)∧∃b7,d.cell ⟨a,5,none⟩=some (Value.int .i64 b7)∧∃b8,d.cell ⟨a,6,none⟩=some (Value.int .i64 b8)∧∃b9,d.cell ⟨a,7,none⟩=some (Value.int .i64 b9)∧∃c0 c2 c1,d.cell ⟨a,8,none⟩=some (Value.slice c0 c2 c1)∧FnW Tryz.prog Zlo ⟨[(Value.pointer (some ⟨f,0,none⟩)),(Value.agg ⟨[(Value.int .i64 b2),(Value.int .i64 b3),(Value.int .u32 b4),(Value.int .u32 b5),(Value.int .i64 b6),(Value.int .i64 b7),(Value.int .i64 b8),(Value.int .i64 b9),(Value.slice c0 c2 c1)]⟩)]⟩ d fun i0 e=>
 i0=Value.tuple ⟨[]⟩∧
 ∃c3,e.cell ⟨a,0,none⟩=some (Value.int .i64 c3)∧∃c4,e.cell ⟨a,1,none⟩=some (Value.int .i64 c4)∧∃c5,e.cell ⟨a,2,none⟩=some (Value.int .u32 c5)∧∃c6,e.cell ⟨a,3,none⟩=some (Value.int .u32 c6)∧∃c7,e.cell ⟨a,4,none⟩=some (Value.int .i64 c7)∧∃c8,e.cell ⟨a,5,none⟩=some (Value.int .i64 c8)∧∃c9,e.cell ⟨a,6,none⟩=some (Value.int .i64 c9)∧∃d0,e.cell ⟨a,7,none⟩=some (Value.int .i64 d0)∧∃d1 d3 d2,e.cell ⟨a,8,none⟩=some (Value.slice d1 d3 d2)∧FnW Tryz.prog Zda ⟨[(Value.agg ⟨[(Value.int .i64 c3),(Value.int .i64 c4),(Value.int .u32 c5),(Value.int .u32 c6),(Value.int .i64 c7),(Value.int .i64 c8),(Value.int .i64 c9),(Value.int .i64 d0),(Value.slice d1 d3 d2)]⟩),(Value.int .i64 16)]⟩ e fun i1 l=>
 ∃d4,i1=Value.bool d4∧
 IfB (!d4)
 (Za l ⟨f,0,none⟩ (Value.int .i64 2) fun g4=>
 FnW Tryz.prog Zmd ⟨[(Value.pointer (some ⟨f,0,none⟩))]⟩ g4 fun i2 g5=>
 ∃d5,∃d6:Int,∃d7:Int,∃d8:Int,∃d9:Int,∃e0:Int,∃e1:Int,∃e2:Int,∃(e3:Option Addr) (e5 e4:Nat),i2=(Value.agg ⟨[(Value.int .i64 d5),(Value.int .i64 d6),(Value.int .u32 d7),(Value.int .u32 d8),(Value.int .i64 d9),(Value.int .i64 e0),(Value.int .i64 e1),(Value.int .i64 e2),(Value.slice e3 e5 e4)]⟩)∧
 NewW g5 (Obj.cells ⟨[(Value.int .i64 d5),(Value.int .i64 d6),(Value.int .u32 d7),(Value.int .u32 d8),(Value.int .i64 d9),(Value.int .i64 e0),(Value.int .i64 e1),(Value.int .i64 e2),(Value.slice e3 e5 e4)]⟩ Zq) fun i3 g6=>
 g (Value.tuple ⟨[(Value.slice (some ⟨i3,0,none⟩) 1 1),(Value.int .i64 0)]⟩) g6)
 (Za l ⟨f,0,none⟩ (Value.int .i64 3) fun g7=>
 FnW Tryz.prog Zjk ⟨[(Value.pointer (some ⟨f,0,none⟩))]⟩ g7 fun i4 h=>
 i4=Value.tuple ⟨[]⟩∧
 ∃e6,h.cell ⟨f,4,none⟩=some (Value.pointer e6)∧
 ∃e7,h.cell ⟨f,10,none⟩=some (Value.int .i64 e7)∧
 ∃e8,h.cell ⟨a,3,none⟩=some (Value.int .u32 e8)∧
 ∃e9,h.cell ⟨a,5,none⟩=some (Value.int .i64 e9)∧
 FnW Tryz.prog Zjo ⟨[(Value.pointer e6),(Value.int .i64 e7),(Value.int .u32 e8),(Value.int .i64 e9)]⟩ h fun i7 g8=>
 ∃i5,∃i6:Int,i7=(Value.tuple ⟨[(Value.int .i64 i5),(Value.int .i64 i6)]⟩)∧
 FnW Tryz.prog Zpz ⟨[(Value.pointer (some ⟨f,0,none⟩))]⟩ g8 fun i8 m=>
 ∃j i k,i8=Value.slice j i k∧
 IfB (((i:Int):Int)==0)
 (FnW Tryz.prog Zfb ⟨[(Value.pointer (some ⟨f,0,none⟩))]⟩ m fun i9 g9=>
 ∃f0,∃f1:Int,∃f2:Int,∃f3:Int,∃f4:Int,∃f5:Int,∃f6:Int,∃f7:Int,∃(f8:Option Addr) (g0 f9:Nat),i9=(Value.agg ⟨[(Value.int .i64 f0),(Value.int .i64 f1),(Value.int .u32 f2),(Value.int .u32 f3),(Value.int .i64 f4),(Value.int .i64 f5),(Value.int .i64 f6),(Value.int .i64 f7),(Value.slice f8 g0 f9)]⟩)∧
 NewW g9 (Obj.cells ⟨[(Value.int .i64 f0),(Value.int .i64 f1),(Value.int .u32 f2),(Value.int .u32 f3),(Value.int .i64 f4),(Value.int .i64 f5),(Value.int .i64 f6),(Value.int .i64 f7),(Value.slice f8 g0 f9)]⟩ Zq) fun j0 h0=>
 AppW Tryz.prog #[Zcy,Zcy] Zcy [(Value.slice j i k),(Value.slice (some ⟨j0,0,none⟩) 1 1)] h0 fun j1 h1=>
 ∃g1 g3 g2,j1=Value.slice g1 g3 g2∧
 g (Value.tuple ⟨[(Value.slice g1 g3 g2),(Value.int .i64 0)]⟩) h1)
 (g (Value.tuple ⟨[(Value.slice j i k),(Value.int .i64 0)]⟩) m)))))
def Zbrb (f:Nat) (z A B C D E F G:Int) (H:Option Addr) (J I:Nat) (x:Heap) (h:Value->Heap->Prop):Prop:=
 NewW x (Obj.cells ⟨[(Value.int .i64 z),(Value.int .i64 A),(Value.int .u32 B),(Value.int .u32 C),(Value.int .i64 D),(Value.int .i64 E),(Value.int .i64 F),(Value.int .i64 G),(Value.slice H J I)]⟩ Zq) fun c a=>
 ∃e:List Nat,(∀b∈e,∃y,a b=some y)∧
 ∃l,a.cell ⟨c,0,none⟩=some (Value.int .i64 l)∧∃m,a.cell ⟨c,1,none⟩=some (Value.int .i64 m)∧∃n,a.cell ⟨c,2,none⟩=some (Value.int .u32 n)∧∃o,a.cell ⟨c,3,none⟩=some (Value.int .u32 o)∧∃p,a.cell ⟨c,4,none⟩=some (Value.int .i64 p)∧∃q,a.cell ⟨c,5,none⟩=some (Value.int .i64 q)∧∃r,a.cell ⟨c,6,none⟩=some (Value.int .i64 r)∧∃s,a.cell ⟨c,7,none⟩=some (Value.int .i64 s)∧∃t v u,a.cell ⟨c,8,none⟩=some (Value.slice t v u)∧FnW Tryz.prog Zda ⟨[(Value.agg ⟨[(Value.int .i64 l),(Value.int .i64 m),(Value.int .u32 n),(Value.int .u32 o),(Value.int .i64 p),(Value.int .i64 q),(Value.int .i64 r),(Value.int .i64 s),(Value.slice t v u)]⟩),(Value.int .i64 16)]⟩ a fun L d=>
 ∃w,L=Value.bool w∧
 Zb e a d∧IfB w
 (c∈e∧∃i,a.cell ⟨c,3,none⟩=some (Value.int .u32 i)∧
 ∃j,d.cell ⟨f,3,none⟩=some (Value.int .u32 j)∧
 FnW Tryz.prog Zdg ⟨[(Value.int .u32 j),(Value.int .i64 1)]⟩ d fun K g=>
 ∃k,K=Value.int .u32 k∧
 Zb e a g∧Zuy f c (i !=k) g h)
 (Zuy f c false d h)
theorem Zcje (d:Nat) (e f g h i j k l:Int) (m:Option Addr) (o n:Nat) {a:Heap} {c:Value->Heap->Prop} (q:Zbrb d e f g h i j k l m o n a fun r p=>∀b,Shut a p b->c r b):FnW Tryz.prog Zym ⟨[(Value.pointer (some ⟨d,0,none⟩)),(Value.agg ⟨[(Value.int .i64 e),(Value.int .i64 f),(Value.int .u32 g),(Value.int .u32 h),(Value.int .i64 i),(Value.int .i64 j),(Value.int .i64 k),(Value.int .i64 l),(Value.slice m o n)]⟩)]⟩ a c:=Zc Tryz.func95 ⟨[(1,[0,1,2,3,4,5,6,7,8,9,10,11],[11])],[],[],[]⟩ (by kernel_rfl) (by kernel_rfl) q
def Zts (w:Nat) (c:Option Addr) (e d:Nat) (x:Bool) (a:Heap) (b:Value->Heap->Prop):Prop:=
 IfB x
 (FnW Tryz.prog Zfb ⟨[(Value.pointer (some ⟨w,0,none⟩))]⟩ a fun y t=>
 ∃f,∃g:Int,∃h:Int,∃i:Int,∃j:Int,∃k:Int,∃l:Int,∃m:Int,∃(n:Option Addr) (p o:Nat),y=(Value.agg ⟨[(Value.int .i64 f),(Value.int .i64 g),(Value.int .u32 h),(Value.int .u32 i),(Value.int .i64 j),(Value.int .i64 k),(Value.int .i64 l),(Value.int .i64 m),(Value.slice n p o)]⟩)∧
 NewW t (Obj.cells ⟨[(Value.int .i64 f),(Value.int .i64 g),(Value.int .u32 h),(Value.int .u32 i),(Value.int .i64 j),(Value.int .i64 k),(Value.int .i64 l),(Value.int .i64 m),(Value.slice n p o)]⟩ Zq) fun z u=>
 AppW Tryz.prog #[Zcy,Zcy] Zcy [(Value.slice c e d),(Value.slice (some ⟨z,0,none⟩) 1 1)] u fun A v=>
 ∃q s r,A=Value.slice q s r∧
 b (Value.tuple ⟨[(Value.slice q s r),(Value.int .i64 0)]⟩) v)
 (b (Value.tuple ⟨[(Value.slice c e d),(Value.int .i64 0)]⟩) a)
def Ztr (d a:Nat) (b:Heap) (f:Value->Heap->Prop):Prop:=
 ∃u,b.cell ⟨d,0,none⟩=some (Value.int .i64 u)∧
 IfB (u==0)
 (f (Value.tuple ⟨[(Value.slice none 0 0),(Value.int .i64 0)]⟩) b)
 (∃v,b.cell ⟨a,0,none⟩=some (Value.int .i64 v)∧∃w,b.cell ⟨a,1,none⟩=some (Value.int .i64 w)∧∃x,b.cell ⟨a,2,none⟩=some (Value.int .u32 x)∧∃y,b.cell ⟨a,3,none⟩=some (Value.int .u32 y)∧∃z,b.cell ⟨a,4,none⟩=some (Value.int .i64 z)∧∃A,b.cell ⟨a,5,none⟩=some (Value.int .i64 A)∧∃B,b.cell ⟨a,6,none⟩=some (Value.int .i64 B)∧∃C,b.cell ⟨a,7,none⟩=some (Value.int .i64 C)∧∃D F E,b.cell ⟨a,8,none⟩=some (Value.slice D F E)∧FnW Tryz.prog Zxu ⟨[(Value.pointer (some ⟨d,0,none⟩)),(Value.agg ⟨[(Value.int .i64 v),(Value.int .i64 w),(Value.int .u32 x),(Value.int .u32 y),(Value.int .i64 z),(Value.int .i64 A),(Value.int .i64 B),(Value.int .i64 C),(Value.slice D F E)]⟩)]⟩ b fun K G=>
 K=Value.tuple ⟨[]⟩∧
 FnW Tryz.prog Zpz ⟨[(Value.pointer (some ⟨d,0,none⟩))]⟩ G fun I c=>
 ∃g e h,I=Value.slice g e h∧
 IfB (((e:Int):Int)==0)
 (∃i,c.cell ⟨a,0,none⟩=some (Value.int .i64 i)∧∃j,c.cell ⟨a,1,none⟩=some (Value.int .i64 j)∧∃k,c.cell ⟨a,2,none⟩=some (Value.int .u32 k)∧∃l,c.cell ⟨a,3,none⟩=some (Value.int .u32 l)∧∃m,c.cell ⟨a,4,none⟩=some (Value.int .i64 m)∧∃n,c.cell ⟨a,5,none⟩=some (Value.int .i64 n)∧∃o,c.cell ⟨a,6,none⟩=some (Value.int .i64 o)∧∃p,c.cell ⟨a,7,none⟩=some (Value.int .i64 p)∧∃q s r,c.cell ⟨a,8,none⟩=some (Value.slice q s r)∧FnW Tryz.prog Zmb ⟨[(Value.agg ⟨[(Value.int .i64 i),(Value.int .i64 j),(Value.int .u32 k),(Value.int .u32 l),(Value.int .i64 m),(Value.int .i64 n),(Value.int .i64 o),(Value.int .i64 p),(Value.slice q s r)]⟩)]⟩ c fun J H=>
 ∃t,J=Value.int .i64 t∧
 Zts d g e h (decide (t>0)) H f)
 (Zts d g e h false c f))
def Zbov (d:Nat) (m5 m6 m7 m8 m9 n0 n1 n2:Int) (n3:Option Addr) (n5 n4:Nat) (l2:Heap) (k:Value->Heap->Prop):Prop:=
 NewW l2 (Obj.cells ⟨[(Value.int .i64 m5),(Value.int .i64 m6),(Value.int .u32 m7),(Value.int .u32 m8),(Value.int .i64 m9),(Value.int .i64 n0),(Value.int .i64 n1),(Value.int .i64 n2),(Value.slice n3 n5 n4)]⟩ Zq) fun a e=>
 ∃g:List Nat,(∀b∈g,∃m,e b=some m)∧
 d∈g∧∃u,e.cell ⟨d,5,none⟩=some (Value.pointer u)∧
 a∈g∧∃w,e.cell ⟨a,2,none⟩=some (Value.int .u32 w)∧
 a∈g∧∃x,e.cell ⟨a,0,none⟩=some (Value.int .i64 x)∧∃y,e.cell ⟨a,1,none⟩=some (Value.int .i64 y)∧∃z,e.cell ⟨a,2,none⟩=some (Value.int .u32 z)∧∃A,e.cell ⟨a,3,none⟩=some (Value.int .u32 A)∧∃B,e.cell ⟨a,4,none⟩=some (Value.int .i64 B)∧∃C,e.cell ⟨a,5,none⟩=some (Value.int .i64 C)∧∃D,e.cell ⟨a,6,none⟩=some (Value.int .i64 D)∧∃E,e.cell ⟨a,7,none⟩=some (Value.int .i64 E)∧∃F H G,e.cell ⟨a,8,none⟩=some (Value.slice F H G)∧FnW Tryz.prog Zjj ⟨[(Value.pointer (some ⟨d,0,none⟩))]⟩ e fun n6 o=>
 ∃t,n6=Value.int .u32 t∧
 Zb g e o∧FnW Tryz.prog Zmg ⟨[(Value.pointer u)]⟩ o fun n7 p=>
 ∃v,n7=Value.int .i64 v∧
 Zb g e p∧FnW Tryz.prog Zmb ⟨[(Value.agg ⟨[(Value.int .i64 x),(Value.int .i64 y),(Value.int .u32 z),(Value.int .u32 A),(Value.int .i64 B),(Value.int .i64 C),(Value.int .i64 D),(Value.int .i64 E),(Value.slice F H G)]⟩)]⟩ p fun n8 r=>
 ∃I,n8=Value.int .i64 I∧
 Zb g e r∧FnW Tryz.prog Zyc ⟨[(Value.int .u32 t),(Value.int .i64 v),(Value.int .u32 w),(Value.int .i64 I)]⟩ r fun o0 c=>
 ∃J,∃n9:Int,o0=(Value.tuple ⟨[(Value.bool J),(Value.int .i64 n9)]⟩)∧
 Zb g e c∧IfB (!J)
 (∃K,c.cell ⟨a,0,none⟩=some (Value.int .i64 K)∧∃L,c.cell ⟨a,1,none⟩=some (Value.int .i64 L)∧∃M,c.cell ⟨a,2,none⟩=some (Value.int .u32 M)∧∃N,c.cell ⟨a,3,none⟩=some (Value.int .u32 N)∧∃O,c.cell ⟨a,4,none⟩=some (Value.int .i64 O)∧∃P,c.cell ⟨a,5,none⟩=some (Value.int .i64 P)∧∃Q,c.cell ⟨a,6,none⟩=some (Value.int .i64 Q)∧∃R,c.cell ⟨a,7,none⟩=some (Value.int .i64 R)∧∃S U T,c.cell ⟨a,8,none⟩=some (Value.slice S U T)∧FnW Tryz.prog Zda ⟨[(Value.agg ⟨[(Value.int .i64 K),(Value.int .i64 L),(Value.int .u32 M),(Value.int .u32 N),(Value.int .i64 O),(Value.int .i64 P),(Value.int .i64 Q),(Value.int .i64 R),(Value.slice S U T)]⟩),(Value.int .i64 4)]⟩ c fun o1 s=>
 ∃V,o1=Value.bool V∧
 IfB V
 (k (Value.tuple ⟨[(Value.slice none 0 0),(Value.int .i64 0)]⟩) s)
 (FnW Tryz.prog Zfb ⟨[(Value.pointer (some ⟨d,0,none⟩))]⟩ s fun o2 m3=>
 ∃W,∃X:Int,∃Y:Int,∃Z:Int,∃a0:Int,∃a1:Int,∃a2:Int,∃a3:Int,∃(a4:Option Addr) (a6 a5:Nat),o2=(Value.agg ⟨[(Value.int .i64 W),(Value.int .i64 X),(Value.int .u32 Y),(Value.int .u32 Z),(Value.int .i64 a0),(Value.int .i64 a1),(Value.int .i64 a2),(Value.int .i64 a3),(Value.slice a4 a6 a5)]⟩)∧
 NewW m3 (Obj.cells ⟨[(Value.int .i64 W),(Value.int .i64 X),(Value.int .u32 Y),(Value.int .u32 Z),(Value.int .i64 a0),(Value.int .i64 a1),(Value.int .i64 a2),(Value.int .i64 a3),(Value.slice a4 a6 a5)]⟩ Zq) fun o3 m4=>
 k (Value.tuple ⟨[(Value.slice (some ⟨o3,0,none⟩) 1 1),(Value.int .i64 0)]⟩) m4))
 (∃a7,c.cell ⟨a,0,none⟩=some (Value.int .i64 a7)∧∃a8,c.cell ⟨a,1,none⟩=some (Value.int .i64 a8)∧∃a9,c.cell ⟨a,2,none⟩=some (Value.int .u32 a9)∧∃b0,c.cell ⟨a,3,none⟩=some (Value.int .u32 b0)∧∃b1,c.cell ⟨a,4,none⟩=some (Value.int .i64 b1)∧∃b2,c.cell ⟨a,5,none⟩=some (Value.int .i64 b2)∧∃b3,c.cell ⟨a,6,none⟩=some (Value.int .i64 b3)∧∃b4,c.cell ⟨a,7,none⟩=some (Value.int .i64 b4)∧∃b5 b7 b6,c.cell ⟨a,8,none⟩=some (Value.slice b5 b7 b6)∧FnW Tryz.prog Zda ⟨[(Value.agg ⟨[(Value.int .i64 a7),(Value.int .i64 a8),(Value.int .u32 a9),(Value.int .u32 b0),(Value.int .i64 b1),(Value.int .i64 b2),(Value.int .i64 b3),(Value.int .i64 b4),(Value.slice b5 b7 b6)]⟩),(Value.int .i64 4)]⟩ c fun o4 h=>
 ∃b8,o4=Value.bool b8∧
 IfB b8
 (∃g:List Nat,(∀b∈g,∃m,h b=some m)∧
 a∈g∧∃b9,h.cell ⟨a,2,none⟩=some (Value.int .u32 b9)∧
 FnW Tryz.prog Zjj ⟨[(Value.pointer (some ⟨d,0,none⟩))]⟩ h fun o5 n=>
 ∃c0,o5=Value.int .u32 c0∧
 Zb g h n∧IfB (b9 !=c0)
 (FnW Tryz.prog Zfb ⟨[(Value.pointer (some ⟨d,0,none⟩))]⟩ n fun o6 l3=>
 ∃c1,∃c2:Int,∃c3:Int,∃c4:Int,∃c5:Int,∃c6:Int,∃c7:Int,∃c8:Int,∃(c9:Option Addr) (d1 d0:Nat),o6=(Value.agg ⟨[(Value.int .i64 c1),(Value.int .i64 c2),(Value.int .u32 c3),(Value.int .u32 c4),(Value.int .i64 c5),(Value.int .i64 c6),(Value.int .i64 c7),(Value.int .i64 c8),(Value.slice c9 d1 d0)]⟩)∧
 NewW l3 (Obj.cells ⟨[(Value.int .i64 c1),(Value.int .i64 c2),(Value.int .u32 c3),(Value.int .u32 c4),(Value.int .i64 c5),(Value.int .i64 c6),(Value.int .i64 c7),(Value.int .i64 c8),(Value.slice c9 d1 d0)]⟩ Zq) fun o7 l4=>
 k (Value.tuple ⟨[(Value.slice (some ⟨o7,0,none⟩) 1 1),(Value.int .i64 0)]⟩) l4)
 (FnW Tryz.prog Zlx ⟨[(Value.pointer (some ⟨d,0,none⟩))]⟩ n fun o8 l5=>
 o8=Value.tuple ⟨[]⟩∧
 k (Value.tuple ⟨[(Value.slice none 0 0),(Value.int .i64 151)]⟩) l5))
 (∃d2,h.cell ⟨a,0,none⟩=some (Value.int .i64 d2)∧∃d3,h.cell ⟨a,1,none⟩=some (Value.int .i64 d3)∧∃d4,h.cell ⟨a,2,none⟩=some (Value.int .u32 d4)∧∃d5,h.cell ⟨a,3,none⟩=some (Value.int .u32 d5)∧∃d6,h.cell ⟨a,4,none⟩=some (Value.int .i64 d6)∧∃d7,h.cell ⟨a,5,none⟩=some (Value.int .i64 d7)∧∃d8,h.cell ⟨a,6,none⟩=some (Value.int .i64 d8)∧∃d9,h.cell ⟨a,7,none⟩=some (Value.int .i64 d9)∧∃e0 e2 e1,h.cell ⟨a,8,none⟩=some (Value.slice e0 e2 e1)∧FnW Tryz.prog Zda ⟨[(Value.agg ⟨[(Value.int .i64 d2),(Value.int .i64 d3),(Value.int .u32 d4),(Value.int .u32 d5),(Value.int .i64 d6),(Value.int .i64 d7),(Value.int .i64 d8),(Value.int .i64 d9),(Value.slice e0 e2 e1)]⟩),(Value.int .i64 2)]⟩ h fun o9 j=>
 ∃e3,o9=Value.bool e3∧
 IfB e3
 (FnW Tryz.prog Zfb ⟨[(Value.pointer (some ⟨d,0,none⟩))]⟩ j fun p0 l6=>
 ∃e4,∃e5:Int,∃e6:Int,∃e7:Int,∃e8:Int,∃e9:Int,∃f0:Int,∃f1:Int,∃(f2:Option Addr) (f4 f3:Nat),p0=(Value.agg ⟨[(Value.int .i64 e4),(Value.int .i64 e5),(Value.int .u32 e6),(Value.int .u32 e7),(Value.int .i64 e8),(Value.int .i64 e9),(Value.int .i64 f0),(Value.int .i64 f1),(Value.slice f2 f4 f3)]⟩)∧
 NewW l6 (Obj.cells ⟨[(Value.int .i64 e4),(Value.int .i64 e5),(Value.int .u32 e6),(Value.int .u32 e7),(Value.int .i64 e8),(Value.int .i64 e9),(Value.int .i64 f0),(Value.int .i64 f1),(Value.slice f2 f4 f3)]⟩ Zq) fun p1 l7=>
 k (Value.tuple ⟨[(Value.slice (some ⟨p1,0,none⟩) 1 1),(Value.int .i64 0)]⟩) l7)
 (∃f5,j.cell ⟨a,0,none⟩=some (Value.int .i64 f5)∧∃f6,j.cell ⟨a,1,none⟩=some (Value.int .i64 f6)∧∃f7,j.cell ⟨a,2,none⟩=some (Value.int .u32 f7)∧∃f8,j.cell ⟨a,3,none⟩=some (Value.int .u32 f8)∧∃f9,j.cell ⟨a,4,none⟩=some (Value.int .i64 f9)∧∃g0,j.cell ⟨a,5,none⟩=some (Value.int .i64 g0)∧∃g1,j.cell ⟨a,6,none⟩=some (Value.int .i64 g1)∧∃g2,j.cell ⟨a,7,none⟩=some (Value.int .i64 g2)∧∃g3 g5 g4,j.cell ⟨a,8,none⟩=some (Value.slice g3 g5 g4)∧FnW Tryz.prog Zda ⟨[(Value.agg ⟨[(Value.int .i64 f5),(Value.int .i64 f6),(Value.int .u32 f7),(Value.int .u32 f8),(Value.int .i64 f9),(Value.int .i64 g0),(Value.int .i64 g1),(Value.int .i64 g2),(Value.slice g3 g5 g4)]⟩),(Value.int .i64 16)]⟩ j fun p2 f=>
 ∃g6,p2=Value.bool g6∧
 IfB (!g6)
 (k (Value.tuple ⟨[(Value.slice none 0 0),(Value.int .i64 0)]⟩) f)
 (∃g7,f.cell ⟨d,0,none⟩=some (Value.int .i64 g7)∧
 IfB (g7==2)
 (∃g:List Nat,(∀b∈g,∃m,f b=some m)∧
 a∈g∧∃g8,f.cell ⟨a,3,none⟩=some (Value.int .u32 g8)∧
 ∃g9,f.cell ⟨d,3,none⟩=some (Value.int .u32 g9)∧
 FnW Tryz.prog Zdg ⟨[(Value.int .u32 g9),(Value.int .i64 1)]⟩ f fun p3 i=>
 ∃h0,p3=Value.int .u32 h0∧
 Zb g f i∧IfB (g8 !=h0)
 (∃h1,i.cell ⟨a,0,none⟩=some (Value.int .i64 h1)∧∃h2,i.cell ⟨a,1,none⟩=some (Value.int .i64 h2)∧∃h3,i.cell ⟨a,2,none⟩=some (Value.int .u32 h3)∧∃h4,i.cell ⟨a,3,none⟩=some (Value.int .u32 h4)∧∃h5,i.cell ⟨a,4,none⟩=some (Value.int .i64 h5)∧∃h6,i.cell ⟨a,5,none⟩=some (Value.int .i64 h6)∧∃h7,i.cell ⟨a,6,none⟩=some (Value.int .i64 h7)∧∃h8,i.cell ⟨a,7,none⟩=some (Value.int .i64 h8)∧∃h9 i1 i0,i.cell ⟨a,8,none⟩=some (Value.slice h9 i1 i0)∧FnW Tryz.prog Zov ⟨[(Value.agg ⟨[(Value.int .i64 h1),(Value.int .i64 h2),(Value.int .u32 h3),(Value.int .u32 h4),(Value.int .i64 h5),(Value.int .i64 h6),(Value.int .i64 h7),(Value.int .i64 h8),(Value.slice h9 i1 i0)]⟩)]⟩ i fun p4 l8=>
 ∃i2 i4 i3,p4=Value.slice i2 i4 i3∧
 k (Value.tuple ⟨[(Value.slice i2 i4 i3),(Value.int .i64 0)]⟩) l8)
 (Za i ⟨d,0,none⟩ (Value.int .i64 3) fun l9=>
 FnW Tryz.prog Zjk ⟨[(Value.pointer (some ⟨d,0,none⟩))]⟩ l9 fun p5 l=>
 p5=Value.tuple ⟨[]⟩∧
 ∃i5,l.cell ⟨d,4,none⟩=some (Value.pointer i5)∧
 ∃i6,l.cell ⟨d,10,none⟩=some (Value.int .i64 i6)∧
 ∃i7,l.cell ⟨a,3,none⟩=some (Value.int .u32 i7)∧
 ∃i8,l.cell ⟨a,5,none⟩=some (Value.int .i64 i8)∧
 FnW Tryz.prog Zjo ⟨[(Value.pointer i5),(Value.int .i64 i6),(Value.int .u32 i7),(Value.int .i64 i8)]⟩ l fun p8 m0=>
 ∃p6,∃p7:Int,p8=(Value.tuple ⟨[(Value.int .i64 p6),(Value.int .i64 p7)]⟩)∧
 Ztr d a m0 k))
 (∃i9,f.cell ⟨a,0,none⟩=some (Value.int .i64 i9)∧∃j0,f.cell ⟨a,1,none⟩=some (Value.int .i64 j0)∧∃j1,f.cell ⟨a,2,none⟩=some (Value.int .u32 j1)∧∃j2,f.cell ⟨a,3,none⟩=some (Value.int .u32 j2)∧∃j3,f.cell ⟨a,4,none⟩=some (Value.int .i64 j3)∧∃j4,f.cell ⟨a,5,none⟩=some (Value.int .i64 j4)∧∃j5,f.cell ⟨a,6,none⟩=some (Value.int .i64 j5)∧∃j6,f.cell ⟨a,7,none⟩=some (Value.int .i64 j6)∧∃j7 j9 j8,f.cell ⟨a,8,none⟩=some (Value.slice j7 j9 j8)∧FnW Tryz.prog Zwb ⟨[(Value.pointer (some ⟨d,0,none⟩)),(Value.agg ⟨[(Value.int .i64 i9),(Value.int .i64 j0),(Value.int .u32 j1),(Value.int .u32 j2),(Value.int .i64 j3),(Value.int .i64 j4),(Value.int .i64 j5),(Value.int .i64 j6),(Value.slice j7 j9 j8)]⟩)]⟩ f fun p9 q=>
 ∃k0,p9=Value.bool k0∧
 IfB (!k0)
 (FnW Tryz.prog Zfb ⟨[(Value.pointer (some ⟨d,0,none⟩))]⟩ q fun q0 m1=>
 ∃k1,∃k2:Int,∃k3:Int,∃k4:Int,∃k5:Int,∃k6:Int,∃k7:Int,∃k8:Int,∃(k9:Option Addr) (l1 l0:Nat),q0=(Value.agg ⟨[(Value.int .i64 k1),(Value.int .i64 k2),(Value.int .u32 k3),(Value.int .u32 k4),(Value.int .i64 k5),(Value.int .i64 k6),(Value.int .i64 k7),(Value.int .i64 k8),(Value.slice k9 l1 l0)]⟩)∧
 NewW m1 (Obj.cells ⟨[(Value.int .i64 k1),(Value.int .i64 k2),(Value.int .u32 k3),(Value.int .u32 k4),(Value.int .i64 k5),(Value.int .i64 k6),(Value.int .i64 k7),(Value.int .i64 k8),(Value.slice k9 l1 l0)]⟩ Zq) fun q1 m2=>
 k (Value.tuple ⟨[(Value.slice (some ⟨q1,0,none⟩) 1 1),(Value.int .i64 0)]⟩) m2)
 (Ztr d a q k))))))
theorem Zchh (d:Nat) (e f g h i j k l:Int) (m:Option Addr) (o n:Nat) {a:Heap} {c:Value->Heap->Prop} (q:Zbov d e f g h i j k l m o n a fun r p=>∀b,Shut a p b->c r b):FnW Tryz.prog Zxt ⟨[(Value.pointer (some ⟨d,0,none⟩)),(Value.agg ⟨[(Value.int .i64 e),(Value.int .i64 f),(Value.int .u32 g),(Value.int .u32 h),(Value.int .i64 i),(Value.int .i64 j),(Value.int .i64 k),(Value.int .i64 l),(Value.slice m o n)]⟩)]⟩ a c:=Zc Tryz.func96 ⟨[(1,[0,2,3,4,5,7,8,9,1,6,10,11,12,13,14,15,16],[15,18,19]),(7,[0,1,2,3,4],[34]),(16,[0,1,2,3,4,5,6,7],[57])],[],[],[]⟩ (by kernel_rfl) (by kernel_rfl) q
def Zbrr (f g h i j k l m:Int) (n:Option Addr) (p o:Nat) (b:Int) (d:Heap) (e:Value->Heap->Prop):Prop:=
 NewW d (Obj.cells ⟨[(Value.int .i64 f),(Value.int .i64 g),(Value.int .u32 h),(Value.int .u32 i),(Value.int .i64 j),(Value.int .i64 k),(Value.int .i64 l),(Value.int .i64 m),(Value.slice n p o)]⟩ Zq) fun q a=>
 ∃c,a.cell ⟨q,4,none⟩=some (Value.int .i64 c)∧
 b≠0∧
 (2:Int)≠0∧
 e (Value.bool (((Int.tmod (IntKind.wrap .i64 (Int.tdiv c b)) 2):Int)==1)) a
theorem Zcjo (d e f g h i j k:Int) (l:Option Addr) (n m:Nat) (o:Int) {a:Heap} {c:Value->Heap->Prop} (q:Zbrr d e f g h i j k l n m o a fun r p=>∀b,Shut a p b->c r b):FnW Tryz.prog Zda ⟨[(Value.agg ⟨[(Value.int .i64 d),(Value.int .i64 e),(Value.int .u32 f),(Value.int .u32 g),(Value.int .i64 h),(Value.int .i64 i),(Value.int .i64 j),(Value.int .i64 k),(Value.slice l n m)]⟩),(Value.int .i64 o)]⟩ a c:=Zc Tryz.func97 ⟨[],[],[],[]⟩ (by kernel_rfl) (by kernel_rfl) q
def Zbbh (e:Nat) (H I J K L M N O:Int) (P:Option Addr) (R Q:Nat) (B:Heap) (F:Value->Heap->Prop):Prop:=
 NewW B (Obj.cells ⟨[(Value.int .i64 H),(Value.int .i64 I),(Value.int .u32 J),(Value.int .u32 K),(Value.int .i64 L),(Value.int .i64 M),(Value.int .i64 N),(Value.int .i64 O),(Value.slice P R Q)]⟩ Zq) fun c f=>
 ∃y,f.cell ⟨c,2,none⟩=some (Value.int .u32 y)∧
 FnW Tryz.prog Zdg ⟨[(Value.int .u32 y),(Value.int .i64 1)]⟩ f fun W C=>
 ∃z,W=Value.int .u32 z∧
 FnW Tryz.prog Zye ⟨[(Value.int .u32 z),(Value.int .i64 4096)]⟩ C fun Y D=>
 ∃A,∃X:Int,Y=(Value.tuple ⟨[(Value.pointer A),(Value.int .i64 X)]⟩)∧
 Za D ⟨e,5,none⟩ (Value.pointer A) fun a=>
 ∃d:List Nat,(∀b∈d,∃G,a b=some G)∧
 ∃j,a.cell ⟨e,3,none⟩=some (Value.int .u32 j)∧
 c∈d∧∃l,a.cell ⟨c,0,none⟩=some (Value.int .i64 l)∧∃m,a.cell ⟨c,1,none⟩=some (Value.int .i64 m)∧∃n,a.cell ⟨c,2,none⟩=some (Value.int .u32 n)∧∃o,a.cell ⟨c,3,none⟩=some (Value.int .u32 o)∧∃p,a.cell ⟨c,4,none⟩=some (Value.int .i64 p)∧∃q,a.cell ⟨c,5,none⟩=some (Value.int .i64 q)∧∃r,a.cell ⟨c,6,none⟩=some (Value.int .i64 r)∧∃s,a.cell ⟨c,7,none⟩=some (Value.int .i64 s)∧∃t v u,a.cell ⟨c,8,none⟩=some (Value.slice t v u)∧FnW Tryz.prog Zdg ⟨[(Value.int .u32 j),(Value.int .i64 1)]⟩ a fun S g=>
 ∃k,S=Value.int .u32 k∧
 Zb d a g∧FnW Tryz.prog Zwg ⟨[(Value.agg ⟨[(Value.int .i64 l),(Value.int .i64 m),(Value.int .u32 n),(Value.int .u32 o),(Value.int .i64 p),(Value.int .i64 q),(Value.int .i64 r),(Value.int .i64 s),(Value.slice t v u)]⟩)]⟩ g fun T h=>
 ∃w,T=Value.int .i64 w∧
 Zb d a h∧FnW Tryz.prog Zpw ⟨[(Value.int .u32 k),(Value.int .i64 4096),(Value.int .i64 0),(Value.int .i64 w)]⟩ h fun V i=>
 ∃x,∃U:Int,V=(Value.tuple ⟨[(Value.pointer x),(Value.int .i64 U)]⟩)∧
 Zb d a i∧Za i ⟨e,4,none⟩ (Value.pointer x) fun E=>
 F (Value.tuple ⟨[]⟩) E
theorem Zbjs (d:Nat) (e f g h i j k l:Int) (m:Option Addr) (o n:Nat) {a:Heap} {c:Value->Heap->Prop} (q:Zbbh d e f g h i j k l m o n a fun r p=>∀b,Shut a p b->c r b):FnW Tryz.prog Zlo ⟨[(Value.pointer (some ⟨d,0,none⟩)),(Value.agg ⟨[(Value.int .i64 e),(Value.int .i64 f),(Value.int .u32 g),(Value.int .u32 h),(Value.int .i64 i),(Value.int .i64 j),(Value.int .i64 k),(Value.int .i64 l),(Value.slice m o n)]⟩)]⟩ a c:=Zc Tryz.func98 ⟨[(2,[0,1,2,3,4,6,5,7,8,9,10,11,12,13,14],[1000000,21])],[],[],[]⟩ (by kernel_rfl) (by kernel_rfl) q
def Zbpm (h i j k l m n o:Int) (p:Option Addr) (r q:Nat) (d:Int) (g:Heap) (b:Value->Heap->Prop):Prop:=
 NewW g (Obj.cells ⟨[(Value.int .i64 h),(Value.int .i64 i),(Value.int .u32 j),(Value.int .u32 k),(Value.int .i64 l),(Value.int .i64 m),(Value.int .i64 n),(Value.int .i64 o),(Value.slice p r q)]⟩ Zq) fun c a=>
 ∃f,a.cell ⟨c,4,none⟩=some (Value.int .i64 f)∧
 IfB (decide (f≥0))
 (∃e,a.cell ⟨c,4,none⟩=some (Value.int .i64 e)∧
 d≠0∧
 (2:Int)≠0∧
 b (Value.bool (((Int.tmod (IntKind.wrap .i64 (Int.tdiv e d)) 2):Int)==1)) a)
 (b (Value.bool false) a)
theorem Zchu (d e f g h i j k:Int) (l:Option Addr) (n m:Nat) (o:Int) {a:Heap} {c:Value->Heap->Prop} (q:Zbpm d e f g h i j k l n m o a fun r p=>∀b,Shut a p b->c r b):FnW Tryz.prog Zju ⟨[(Value.agg ⟨[(Value.int .i64 d),(Value.int .i64 e),(Value.int .u32 f),(Value.int .u32 g),(Value.int .i64 h),(Value.int .i64 i),(Value.int .i64 j),(Value.int .i64 k),(Value.slice l n m)]⟩),(Value.int .i64 o)]⟩ a c:=Zc Tryz.func99 ⟨[],[],[],[]⟩ (by kernel_rfl) (by kernel_rfl) q
def Zti (b:Nat) (e:Int) (a:Heap) (d:Value->Heap->Prop):Prop:=
 ∃f,a.cell ⟨b,0,none⟩=some (Value.int .i64 f)∧∃g,a.cell ⟨b,1,none⟩=some (Value.int .i64 g)∧∃h,a.cell ⟨b,2,none⟩=some (Value.int .u32 h)∧∃i,a.cell ⟨b,3,none⟩=some (Value.int .u32 i)∧∃j,a.cell ⟨b,4,none⟩=some (Value.int .i64 j)∧∃k,a.cell ⟨b,5,none⟩=some (Value.int .i64 k)∧∃l,a.cell ⟨b,6,none⟩=some (Value.int .i64 l)∧∃m,a.cell ⟨b,7,none⟩=some (Value.int .i64 m)∧∃n p o,a.cell ⟨b,8,none⟩=some (Value.slice n p o)∧FnW Tryz.prog Zju ⟨[(Value.agg ⟨[(Value.int .i64 f),(Value.int .i64 g),(Value.int .u32 h),(Value.int .u32 i),(Value.int .i64 j),(Value.int .i64 k),(Value.int .i64 l),(Value.int .i64 m),(Value.slice n p o)]⟩),(Value.int .i64 1)]⟩ a fun r c=>
 ∃q,r=Value.bool q∧
 IfB q
 (d (Value.int .i64 (IntKind.wrap .i64 (e+1))) c)
 (d (Value.int .i64 e) c)
def Zbom (s t u v w x y z:Int) (A:Option Addr) (C B:Nat) (r:Heap) (e:Value->Heap->Prop):Prop:=
 NewW r (Obj.cells ⟨[(Value.int .i64 s),(Value.int .i64 t),(Value.int .u32 u),(Value.int .u32 v),(Value.int .i64 w),(Value.int .i64 x),(Value.int .i64 y),(Value.int .i64 z),(Value.slice A C B)]⟩ Zq) fun a b=>
 ∃D c E,b.cell ⟨a,8,none⟩=some (Value.slice D c E)∧
 ∃f,b.cell ⟨a,0,none⟩=some (Value.int .i64 f)∧∃g,b.cell ⟨a,1,none⟩=some (Value.int .i64 g)∧∃h,b.cell ⟨a,2,none⟩=some (Value.int .u32 h)∧∃i,b.cell ⟨a,3,none⟩=some (Value.int .u32 i)∧∃j,b.cell ⟨a,4,none⟩=some (Value.int .i64 j)∧∃k,b.cell ⟨a,5,none⟩=some (Value.int .i64 k)∧∃l,b.cell ⟨a,6,none⟩=some (Value.int .i64 l)∧∃m,b.cell ⟨a,7,none⟩=some (Value.int .i64 m)∧∃n p o,b.cell ⟨a,8,none⟩=some (Value.slice n p o)∧FnW Tryz.prog Zju ⟨[(Value.agg ⟨[(Value.int .i64 f),(Value.int .i64 g),(Value.int .u32 h),(Value.int .u32 i),(Value.int .i64 j),(Value.int .i64 k),(Value.int .i64 l),(Value.int .i64 m),(Value.slice n p o)]⟩),(Value.int .i64 2)]⟩ b fun F d=>
 ∃q,F=Value.bool q∧
 IfB q
 (Zti a (IntKind.wrap .i64 ((c:Int)+1)) d e)
 (Zti a (c:Int) d e)
theorem Zcgz (d e f g h i j k:Int) (l:Option Addr) (n m:Nat) {a:Heap} {c:Value->Heap->Prop} (p:Zbom d e f g h i j k l n m a fun q o=>∀b,Shut a o b->c q b):FnW Tryz.prog Zmb ⟨[(Value.agg ⟨[(Value.int .i64 d),(Value.int .i64 e),(Value.int .u32 f),(Value.int .u32 g),(Value.int .i64 h),(Value.int .i64 i),(Value.int .i64 j),(Value.int .i64 k),(Value.slice l n m)]⟩)]⟩ a c:=Zc Tryz.func100 ⟨[],[],[],[]⟩ (by kernel_rfl) (by kernel_rfl) p
def Zbpn (c d:Int) (a:Heap) (b:Value->Heap->Prop):Prop:=
 IfB (decide (c≥d))
 (b (Value.bool (decide (c <= 65535))) a)
 (b (Value.bool false) a)
theorem Zchv (e d:Int) {a:Heap} {c:Value->Heap->Prop} (g:Zbpn e d a fun h f=>∀b,Shut a f b->c h b):FnW Tryz.prog Zjv ⟨[(Value.int .i64 e),(Value.int .i64 d)]⟩ a c:=Zc Tryz.func122 ⟨[],[],[],[]⟩ (by kernel_rfl) (by kernel_rfl) g
def Zuf (e:Nat) (E I:Int) (F:Option Addr) (H G a:Nat) (K:Int) (d:Heap) (D:Value->Heap->Prop):Prop:=
 ∃f:List Nat,(∀b∈f,∃J,d b=some J)∧
 e∈f∧∃s,d.cell ⟨e,1,none⟩=some (Value.int .i64 s)∧
 e∈f∧∃t,d.cell ⟨e,2,none⟩=some (Value.int .i64 t)∧
 FnW Tryz.prog Zjj ⟨[(Value.pointer (some ⟨e,0,none⟩))]⟩ d fun L g=>
 ∃u,L=Value.int .u32 u∧
 Zb f d g∧Za g ⟨a,0,none⟩ (Value.int .i64 s) fun y=>
 Za y ⟨a,1,none⟩ (Value.int .i64 t) fun z=>
 Za z ⟨a,2,none⟩ (Value.int .u32 E) fun A=>
 Za A ⟨a,3,none⟩ (Value.int .u32 u) fun B=>
 Za B ⟨a,4,none⟩ (Value.int .i64 I) fun C=>
 Za C ⟨a,5,none⟩ (Value.int .i64 K) fun v=>
 Za v ⟨a,6,none⟩ (Value.int .i64 0) fun w=>
 Za w ⟨a,7,none⟩ (Value.int .i64 0) fun x=>
 Za x ⟨a,8,none⟩ (Value.slice F H G) fun c=>
 ∃h,c.cell ⟨a,0,none⟩=some (Value.int .i64 h)∧∃i,c.cell ⟨a,1,none⟩=some (Value.int .i64 i)∧∃j,c.cell ⟨a,2,none⟩=some (Value.int .u32 j)∧∃k,c.cell ⟨a,3,none⟩=some (Value.int .u32 k)∧∃l,c.cell ⟨a,4,none⟩=some (Value.int .i64 l)∧∃m,c.cell ⟨a,5,none⟩=some (Value.int .i64 m)∧∃n,c.cell ⟨a,6,none⟩=some (Value.int .i64 n)∧∃o,c.cell ⟨a,7,none⟩=some (Value.int .i64 o)∧∃p r q,c.cell ⟨a,8,none⟩=some (Value.slice p r q)∧D (Value.agg ⟨[(Value.int .i64 h),(Value.int .i64 i),(Value.int .u32 j),(Value.int .u32 k),(Value.int .i64 l),(Value.int .i64 m),(Value.int .i64 n),(Value.int .i64 o),(Value.slice p r q)]⟩) c
def Zbpo (b:Nat) (d h:Int) (e:Option Addr) (g f:Nat) (m:Heap) (c:Value->Heap->Prop):Prop:=
 NewW m (Obj.cells ⟨[(Value.int .i64 0),(Value.int .i64 0),(Value.int .u32 0),(Value.int .u32 0),(Value.int .i64 0),(Value.int .i64 0),(Value.int .i64 0),(Value.int .i64 0),(Value.slice none 0 0)]⟩ Zq) fun l a=>
 ∃i,a.cell ⟨b,5,none⟩=some (Value.pointer i)∧
 IfB (!i.isNone)
 (∃j,a.cell ⟨b,5,none⟩=some (Value.pointer j)∧
 FnW Tryz.prog Zmg ⟨[(Value.pointer j)]⟩ a fun o n=>
 ∃k,o=Value.int .i64 k∧
 Zuf b d h e g f l k n c)
 (Zuf b d h e g f l 4096 a c)
theorem Zchw (e:Nat) (d i:Int) (f:Option Addr) (h g:Nat) {a:Heap} {c:Value->Heap->Prop} (k:Zbpo e d i f h g a fun l j=>∀b,Shut a j b->c l b):FnW Tryz.prog Zjw ⟨[(Value.pointer (some ⟨e,0,none⟩)),(Value.int .u32 d),(Value.int .i64 i),(Value.slice f h g)]⟩ a c:=Zc Tryz.func123 ⟨[(4,[0,1,2,3,4,5,6,7,8,9,11,12,13,10,14,15],[23,27])],[],[],[]⟩ (by kernel_rfl) (by kernel_rfl) k
def Zbna (b:Nat) (a:Heap) (c:Value->Heap->Prop):Prop:=
 ∃v,a.cell ⟨b,0,none⟩=some (Value.int .i64 v)∧
 IfB (v==1)
 (c (Value.bool true) a)
 (∃d,a.cell ⟨b,0,none⟩=some (Value.int .i64 d)∧
 IfB (d==2)
 (c (Value.bool true) a)
 (∃e,a.cell ⟨b,4,none⟩=some (Value.pointer e)∧
 NilP e fun f=>
 ∃g,a.cell ⟨f.block,f.off+2,none⟩=some (Value.int .i64 g)∧
 IfB (decide (g>0))
 (c (Value.bool true) a)
 (∃h,a.cell ⟨b,7,none⟩=some (Value.bool h)∧
 IfB h
 (∃i,a.cell ⟨b,8,none⟩=some (Value.bool i)∧
 IfB (!i)
 (c (Value.bool true) a)
 (∃j,a.cell ⟨b,4,none⟩=some (Value.pointer j)∧
 NilP j fun l=>
 ∃n,a.cell ⟨l.block,l.off+4,none⟩=some (Value.int .i64 n)∧
 IfB (n==0)
 (∃p,a.cell ⟨b,4,none⟩=some (Value.pointer p)∧
 NilP p fun r=>
 ∃w t y,a.cell ⟨r.block,r.off+1,none⟩=some (Value.slice w t y)∧
 c (Value.bool (decide (((t:Int):Int)>0))) a)
 (c (Value.bool false) a)))
 (∃k,a.cell ⟨b,4,none⟩=some (Value.pointer k)∧
 NilP k fun m=>
 ∃o,a.cell ⟨m.block,m.off+4,none⟩=some (Value.int .i64 o)∧
 IfB (o==0)
 (∃q,a.cell ⟨b,4,none⟩=some (Value.pointer q)∧
 NilP q fun s=>
 ∃x u z,a.cell ⟨s.block,s.off+1,none⟩=some (Value.slice x u z)∧
 c (Value.bool (decide (((u:Int):Int)>0))) a)
 (c (Value.bool false) a)))))
theorem Zcfr (d:Nat) {a:Heap} {c:Value->Heap->Prop} (f:Zbna d a fun g e=>∀b,Shut a e b->c g b):FnW Tryz.prog Zxf ⟨[(Value.pointer (some ⟨d,0,none⟩))]⟩ a c:=Zc Tryz.func124 ⟨[],[],[],[]⟩ (by kernel_rfl) (by kernel_rfl) f
def Zbpq (f g:Nat) (c b:Int) (a:Heap) (h:(Int×Int×Unit)->Heap->Prop) (e:Value->Heap->Prop):Prop:=
 ∃d,a.cell ⟨f,g+2,none⟩=some (Value.int .i64 d)∧
 IfB (decide (b<d))
 (h ((min 600 (IntKind.wrap .i64 (2*c))),((IntKind.wrap .i64 (b+1)),())) a)
 (e (Value.int .i64 (max 5 (min 600 c))) a)
def Zug (e f:Nat) (h:Int) (c:Heap) (d:Value->Heap->Prop):Prop:=
 Zbk (Int×Int×Unit) (h,(0,())) c fun a b g=>∀i:Env,Zbpq e f a.1 a.2.1 b g d
def Zbpr (b c:Nat) (a:Heap) (d:Value->Heap->Prop):Prop:=
 ∃g,a.cell ⟨b,c+3,none⟩=some (Value.bool g)∧
 IfB g
 (∃e,a.cell ⟨b,c,none⟩=some (Value.int .i64 e)∧
 (8:Int)≠0∧
 ∃f,a.cell ⟨b,c+1,none⟩=some (Value.int .i64 f)∧
 Zug b c (IntKind.wrap .i64 ((IntKind.wrap .i64 (Int.tdiv e 8))+(max 1 f))) a d)
 (Zug b c 30 a d)
theorem Zchx (d e:Nat) {a:Heap} {c:Value->Heap->Prop} (g:Zbpr d e a fun h f=>∀b,Shut a f b->c h b):FnW Tryz.prog Zxx ⟨[(Value.pointer (some ⟨d,e,none⟩))]⟩ a c:=Zc Tryz.func125 ⟨[],[(5,[3,4],[.int .i64,.int .i64],[0])],[],[]⟩ (by kernel_rfl) (by kernel_rfl) g
def Zbju (Z a0 a1 a2 a3 a4 a5 a6:Int) (a7:Option Addr) (a9 a8:Nat) (N:Heap) (e:Value->Heap->Prop):Prop:=
 NewW N (Obj.cells ⟨[(Value.int .i64 Z),(Value.int .i64 a0),(Value.int .u32 a1),(Value.int .u32 a2),(Value.int .i64 a3),(Value.int .i64 a4),(Value.int .i64 a5),(Value.int .i64 a6),(Value.slice a7 a9 a8)]⟩ Zq) fun d c=>
 ∃q,c.cell ⟨d,0,none⟩=some (Value.int .i64 q)∧∃r,c.cell ⟨d,1,none⟩=some (Value.int .i64 r)∧∃s,c.cell ⟨d,2,none⟩=some (Value.int .u32 s)∧∃t,c.cell ⟨d,3,none⟩=some (Value.int .u32 t)∧∃u,c.cell ⟨d,4,none⟩=some (Value.int .i64 u)∧∃v,c.cell ⟨d,5,none⟩=some (Value.int .i64 v)∧∃w,c.cell ⟨d,6,none⟩=some (Value.int .i64 w)∧∃x,c.cell ⟨d,7,none⟩=some (Value.int .i64 x)∧∃y A z,c.cell ⟨d,8,none⟩=some (Value.slice y A z)∧FnW Tryz.prog Zot ⟨[(Value.agg ⟨[(Value.int .i64 q),(Value.int .i64 r),(Value.int .u32 s),(Value.int .u32 t),(Value.int .i64 u),(Value.int .i64 v),(Value.int .i64 w),(Value.int .i64 x),(Value.slice y A z)]⟩)]⟩ c fun b1 R=>
 ∃B,∃C:Int,∃D:Int,∃E:Int,∃F:Int,∃G:Int,∃H:Int,∃I:Int,∃(J:Option Addr) (L K:Nat),∃M:Bool,b1=(Value.tuple ⟨[(Value.agg ⟨[(Value.int .i64 B),(Value.int .i64 C),(Value.int .u32 D),(Value.int .u32 E),(Value.int .i64 F),(Value.int .i64 G),(Value.int .i64 H),(Value.int .i64 I),(Value.slice J L K)]⟩),(Value.bool M)]⟩)∧
 NewW R (Obj.cells ⟨[(Value.int .i64 0),(Value.int .i64 0),(Value.int .u32 0),(Value.int .u32 0),(Value.int .i64 0),(Value.int .i64 0),(Value.int .i64 0),(Value.int .i64 0),(Value.slice none 0 0)]⟩ Zq) fun a S=>
 Za S ⟨a,0,none⟩ (Value.int .i64 B) fun T=>
 Za T ⟨a,1,none⟩ (Value.int .i64 C) fun U=>
 Za U ⟨a,2,none⟩ (Value.int .u32 D) fun V=>
 Za V ⟨a,3,none⟩ (Value.int .u32 E) fun W=>
 Za W ⟨a,4,none⟩ (Value.int .i64 F) fun X=>
 Za X ⟨a,5,none⟩ (Value.int .i64 G) fun Y=>
 Za Y ⟨a,6,none⟩ (Value.int .i64 H) fun O=>
 Za O ⟨a,7,none⟩ (Value.int .i64 I) fun P=>
 Za P ⟨a,8,none⟩ (Value.slice J L K) fun b=>
 IfB (!M)
 (e (Value.slice none 0 0) b)
 (∃f,b.cell ⟨a,0,none⟩=some (Value.int .i64 f)∧∃g,b.cell ⟨a,1,none⟩=some (Value.int .i64 g)∧∃h,b.cell ⟨a,2,none⟩=some (Value.int .u32 h)∧∃i,b.cell ⟨a,3,none⟩=some (Value.int .u32 i)∧∃j,b.cell ⟨a,4,none⟩=some (Value.int .i64 j)∧∃k,b.cell ⟨a,5,none⟩=some (Value.int .i64 k)∧∃l,b.cell ⟨a,6,none⟩=some (Value.int .i64 l)∧∃m,b.cell ⟨a,7,none⟩=some (Value.int .i64 m)∧∃n p o,b.cell ⟨a,8,none⟩=some (Value.slice n p o)∧NewW b (Obj.cells ⟨[(Value.int .i64 f),(Value.int .i64 g),(Value.int .u32 h),(Value.int .u32 i),(Value.int .i64 j),(Value.int .i64 k),(Value.int .i64 l),(Value.int .i64 m),(Value.slice n p o)]⟩ Zq) fun b0 Q=>
 e (Value.slice (some ⟨b0,0,none⟩) 1 1) Q)
theorem Zccp (d e f g h i j k:Int) (l:Option Addr) (n m:Nat) {a:Heap} {c:Value->Heap->Prop} (p:Zbju d e f g h i j k l n m a fun q o=>∀b,Shut a o b->c q b):FnW Tryz.prog Zov ⟨[(Value.agg ⟨[(Value.int .i64 d),(Value.int .i64 e),(Value.int .u32 f),(Value.int .u32 g),(Value.int .i64 h),(Value.int .i64 i),(Value.int .i64 j),(Value.int .i64 k),(Value.slice l n m)]⟩)]⟩ a c:=Zc Tryz.func138 ⟨[],[],[],[]⟩ (by kernel_rfl) (by kernel_rfl) p
def Zblf (a:Nat) (b:Heap) (e:Value->Heap->Prop):Prop:=
 Za b ⟨a,0,none⟩ (Value.int .i64 0) fun c=>
 Za c ⟨a,11,none⟩ (Value.int .i64 (-1)) fun d=>
 e (Value.tuple ⟨[]⟩) d
theorem Zcdr (d:Nat) {a:Heap} {c:Value->Heap->Prop} (f:Zblf d a fun g e=>∀b,Shut a e b->c g b):FnW Tryz.prog Zlx ⟨[(Value.pointer (some ⟨d,0,none⟩))]⟩ a c:=Zc Tryz.func139 ⟨[],[],[],[]⟩ (by kernel_rfl) (by kernel_rfl) f
def Zbkk (b:Nat) (e:Heap) (g:Value->Heap->Prop):Prop:=
 Za e ⟨b,11,none⟩ (Value.int .i64 (-1)) fun a=>
 ∃c,a.cell ⟨b,4,none⟩=some (Value.pointer c)∧
 NilP c fun d=>
 Za a ⟨d.block,d.off+9,none⟩ (Value.int .i64 0) fun f=>
 g (Value.tuple ⟨[]⟩) f
theorem Zcda (d:Nat) {a:Heap} {c:Value->Heap->Prop} (f:Zbkk d a fun g e=>∀b,Shut a e b->c g b):FnW Tryz.prog Zjk ⟨[(Value.pointer (some ⟨d,0,none⟩))]⟩ a c:=Zc Tryz.func140 ⟨[],[],[],[]⟩ (by kernel_rfl) (by kernel_rfl) f
def Zbnv (a:Nat) (t c:Int) (q:Heap) (r:Value->Heap->Prop):Prop:=
 Za q ⟨a,9,none⟩ (Value.int .i64 0) fun m=>
 Za m ⟨a,0,none⟩ (Value.int .u32 t) fun n=>
 NewW n (Obj.cells ⟨[]⟩ Zh) fun u g=>
 ∃d f e,g.cell ⟨a,1,none⟩=some (Value.slice d f e)∧
 InC (IntKind.wrap .i64 c) f fun b=>
 AppW Tryz.prog #[Zd,Zd] Zd [(Value.slice (some ⟨u,0,none⟩) 0 0),(Value.slice (if e=b then d else Option.map (fun s=>Addr.add s (b*1)) d) (f - b) (e - b))] g fun v o=>
 ∃j l k,v=Value.slice j l k∧
 Za o ⟨a,1,none⟩ (Value.slice j l k) fun h=>
 ∃i,h.cell ⟨a,2,none⟩=some (Value.int .i64 i)∧
 Za h ⟨a,2,none⟩ (Value.int .i64 (IntKind.wrap .i64 (i - (IntKind.wrap .i64 c)))) fun p=>
 r (Value.tuple ⟨[(Value.int .i64 (IntKind.wrap .i64 c)),(Value.int .i64 0)]⟩) p
def Zbnu (a:Nat) (i e f:Int) (j:Bool) (b:Heap) (d:Value->Heap->Prop):Prop:=
 IfB j
 (Za b ⟨a,11,none⟩ (Value.bool false) fun c=>
 ∃g,c.cell ⟨a,13,none⟩=some (Value.int .i64 g)∧
 FnW Tryz.prog Zbum ⟨[(Value.pointer (some ⟨a,7,none⟩)),(Value.int .i64 (min 100000 (IntKind.wrap .i64 (i - g))))]⟩ c fun l h=>
 ∃k,l=Value.int .i64 k∧
 Zbnv a e f h d)
 (Zbnv a e f b d)
def Zni (a:Nat) (e g n d:Int) (o:Bool) (f:Heap) (c:Value->Heap->Prop):Prop:=
 IfB o
 (c (Value.tuple ⟨[(Value.int .i64 0),(Value.int .i64 2)]⟩) f)
 (Za f ⟨a,6,none⟩ (Value.int .i64 e) fun l=>
 Za l ⟨a,4,none⟩ (Value.int .i64 n) fun b=>
 IfB (d==0)
 (c (Value.tuple ⟨[(Value.int .i64 0),(Value.int .i64 0)]⟩) b)
 (∃h,b.cell ⟨a,11,none⟩=some (Value.bool h)∧
 IfB h
 (∃i,b.cell ⟨a,0,none⟩=some (Value.int .u32 i)∧
 ∃j,b.cell ⟨a,12,none⟩=some (Value.int .u32 j)∧
 FnW Tryz.prog Zgv ⟨[(Value.int .u32 i),(Value.int .u32 j)]⟩ b fun p m=>
 ∃k,p=Value.int .u32 k∧
 Zbnu a e g d (decide (k <= d)) m c)
 (Zbnu a e g d false b c)))
def Zbnw (a:Nat) (e d f:Int) (h:Heap) (g:Value->Heap->Prop):Prop:=
 ∃i,h.cell ⟨a,0,none⟩=some (Value.int .u32 i)∧
 FnW Tryz.prog Zgv ⟨[(Value.int .u32 i),(Value.int .u32 d)]⟩ h fun n b=>
 ∃c,n=Value.int .u32 c∧
 ∃j,b.cell ⟨a,6,none⟩=some (Value.int .i64 j)∧
 IfB (decide (e<j))
 (Zni a e d f c true b g)
 (∃k,b.cell ⟨a,2,none⟩=some (Value.int .i64 k)∧
 IfB (decide (((IntKind.wrap .u64 c):Int)>(IntKind.wrap .u64 k)))
 (Zni a e d f c true b g)
 (FnW Tryz.prog Zjv ⟨[(Value.int .i64 f),(Value.int .i64 0)]⟩ b fun o m=>
 ∃l,o=Value.bool l∧
 Zni a e d f c (!l) m g))
theorem Zcgn (f:Nat) (e d g:Int) {a:Heap} {c:Value->Heap->Prop} (i:Zbnw f e d g a fun j h=>∀b,Shut a h b->c j b):FnW Tryz.prog Zjo ⟨[(Value.pointer (some ⟨f,0,none⟩)),(Value.int .i64 e),(Value.int .u32 d),(Value.int .i64 g)]⟩ a c:=Zc Tryz.func141 ⟨[(7,[0,1,2,3,4,5,6,7,8,9,10,11,12,14,13,15,16],[])],[],[],[]⟩ (by kernel_rfl) (by kernel_rfl) i
def Ziv (c:Nat) (d:Option Addr) (f e:Nat) (C:((Option Addr×Nat×Nat)×Int×Unit)->Heap->Prop) (B:Bool) (a:Heap) (b:Value->Heap->Prop):Prop:=
 IfB B
 (FnW Tryz.prog Zxh ⟨[(Value.pointer (some ⟨c,0,none⟩))]⟩ a fun y w=>
 ∃g,∃h:Int,∃i:Int,∃j:Int,∃k:Int,∃l:Int,∃m:Int,∃n:Int,∃(o:Option Addr) (q p:Nat),y=(Value.agg ⟨[(Value.int .i64 g),(Value.int .i64 h),(Value.int .u32 i),(Value.int .u32 j),(Value.int .i64 k),(Value.int .i64 l),(Value.int .i64 m),(Value.int .i64 n),(Value.slice o q p)]⟩)∧
 NewW w (Obj.cells ⟨[(Value.int .i64 g),(Value.int .i64 h),(Value.int .u32 i),(Value.int .u32 j),(Value.int .i64 k),(Value.int .i64 l),(Value.int .i64 m),(Value.int .i64 n),(Value.slice o q p)]⟩ Zq) fun z x=>
 AppW Tryz.prog #[Zcy,Zcy] Zcy [(Value.slice d f e),(Value.slice (some ⟨z,0,none⟩) 1 1)] x fun A u=>
 ∃r t s,A=Value.slice r t s∧
 Za u ⟨c,7,none⟩ (Value.bool true) fun v=>
 b (Value.slice r t s) v)
 (b (Value.slice d f e) a)
def Zlb (b:Nat) (e:Option Addr) (g f:Nat) (d:((Option Addr×Nat×Nat)×Int×Unit)->Heap->Prop) (a:Heap) (c:Value->Heap->Prop):Prop:=
 ∃h,a.cell ⟨b,6,none⟩=some (Value.bool h)∧
 IfB h
 (∃i,a.cell ⟨b,7,none⟩=some (Value.bool i)∧
 IfB (!i)
 (∃j,a.cell ⟨b,4,none⟩=some (Value.pointer j)∧
 NilP j fun k=>
 ∃l,a.cell ⟨k.block,k.off+2,none⟩=some (Value.int .i64 l)∧
 ∃m,a.cell ⟨b,4,none⟩=some (Value.pointer m)∧
 NilP m fun n=>
 ∃p o q,a.cell ⟨n.block,n.off+1,none⟩=some (Value.slice p o q)∧
 Ziv b e g f d (l==(o:Int)) a c)
 (Ziv b e g f d false a c))
 (Ziv b e g f d false a c)
def Zbqc (a:Nat) (d:Option Addr) (f e:Nat) (i:Int) (b:Heap) (c:((Option Addr×Nat×Nat)×Int×Unit)->Heap->Prop) (h:Value->Heap->Prop):Prop:=
 IfB (decide (i <= 4096))
 (∃j,b.cell ⟨a,4,none⟩=some (Value.pointer j)∧
 ∃k,b.cell ⟨a,10,none⟩=some (Value.int .i64 k)∧
 FnW Tryz.prog Zxg ⟨[(Value.pointer j),(Value.int .i64 k)]⟩ b fun H g=>
 ∃l,∃(m:Option Addr) (o n:Nat),∃p:Int,H=(Value.tuple ⟨[(Value.int .u32 l),(Value.slice m o n),(Value.int .i64 p)]⟩)∧
 IfB (p !=0)
 (Zlb a d f e c g h)
 (FnW Tryz.prog Zjw ⟨[(Value.pointer (some ⟨a,0,none⟩)),(Value.int .u32 l),(Value.int .i64 24),(Value.slice m o n)]⟩ g fun I E=>
 ∃q,∃r:Int,∃s:Int,∃t:Int,∃u:Int,∃v:Int,∃w:Int,∃x:Int,∃(y:Option Addr) (A z:Nat),I=(Value.agg ⟨[(Value.int .i64 q),(Value.int .i64 r),(Value.int .u32 s),(Value.int .u32 t),(Value.int .i64 u),(Value.int .i64 v),(Value.int .i64 w),(Value.int .i64 x),(Value.slice y A z)]⟩)∧
 NewW E (Obj.cells ⟨[(Value.int .i64 q),(Value.int .i64 r),(Value.int .u32 s),(Value.int .u32 t),(Value.int .i64 u),(Value.int .i64 v),(Value.int .i64 w),(Value.int .i64 x),(Value.slice y A z)]⟩ Zq) fun J F=>
 AppW Tryz.prog #[Zcy,Zcy] Zcy [(Value.slice d f e),(Value.slice (some ⟨J,0,none⟩) 1 1)] F fun K G=>
 ∃B D C,K=Value.slice B D C∧
 c ((B,D,C),((IntKind.wrap .i64 (i+1)),())) G))
 (Zlb a d f e c b h)
def Zbqb (e g:Nat) (c:Heap) (d:Value->Heap->Prop):Prop:=
 Zbk ((Option Addr×Nat×Nat)×Int×Unit) (((some ⟨g,0,none⟩),0,0),(0,())) c fun a b f=>∀h:Env,Zbqc e a.1.1 a.1.2.1 a.1.2.2 a.2.1 b f d
def Ziu (d c:Nat) (e:Bool) (a:Heap) (b:Value->Heap->Prop):Prop:=
 IfB e
 (b (Value.slice (some ⟨c,0,none⟩) 0 0) a)
 (Zbqb d c a b)
def Zbqd (b:Nat) (j:Heap) (c:Value->Heap->Prop):Prop:=
 NewW j (Obj.cells ⟨[]⟩ Zq) fun d a=>
 ∃e,a.cell ⟨b,0,none⟩=some (Value.int .i64 e)∧
 IfB (e !=3)
 (∃f,a.cell ⟨b,0,none⟩=some (Value.int .i64 f)∧
 IfB (f !=4)
 (∃g,a.cell ⟨b,0,none⟩=some (Value.int .i64 g)∧
 IfB (g !=6)
 (∃h,a.cell ⟨b,0,none⟩=some (Value.int .i64 h)∧
 IfB (h !=7)
 (∃i,a.cell ⟨b,0,none⟩=some (Value.int .i64 i)∧
 Ziu b d (i !=8) a c)
 (Ziu b d false a c))
 (Ziu b d false a c))
 (Ziu b d false a c))
 (Ziu b d false a c)
theorem Zcim (d:Nat) {a:Heap} {c:Value->Heap->Prop} (f:Zbqd d a fun g e=>∀b,Shut a e b->c g b):FnW Tryz.prog Zpz ⟨[(Value.pointer (some ⟨d,0,none⟩))]⟩ a c:=Zc Tryz.func142 ⟨[],[(5,[3,4],[.slice,.int .i64],[0])],[],[]⟩ (by kernel_rfl) (by kernel_rfl) f
def Zbps (c:Nat) (A:Heap) (M:Value->Heap->Prop):Prop:=
 NewW A (Obj.cells ⟨[(Value.int .i64 0),(Value.int .i64 0),(Value.int .u32 0),(Value.int .u32 0),(Value.int .i64 0),(Value.int .i64 0),(Value.int .i64 0),(Value.int .i64 0),(Value.slice none 0 0)]⟩ Zq) fun a B=>
 FnW Tryz.prog Zpq ⟨[(Value.pointer (some ⟨c,0,none⟩))]⟩ B fun N E=>
 ∃o,N=Value.int .u32 o∧
 FnW Tryz.prog Zjw ⟨[(Value.pointer (some ⟨c,0,none⟩)),(Value.int .u32 o),(Value.int .i64 16),(Value.slice none 0 0)]⟩ E fun O F=>
 ∃p,∃q:Int,∃r:Int,∃s:Int,∃t:Int,∃u:Int,∃v:Int,∃w:Int,∃(x:Option Addr) (z y:Nat),O=(Value.agg ⟨[(Value.int .i64 p),(Value.int .i64 q),(Value.int .u32 r),(Value.int .u32 s),(Value.int .i64 t),(Value.int .i64 u),(Value.int .i64 v),(Value.int .i64 w),(Value.slice x z y)]⟩)∧
 Za F ⟨a,0,none⟩ (Value.int .i64 p) fun G=>
 Za G ⟨a,1,none⟩ (Value.int .i64 q) fun H=>
 Za H ⟨a,2,none⟩ (Value.int .u32 r) fun I=>
 Za I ⟨a,3,none⟩ (Value.int .u32 s) fun J=>
 Za J ⟨a,4,none⟩ (Value.int .i64 t) fun K=>
 Za K ⟨a,5,none⟩ (Value.int .i64 u) fun L=>
 Za L ⟨a,6,none⟩ (Value.int .i64 v) fun C=>
 Za C ⟨a,7,none⟩ (Value.int .i64 w) fun D=>
 Za D ⟨a,8,none⟩ (Value.slice x z y) fun b=>
 ∃d,b.cell ⟨a,0,none⟩=some (Value.int .i64 d)∧∃e,b.cell ⟨a,1,none⟩=some (Value.int .i64 e)∧∃f,b.cell ⟨a,2,none⟩=some (Value.int .u32 f)∧∃g,b.cell ⟨a,3,none⟩=some (Value.int .u32 g)∧∃h,b.cell ⟨a,4,none⟩=some (Value.int .i64 h)∧∃i,b.cell ⟨a,5,none⟩=some (Value.int .i64 i)∧∃j,b.cell ⟨a,6,none⟩=some (Value.int .i64 j)∧∃k,b.cell ⟨a,7,none⟩=some (Value.int .i64 k)∧∃l n m,b.cell ⟨a,8,none⟩=some (Value.slice l n m)∧M (Value.agg ⟨[(Value.int .i64 d),(Value.int .i64 e),(Value.int .u32 f),(Value.int .u32 g),(Value.int .i64 h),(Value.int .i64 i),(Value.int .i64 j),(Value.int .i64 k),(Value.slice l n m)]⟩) b
theorem Zchy (d:Nat) {a:Heap} {c:Value->Heap->Prop} (f:Zbps d a fun g e=>∀b,Shut a e b->c g b):FnW Tryz.prog Zfb ⟨[(Value.pointer (some ⟨d,0,none⟩))]⟩ a c:=Zc Tryz.func143 ⟨[],[],[],[]⟩ (by kernel_rfl) (by kernel_rfl) f
def Zun (c e b g:Int) (o:Bool) (d:Heap) (a:Value->Heap->Prop):Prop:=
 IfB o
 (a (Value.tuple ⟨[(Value.bool (b==c)),(Value.int .i64 0)]⟩) d)
 (IfB (g==0)
 (FnW Tryz.prog Zmh ⟨[(Value.int .u32 b),(Value.int .u32 c),(Value.int .i64 e)]⟩ d fun p l=>
 ∃h,p=Value.bool h∧
 a (Value.tuple ⟨[(Value.bool h),(Value.int .i64 0)]⟩) l)
 (FnW Tryz.prog Zmh ⟨[(Value.int .u32 b),(Value.int .u32 c),(Value.int .i64 e)]⟩ d fun q f=>
 ∃i,q=Value.bool i∧
 IfB i
 (a (Value.tuple ⟨[(Value.bool true),(Value.int .i64 0)]⟩) f)
 (FnW Tryz.prog Zdg ⟨[(Value.int .u32 b),(Value.int .i64 (IntKind.wrap .i64 (g - 1)))]⟩ f fun r m=>
 ∃j,r=Value.int .u32 j∧
 FnW Tryz.prog Zmh ⟨[(Value.int .u32 j),(Value.int .u32 c),(Value.int .i64 e)]⟩ m fun s n=>
 ∃k,s=Value.bool k∧
 a (Value.tuple ⟨[(Value.bool k),(Value.int .i64 0)]⟩) n)))
def Zbqa (f b e a:Int) (h:Heap) (d:Value->Heap->Prop):Prop:=
 FnW Tryz.prog Zwj ⟨[(Value.int .i64 b),(Value.int .i64 a)]⟩ h fun i c=>
 ∃g,i=Value.bool g∧
 IfB (!g)
 (d (Value.tuple ⟨[(Value.bool false),(Value.int .i64 2)]⟩) c)
 (IfB (a==0)
 (Zun f b e a (b==0) c d)
 (Zun f b e a false c d))
theorem Zcil (f g d e:Int) {a:Heap} {c:Value->Heap->Prop} (i:Zbqa f g d e a fun j h=>∀b,Shut a h b->c j b):FnW Tryz.prog Zyc ⟨[(Value.int .u32 f),(Value.int .i64 g),(Value.int .u32 d),(Value.int .i64 e)]⟩ a c:=Zc Tryz.func144 ⟨[],[],[],[]⟩ (by kernel_rfl) (by kernel_rfl) i
def Zbqp (b:Nat) (a:Heap) (e:Value->Heap->Prop):Prop:=
 ∃d,a.cell ⟨b,1,none⟩=some (Value.int .i64 d)∧
 ∃f c g,a.cell ⟨b,2,none⟩=some (Value.slice f c g)∧
 e (Value.int .i64 (IntKind.wrap .i64 (d - (c:Int)))) a
theorem Zcit (d:Nat) {a:Heap} {c:Value->Heap->Prop} (f:Zbqp d a fun g e=>∀b,Shut a e b->c g b):FnW Tryz.prog Zmg ⟨[(Value.pointer (some ⟨d,0,none⟩))]⟩ a c:=Zc Tryz.func145 ⟨[],[],[],[]⟩ (by kernel_rfl) (by kernel_rfl) f
def Zbjy (f:Nat) (g:Int) (a:Heap) (b:Value->Heap->Prop):Prop:=
 IfB (g==0)
 (∃c,a.cell ⟨f,4,none⟩=some (Value.pointer c)∧
 NilP c fun d=>
 Za a ⟨d.block,d.off+9,none⟩ (Value.int .i64 0) fun e=>
 b (Value.bool true) e)
 (b (Value.bool true) a)
def Zgk (d e:Nat) (a:Heap) (c:Value->Heap->Prop):Prop:=
 ∃b,a.cell ⟨e,5,none⟩=some (Value.int .i64 b)∧
 Zbjy d b a c
def Zsc (a d:Nat) (e:Heap) (c:Value->Heap->Prop):Prop:=
 ∃i,e.cell ⟨a,8,none⟩=some (Value.bool i)∧
 IfB (!i)
 (Za e ⟨a,8,none⟩ (Value.bool true) fun b=>
 ∃f,b.cell ⟨a,0,none⟩=some (Value.int .i64 f)∧
 IfB (f==4)
 (Za b ⟨a,0,none⟩ (Value.int .i64 5) fun j=>
 Zgk a d j c)
 (∃g,b.cell ⟨a,0,none⟩=some (Value.int .i64 g)∧
 IfB (g==7)
 (FnW Tryz.prog Zpr ⟨[(Value.pointer (some ⟨a,0,none⟩))]⟩ b fun m k=>
 m=Value.tuple ⟨[]⟩∧
 Zgk a d k c)
 (∃h,b.cell ⟨a,0,none⟩=some (Value.int .i64 h)∧
 IfB (h==8)
 (FnW Tryz.prog Zlx ⟨[(Value.pointer (some ⟨a,0,none⟩))]⟩ b fun n l=>
 n=Value.tuple ⟨[]⟩∧
 Zgk a d l c)
 (Zgk a d b c))))
 (Zgk a d e c)
def Zsb (a d:Nat) (f:Bool) (b:Heap) (c:Value->Heap->Prop):Prop:=
 IfB f
 (FnW Tryz.prog Zjk ⟨[(Value.pointer (some ⟨a,0,none⟩))]⟩ b fun g e=>
 g=Value.tuple ⟨[]⟩∧
 Zsc a d e c)
 (Zsc a d b c)
def Zsa (c e:Nat) (x:Bool) (a:Heap) (g:Value->Heap->Prop):Prop:=
 IfB x
 (∃d:List Nat,(∀b∈d,∃u,a b=some u)∧
 c∈d∧∃n,a.cell ⟨c,4,none⟩=some (Value.pointer n)∧
 c∈d∧∃o,a.cell ⟨c,10,none⟩=some (Value.int .i64 o)∧
 ∃p,a.cell ⟨c,4,none⟩=some (Value.pointer p)∧
 e∈d∧∃r,a.cell ⟨e,5,none⟩=some (Value.int .i64 r)∧
 FnW Tryz.prog Zjl ⟨[(Value.pointer p)]⟩ a fun y h=>
 ∃q,y=Value.int .u32 q∧
 Zb d a h∧FnW Tryz.prog Zjo ⟨[(Value.pointer n),(Value.int .i64 o),(Value.int .u32 q),(Value.int .i64 r)]⟩ h fun A f=>
 ∃s,∃z:Int,A=(Value.tuple ⟨[(Value.int .i64 s),(Value.int .i64 z)]⟩)∧
 Zb d a f∧IfB (decide (s>0))
 (Zsb c e true f g)
 (∃t,f.cell ⟨c,8,none⟩=some (Value.bool t)∧
 Zsb c e (!t) f g))
 (∃j,a.cell ⟨e,3,none⟩=some (Value.int .u32 j)∧
 ∃k,a.cell ⟨c,4,none⟩=some (Value.pointer k)∧
 NilP k fun v=>
 ∃l,a.cell v=some (Value.int .u32 l)∧
 FnW Tryz.prog Zwk ⟨[(Value.int .u32 j),(Value.int .u32 l)]⟩ a fun w i=>
 ∃m,w=Value.bool m∧
 IfB (!m)
 (g (Value.bool false) i)
 (g (Value.bool true) i))
def Zbjz (c:Nat) (B C D E F G H I:Int) (J:Option Addr) (L K:Nat) (z:Heap) (g:Value->Heap->Prop):Prop:=
 NewW z (Obj.cells ⟨[(Value.int .i64 B),(Value.int .i64 C),(Value.int .u32 D),(Value.int .u32 E),(Value.int .i64 F),(Value.int .i64 G),(Value.int .i64 H),(Value.int .i64 I),(Value.slice J L K)]⟩ Zq) fun d e=>
 ∃f:List Nat,(∀b∈f,∃h,e b=some h)∧
 ∃l,e.cell ⟨c,4,none⟩=some (Value.pointer l)∧
 NilP l fun M=>
 ∃m,e.cell M=some (Value.int .u32 m)∧
 ∃n,e.cell ⟨d,3,none⟩=some (Value.int .u32 n)∧
 c∈f∧∃p,e.cell ⟨c,4,none⟩=some (Value.pointer p)∧
 NilP p fun i=>
 i.block∈f∧∃q,e.cell ⟨i.block,i.off+2,none⟩=some (Value.int .i64 q)∧
 FnW Tryz.prog Zgv ⟨[(Value.int .u32 m),(Value.int .u32 n)]⟩ e fun N a=>
 ∃o,N=Value.int .u32 o∧
 Zb f e a∧IfB (decide (((IntKind.wrap .u64 o):Int) <= (IntKind.wrap .u64 q)))
 (∃r,a.cell ⟨c,4,none⟩=some (Value.pointer r)∧
 ∃s,a.cell ⟨c,10,none⟩=some (Value.int .i64 s)∧
 ∃t,a.cell ⟨d,3,none⟩=some (Value.int .u32 t)∧
 ∃u,a.cell ⟨d,5,none⟩=some (Value.int .i64 u)∧
 FnW Tryz.prog Zjo ⟨[(Value.pointer r),(Value.int .i64 s),(Value.int .u32 t),(Value.int .i64 u)]⟩ a fun P j=>
 ∃v,∃O:Int,P=(Value.tuple ⟨[(Value.int .i64 v),(Value.int .i64 O)]⟩)∧
 IfB (decide (v>0))
 (FnW Tryz.prog Zjk ⟨[(Value.pointer (some ⟨c,0,none⟩))]⟩ j fun Q A=>
 Q=Value.tuple ⟨[]⟩∧
 Zgk c d A g)
 (Zgk c d j g))
 (∃f:List Nat,(∀b∈f,∃h,a b=some h)∧
 ∃w,a.cell ⟨c,7,none⟩=some (Value.bool w)∧
 IfB w
 (d∈f∧∃x,a.cell ⟨d,3,none⟩=some (Value.int .u32 x)∧
 FnW Tryz.prog Zpq ⟨[(Value.pointer (some ⟨c,0,none⟩))]⟩ a fun R k=>
 ∃y,R=Value.int .u32 y∧
 Zb f a k∧Zsa c d (x==y) k g)
 (Zsa c d false a g))
theorem Zccs (d:Nat) (e f g h i j k l:Int) (m:Option Addr) (o n:Nat) {a:Heap} {c:Value->Heap->Prop} (q:Zbjz d e f g h i j k l m o n a fun r p=>∀b,Shut a p b->c r b):FnW Tryz.prog Zwb ⟨[(Value.pointer (some ⟨d,0,none⟩)),(Value.agg ⟨[(Value.int .i64 e),(Value.int .i64 f),(Value.int .u32 g),(Value.int .u32 h),(Value.int .i64 i),(Value.int .i64 j),(Value.int .i64 k),(Value.int .i64 l),(Value.slice m o n)]⟩)]⟩ a c:=Zc Tryz.func146 ⟨[(1,[0,1,2,3,4,5,6,7,8,11,12,13,14,15,16,17,18,9,10,19],[23,26]),(5,[0,1,2,3,4,5,6,7,8,9,10],[55]),(6,[0,1,2,3,4,5,6,7,8,9,10,11,13,14,12,15,16,17,18,19,20],[64,68,75])],[],[],[]⟩ (by kernel_rfl) (by kernel_rfl) q
def Ztu (a:Nat) (j:Bool) (d:Heap) (c:Value->Heap->Prop):Prop:=
 IfB j
 (c (Value.tuple ⟨[]⟩) d)
 (Za d ⟨a,9,none⟩ (Value.bool true) fun b=>
 ∃e,b.cell ⟨a,0,none⟩=some (Value.int .i64 e)∧
 IfB (e==3)
 (Za b ⟨a,0,none⟩ (Value.int .i64 6) fun g=>
 c (Value.tuple ⟨[]⟩) g)
 (∃f,b.cell ⟨a,0,none⟩=some (Value.int .i64 f)∧
 IfB (f==4)
 (Za b ⟨a,0,none⟩ (Value.int .i64 7) fun h=>
 c (Value.tuple ⟨[]⟩) h)
 (FnW Tryz.prog Zpr ⟨[(Value.pointer (some ⟨a,0,none⟩))]⟩ b fun k i=>
 k=Value.tuple ⟨[]⟩∧
 c (Value.tuple ⟨[]⟩) i)))
def Ztt (g c:Nat) (H:Bool) (d:Heap) (h:Value->Heap->Prop):Prop:=
 IfB H
 (h (Value.tuple ⟨[]⟩) d)
 (∃j,d.cell ⟨g,5,none⟩=some (Value.pointer j)∧
 ∃k,d.cell ⟨c,2,none⟩=some (Value.int .u32 k)∧
 ∃l n m,d.cell ⟨c,8,none⟩=some (Value.slice l n m)∧
 FnW Tryz.prog Zwc ⟨[(Value.pointer j),(Value.int .u32 k),(Value.slice l n m)]⟩ d fun K a=>
 ∃I,∃J:Int,K=(Value.tuple ⟨[(Value.int .i64 I),(Value.int .i64 J)]⟩)∧
 ∃f:List Nat,(∀b∈f,∃G,a b=some G)∧
 ∃o,a.cell ⟨c,0,none⟩=some (Value.int .i64 o)∧∃p,a.cell ⟨c,1,none⟩=some (Value.int .i64 p)∧∃q,a.cell ⟨c,2,none⟩=some (Value.int .u32 q)∧∃r,a.cell ⟨c,3,none⟩=some (Value.int .u32 r)∧∃s,a.cell ⟨c,4,none⟩=some (Value.int .i64 s)∧∃t,a.cell ⟨c,5,none⟩=some (Value.int .i64 t)∧∃u,a.cell ⟨c,6,none⟩=some (Value.int .i64 u)∧∃v,a.cell ⟨c,7,none⟩=some (Value.int .i64 v)∧∃w y x,a.cell ⟨c,8,none⟩=some (Value.slice w y x)∧FnW Tryz.prog Zda ⟨[(Value.agg ⟨[(Value.int .i64 o),(Value.int .i64 p),(Value.int .u32 q),(Value.int .u32 r),(Value.int .i64 s),(Value.int .i64 t),(Value.int .i64 u),(Value.int .i64 v),(Value.slice w y x)]⟩),(Value.int .i64 1)]⟩ a fun L e=>
 ∃z,L=Value.bool z∧
 Zb f a e∧IfB (!z)
 (Ztu g true e h)
 (∃A,e.cell ⟨c,2,none⟩=some (Value.int .u32 A)∧
 ∃M B N,e.cell ⟨c,8,none⟩=some (Value.slice M B N)∧
 g∈f∧∃D,a.cell ⟨g,5,none⟩=some (Value.pointer D)∧
 NilP D fun E=>
 E.block∈f∧∃F,a.cell E=some (Value.int .u32 F)∧
 FnW Tryz.prog Zdg ⟨[(Value.int .u32 A),(Value.int .i64 (B:Int))]⟩ e fun O i=>
 ∃C,O=Value.int .u32 C∧
 Zb f a i∧Ztu g (C !=F) i h))
def Zbow (b:Nat) (h i j k l m n o:Int) (p:Option Addr) (r q:Nat) (g:Heap) (c:Value->Heap->Prop):Prop:=
 NewW g (Obj.cells ⟨[(Value.int .i64 h),(Value.int .i64 i),(Value.int .u32 j),(Value.int .u32 k),(Value.int .i64 l),(Value.int .i64 m),(Value.int .i64 n),(Value.int .i64 o),(Value.slice p r q)]⟩ Zq) fun d a=>
 ∃f,a.cell ⟨b,0,none⟩=some (Value.int .i64 f)∧
 IfB (decide (f<3))
 (Ztt b d true a c)
 (∃e,a.cell ⟨b,0,none⟩=some (Value.int .i64 e)∧
 Ztt b d (decide (e>5)) a c)
theorem Zchi (d:Nat) (e f g h i j k l:Int) (m:Option Addr) (o n:Nat) {a:Heap} {c:Value->Heap->Prop} (q:Zbow d e f g h i j k l m o n a fun r p=>∀b,Shut a p b->c r b):FnW Tryz.prog Zxu ⟨[(Value.pointer (some ⟨d,0,none⟩)),(Value.agg ⟨[(Value.int .i64 e),(Value.int .i64 f),(Value.int .u32 g),(Value.int .u32 h),(Value.int .i64 i),(Value.int .i64 j),(Value.int .i64 k),(Value.int .i64 l),(Value.slice m o n)]⟩)]⟩ a c:=Zc Tryz.func147 ⟨[(3,[0,1,2,3,4,5,6,7,8,10,11,12,13,14,15,16,9,17,18],[38,41])],[],[],[]⟩ (by kernel_rfl) (by kernel_rfl) q
def Zbcd (d e:Int) (f:Bool) (a:Heap) (b:Value->Heap->Prop):Prop:=
 IfB f
 (b (Value.tuple ⟨[(Value.pointer none),(Value.int .i64 2)]⟩) a)
 (NewW a (Obj.cells ⟨[(Value.int .u32 d),(Value.int .i64 e),(Value.slice none 0 0),(Value.slice none 0 0)]⟩ Zuz) fun g c=>
 b (Value.tuple ⟨[(Value.pointer (some ⟨g,0,none⟩)),(Value.int .i64 0)]⟩) c)
def Zbqf (d a:Int) (b:Heap) (c:Value->Heap->Prop):Prop:=
 IfB (decide (a<1))
 (Zbcd d a true b c)
 (Zbcd d a (decide (a>65535)) b c)
theorem Zcin (d e:Int) {a:Heap} {c:Value->Heap->Prop} (g:Zbqf d e a fun h f=>∀b,Shut a f b->c h b):FnW Tryz.prog Zye ⟨[(Value.int .u32 d),(Value.int .i64 e)]⟩ a c:=Zc Tryz.func148 ⟨[],[],[],[]⟩ (by kernel_rfl) (by kernel_rfl) g
def Zbkm (g h i j k l m n:Int) (o:Option Addr) (q p:Nat) (f:Heap) (b:Value->Heap->Prop):Prop:=
 NewW f (Obj.cells ⟨[(Value.int .i64 g),(Value.int .i64 h),(Value.int .u32 i),(Value.int .u32 j),(Value.int .i64 k),(Value.int .i64 l),(Value.int .i64 m),(Value.int .i64 n),(Value.slice o q p)]⟩ Zq) fun c a=>
 ∃d,a.cell ⟨c,7,none⟩=some (Value.int .i64 d)∧
 IfB (d==0)
 (b (Value.int .i64 536) a)
 (∃e,a.cell ⟨c,7,none⟩=some (Value.int .i64 e)∧
 b (Value.int .i64 (min 1460 e)) a)
theorem Zcdb (d e f g h i j k:Int) (l:Option Addr) (n m:Nat) {a:Heap} {c:Value->Heap->Prop} (p:Zbkm d e f g h i j k l n m a fun q o=>∀b,Shut a o b->c q b):FnW Tryz.prog Zwg ⟨[(Value.agg ⟨[(Value.int .i64 d),(Value.int .i64 e),(Value.int .u32 f),(Value.int .u32 g),(Value.int .i64 h),(Value.int .i64 i),(Value.int .i64 j),(Value.int .i64 k),(Value.slice l n m)]⟩)]⟩ a c:=Zc Tryz.func149 ⟨[],[],[],[]⟩ (by kernel_rfl) (by kernel_rfl) p
def Zbon (a b:Int) (c:Heap) (d:Value->Heap->Prop):Prop:=
 IfB (decide (b≥a))
 (d (Value.int .u32 (IntKind.wrap .u32 (b - a))) c)
 (d (Value.int .u32 (IntKind.wrap .u32 (IntKind.wrap .u64 ((IntKind.wrap .u64 (4294967296 - (IntKind.wrap .u64 a)))+(IntKind.wrap .u64 b))))) c)
theorem Zcha (d e:Int) {a:Heap} {c:Value->Heap->Prop} (g:Zbon d e a fun h f=>∀b,Shut a f b->c h b):FnW Tryz.prog Zgv ⟨[(Value.int .u32 d),(Value.int .u32 e)]⟩ a c:=Zc Tryz.func182 ⟨[],[],[],[]⟩ (by kernel_rfl) (by kernel_rfl) g
def Zbnb (a:Nat) (e:Int) (c:Heap) (d:Value->Heap->Prop):Prop:=
 ∃k,c.cell ⟨a,6,none⟩=some (Value.int .i64 k)∧
 IfB (decide (e<k))
 (d (Value.tuple ⟨[(Value.int .u32 0),(Value.slice none 0 0),(Value.int .i64 2)]⟩) c)
 (Za c ⟨a,6,none⟩ (Value.int .i64 e) fun b=>
 ∃f,b.cell ⟨a,5,none⟩=some (Value.int .i64 f)∧
 ∃q g r,b.cell ⟨a,1,none⟩=some (Value.slice q g r)∧
 ∃h,b.cell ⟨a,2,none⟩=some (Value.int .i64 h)∧
 ∃i,b.cell ⟨a,4,none⟩=some (Value.int .i64 i)∧
 ∃j,b.cell ⟨a,2,none⟩=some (Value.int .i64 j)∧
 IfB (decide (((min f (min (IntKind.wrap .i64 ((g:Int) - h)) (IntKind.wrap .i64 (i - j)))):Int) <= 0))
 (d (Value.tuple ⟨[(Value.int .u32 0),(Value.slice none 0 0),(Value.int .i64 5)]⟩) b)
 (FnW Tryz.prog Zbun ⟨[(Value.pointer (some ⟨a,0,none⟩)),(Value.int .i64 e),(Value.int .i64 (min f (min (IntKind.wrap .i64 ((g:Int) - h)) (IntKind.wrap .i64 (i - j)))))]⟩ b fun s p=>
 ∃l,∃(m:Option Addr) (o n:Nat),s=(Value.tuple ⟨[(Value.int .u32 l),(Value.slice m o n)]⟩)∧
 d (Value.tuple ⟨[(Value.int .u32 l),(Value.slice m o n),(Value.int .i64 0)]⟩) p))
theorem Zcfs (e:Nat) (d:Int) {a:Heap} {c:Value->Heap->Prop} (g:Zbnb e d a fun h f=>∀b,Shut a f b->c h b):FnW Tryz.prog Zxg ⟨[(Value.pointer (some ⟨e,0,none⟩)),(Value.int .i64 d)]⟩ a c:=Zc Tryz.func184 ⟨[],[],[],[]⟩ (by kernel_rfl) (by kernel_rfl) g
def Zbnc (d:Nat) (C:Heap) (N:Value->Heap->Prop):Prop:=
 NewW C (Obj.cells ⟨[(Value.int .i64 0),(Value.int .i64 0),(Value.int .u32 0),(Value.int .u32 0),(Value.int .i64 0),(Value.int .i64 0),(Value.int .i64 0),(Value.int .i64 0),(Value.slice none 0 0)]⟩ Zq) fun a c=>
 ∃p,c.cell ⟨d,4,none⟩=some (Value.pointer p)∧
 FnW Tryz.prog Zjl ⟨[(Value.pointer p)]⟩ c fun O F=>
 ∃q,O=Value.int .u32 q∧
 FnW Tryz.prog Zjw ⟨[(Value.pointer (some ⟨d,0,none⟩)),(Value.int .u32 q),(Value.int .i64 17),(Value.slice none 0 0)]⟩ F fun P G=>
 ∃r,∃s:Int,∃t:Int,∃u:Int,∃v:Int,∃w:Int,∃x:Int,∃y:Int,∃(z:Option Addr) (B A:Nat),P=(Value.agg ⟨[(Value.int .i64 r),(Value.int .i64 s),(Value.int .u32 t),(Value.int .u32 u),(Value.int .i64 v),(Value.int .i64 w),(Value.int .i64 x),(Value.int .i64 y),(Value.slice z B A)]⟩)∧
 Za G ⟨a,0,none⟩ (Value.int .i64 r) fun H=>
 Za H ⟨a,1,none⟩ (Value.int .i64 s) fun I=>
 Za I ⟨a,2,none⟩ (Value.int .u32 t) fun J=>
 Za J ⟨a,3,none⟩ (Value.int .u32 u) fun K=>
 Za K ⟨a,4,none⟩ (Value.int .i64 v) fun L=>
 Za L ⟨a,5,none⟩ (Value.int .i64 w) fun M=>
 Za M ⟨a,6,none⟩ (Value.int .i64 x) fun D=>
 Za D ⟨a,7,none⟩ (Value.int .i64 y) fun E=>
 Za E ⟨a,8,none⟩ (Value.slice z B A) fun b=>
 ∃e,b.cell ⟨a,0,none⟩=some (Value.int .i64 e)∧∃f,b.cell ⟨a,1,none⟩=some (Value.int .i64 f)∧∃g,b.cell ⟨a,2,none⟩=some (Value.int .u32 g)∧∃h,b.cell ⟨a,3,none⟩=some (Value.int .u32 h)∧∃i,b.cell ⟨a,4,none⟩=some (Value.int .i64 i)∧∃j,b.cell ⟨a,5,none⟩=some (Value.int .i64 j)∧∃k,b.cell ⟨a,6,none⟩=some (Value.int .i64 k)∧∃l,b.cell ⟨a,7,none⟩=some (Value.int .i64 l)∧∃m o n,b.cell ⟨a,8,none⟩=some (Value.slice m o n)∧N (Value.agg ⟨[(Value.int .i64 e),(Value.int .i64 f),(Value.int .u32 g),(Value.int .u32 h),(Value.int .i64 i),(Value.int .i64 j),(Value.int .i64 k),(Value.int .i64 l),(Value.slice m o n)]⟩) b
theorem Zcft (d:Nat) {a:Heap} {c:Value->Heap->Prop} (f:Zbnc d a fun g e=>∀b,Shut a e b->c g b):FnW Tryz.prog Zxh ⟨[(Value.pointer (some ⟨d,0,none⟩))]⟩ a c:=Zc Tryz.func185 ⟨[],[],[],[]⟩ (by kernel_rfl) (by kernel_rfl) f
def Zbmc (b:Nat) (a:Heap) (c:Value->Heap->Prop):Prop:=
 ∃i,a.cell ⟨b,7,none⟩=some (Value.bool i)∧
 IfB i
 (∃d,a.cell ⟨b,4,none⟩=some (Value.pointer d)∧
 FnW Tryz.prog Zjl ⟨[(Value.pointer d)]⟩ a fun m j=>
 ∃e,m=Value.int .u32 e∧
 FnW Tryz.prog Zdg ⟨[(Value.int .u32 e),(Value.int .i64 1)]⟩ j fun n k=>
 ∃f,n=Value.int .u32 f∧
 c (Value.int .u32 f) k)
 (∃g,a.cell ⟨b,4,none⟩=some (Value.pointer g)∧
 FnW Tryz.prog Zjl ⟨[(Value.pointer g)]⟩ a fun o l=>
 ∃h,o=Value.int .u32 h∧
 c (Value.int .u32 h) l)
theorem Zceu (d:Nat) {a:Heap} {c:Value->Heap->Prop} (f:Zbmc d a fun g e=>∀b,Shut a e b->c g b):FnW Tryz.prog Zpq ⟨[(Value.pointer (some ⟨d,0,none⟩))]⟩ a c:=Zc Tryz.func186 ⟨[],[],[],[]⟩ (by kernel_rfl) (by kernel_rfl) f
def Zblg (d c:Int) (a:Heap) (b:Value->Heap->Prop):Prop:=
 IfB (decide (d≥0))
 (IfB (decide (d <= 65535))
 (IfB (decide (c≥0))
 (b (Value.bool (decide (c <= 1073741824))) a)
 (b (Value.bool false) a))
 (b (Value.bool false) a))
 (b (Value.bool false) a)
theorem Zcdt (e d:Int) {a:Heap} {c:Value->Heap->Prop} (g:Zblg e d a fun h f=>∀b,Shut a f b->c h b):FnW Tryz.prog Zwj ⟨[(Value.int .i64 e),(Value.int .i64 d)]⟩ a c:=Zc Tryz.func187 ⟨[],[],[],[]⟩ (by kernel_rfl) (by kernel_rfl) g
def Zbqq (f g c:Int) (a:Heap) (b:Value->Heap->Prop):Prop:=
 IfB (decide (c≥0))
 (IfB (decide (c <= 65535))
 (FnW Tryz.prog Zgv ⟨[(Value.int .u32 g),(Value.int .u32 f)]⟩ a fun h e=>
 ∃d,h=Value.int .u32 d∧
 b (Value.bool (decide (((IntKind.wrap .u64 d):Int)<(IntKind.wrap .u64 c)))) e)
 (b (Value.bool false) a))
 (b (Value.bool false) a)
theorem Zciu (d e f:Int) {a:Heap} {c:Value->Heap->Prop} (h:Zbqq d e f a fun i g=>∀b,Shut a g b->c i b):FnW Tryz.prog Zmh ⟨[(Value.int .u32 d),(Value.int .u32 e),(Value.int .i64 f)]⟩ a c:=Zc Tryz.func188 ⟨[],[],[],[]⟩ (by kernel_rfl) (by kernel_rfl) h
def Zbkn (b:Nat) (a:Heap) (g:Value->Heap->Prop):Prop:=
 ∃e,a.cell ⟨b,0,none⟩=some (Value.int .u32 e)∧
 ∃c,a.cell ⟨b,2,none⟩=some (Value.int .i64 c)∧
 FnW Tryz.prog Zdg ⟨[(Value.int .u32 e),(Value.int .i64 c)]⟩ a fun h f=>
 ∃d,h=Value.int .u32 d∧
 g (Value.int .u32 d) f
theorem Zcdc (d:Nat) {a:Heap} {c:Value->Heap->Prop} (f:Zbkn d a fun g e=>∀b,Shut a e b->c g b):FnW Tryz.prog Zjl ⟨[(Value.pointer (some ⟨d,0,none⟩))]⟩ a c:=Zc Tryz.func189 ⟨[],[],[],[]⟩ (by kernel_rfl) (by kernel_rfl) f
def Zbmd (a:Nat) (b:Heap) (f:Value->Heap->Prop):Prop:=
 ∃c,b.cell ⟨a,10,none⟩=some (Value.int .i64 c)∧
 Za b ⟨a,0,none⟩ (Value.int .i64 9) fun d=>
 Za d ⟨a,11,none⟩ (Value.int .i64 (IntKind.wrap .i64 (c+120))) fun e=>
 f (Value.tuple ⟨[]⟩) e
theorem Zcev (d:Nat) {a:Heap} {c:Value->Heap->Prop} (f:Zbmd d a fun g e=>∀b,Shut a e b->c g b):FnW Tryz.prog Zpr ⟨[(Value.pointer (some ⟨d,0,none⟩))]⟩ a c:=Zc Tryz.func190 ⟨[],[],[],[]⟩ (by kernel_rfl) (by kernel_rfl) f
def Zblh (e f:Int) (d:Heap) (c:Value->Heap->Prop):Prop:=
 FnW Tryz.prog Zgv ⟨[(Value.int .u32 e),(Value.int .u32 f)]⟩ d fun g b=>
 ∃a,g=Value.int .u32 a∧
 IfB (decide (a≥1))
 (c (Value.bool (decide (a <= 2147483647))) b)
 (c (Value.bool false) b)
theorem Zcdv (d e:Int) {a:Heap} {c:Value->Heap->Prop} (g:Zblh d e a fun h f=>∀b,Shut a f b->c h b):FnW Tryz.prog Zwk ⟨[(Value.int .u32 d),(Value.int .u32 e)]⟩ a c:=Zc Tryz.func191 ⟨[],[],[],[]⟩ (by kernel_rfl) (by kernel_rfl) g
def Zne (i:Nat) (e:Int) (f:Option Addr) (h g:Nat) (j b:Int) (c:(Int×Unit)->Heap->Prop) (a:Heap) (d:Value->Heap->Prop):Prop:=
 c ((IntKind.wrap .i64 (b+1)),()) a
def Zse (h:Nat) (i b:Int) (k:(Int×Unit)->Heap->Prop) (j:(Int×Int×Unit)->Heap->Prop) (f:((Option Addr×Nat×Nat)×Int×Unit)->Heap->Prop) (c:Option Addr) (e d:Nat) (a:Heap) (g:Value->Heap->Prop):Prop:=
 f ((c,e,d),((IntKind.wrap .i64 (b+1)),())) a
def Zbkp (b:Nat) (d:Int) (l:(Int×Unit)->Heap->Prop) (j:(Int×Int×Unit)->Heap->Prop) (f:Option Addr) (h g:Nat) (c:Int) (a:Heap) (k:((Option Addr×Nat×Nat)×Int×Unit)->Heap->Prop) (e:Value->Heap->Prop):Prop:=
 ∃G m H,a.cell ⟨b,3,none⟩=some (Value.slice G m H)∧
 IfB (decide (c<(m:Int)))
 (∃n o I,a.cell ⟨b,3,none⟩=some (Value.slice n o I)∧
 NilP n fun L=>
 InB c o fun J=>
 elemAt L J 2 fun K=>
 ∃p,a.cell K=some (Value.int .i64 p)∧
 IfB (decide (p≥d))
 (∃q r M,a.cell ⟨b,3,none⟩=some (Value.slice q r M)∧
 NilP q fun P=>
 InB c r fun N=>
 elemAt P N 2 fun O=>
 ∃s,a.cell O=some (Value.int .i64 s)∧
 ∃t u Q,a.cell ⟨b,3,none⟩=some (Value.slice t u Q)∧
 NilP t fun S=>
 InB c u fun R=>
 elemAt S R 2 fun v=>
 ∃w,a.cell ⟨v.block,v.off+1,none⟩=some (Value.int .u8 w)∧
 NewW a (Obj.cells ⟨[(Value.int .i64 (IntKind.wrap .i64 (s - d))),(Value.int .u8 w)]⟩ Zle) fun T C=>
 AppW Tryz.prog #[Zht,Zht] Zht [(Value.slice f h g),(Value.slice (some ⟨T,0,none⟩) 1 1)] C fun U D=>
 ∃x z y,U=Value.slice x z y∧
 Zse b d c l j k x z y D e)
 (Zse b d c l j k f h g a e))
 (Za a ⟨b,3,none⟩ (Value.slice f h g) fun i=>
 ∃A,i.cell ⟨b,0,none⟩=some (Value.int .u32 A)∧
 FnW Tryz.prog Zdg ⟨[(Value.int .u32 A),(Value.int .i64 d)]⟩ i fun V E=>
 ∃B,V=Value.int .u32 B∧
 Za E ⟨b,0,none⟩ (Value.int .u32 B) fun F=>
 e (Value.tuple ⟨[(Value.int .i64 d),(Value.int .i64 0)]⟩) F)
def Zsd (f:Nat) (g:Int) (j:(Int×Unit)->Heap->Prop) (i:(Int×Int×Unit)->Heap->Prop) (c:Heap) (e:Value->Heap->Prop):Prop:=
 NewW c (Obj.cells ⟨[]⟩ Zle) fun k d=>
 Zbk ((Option Addr×Nat×Nat)×Int×Unit) (((some ⟨k,0,none⟩),0,0),(0,())) d fun a b h=>∀l:Env,Zbkp f g j i a.1.1 a.1.2.1 a.1.2.2 a.2.1 b h e
def Zbko (a:Nat) (y:Int) (i:(Int×Unit)->Heap->Prop) (b h:Int) (d:Heap) (c:(Int×Int×Unit)->Heap->Prop) (g:Value->Heap->Prop):Prop:=
 IfB (decide (h <= y))
 (FnW Tryz.prog Zqa ⟨[(Value.pointer (some ⟨a,0,none⟩)),(Value.int .i64 b)]⟩ d fun z e=>
 ∃j,∃k:Bool,z=(Value.tuple ⟨[(Value.int .u8 j),(Value.bool k)]⟩)∧
 IfB (!k)
 (Zsd a b i c e g)
 (NewW e (Obj.cells ⟨[]⟩ Zh) fun A f=>
 ∃l n m,f.cell ⟨a,2,none⟩=some (Value.slice l n m)∧
 AppW Tryz.prog #[Zd,Zd] Zd [(Value.slice (some ⟨A,0,none⟩) 0 0),(Value.slice l n m)] f fun B u=>
 ∃o q p,B=Value.slice o q p∧
 NewW u (Obj.cells ⟨[(Value.int .u8 j)]⟩ Zh) fun C v=>
 AppW Tryz.prog #[Zd,Zd] Zd [(Value.slice o q p),(Value.slice (some ⟨C,0,none⟩) 1 1)] v fun D w=>
 ∃r t s,D=Value.slice r t s∧
 Za w ⟨a,2,none⟩ (Value.slice r t s) fun x=>
 c ((IntKind.wrap .i64 (b+1)),((IntKind.wrap .i64 (h+1)),())) x))
 (Zsd a b i c d g)
def Zbkq (a:Nat) (i:Int) (j:Option Addr) (e m:Nat) (f c:Int) (d:Heap) (k:(Int×Unit)->Heap->Prop) (h:Value->Heap->Prop):Prop:=
 IfB (decide (c<(e:Int)))
 (∃n:List Nat,(∀b∈n,∃G,d b=some G)∧
 a∈n∧∃r,d.cell ⟨a,0,none⟩=some (Value.int .u32 r)∧
 FnW Tryz.prog Zdg ⟨[(Value.int .u32 i),(Value.int .i64 c)]⟩ d fun H o=>
 ∃s,H=Value.int .u32 s∧
 Zb n d o∧FnW Tryz.prog Zgv ⟨[(Value.int .u32 r),(Value.int .u32 s)]⟩ o fun I p=>
 ∃l,I=Value.int .u32 l∧
 IfB (decide (((IntKind.wrap .u64 l):Int)≥(IntKind.wrap .u64 f)))
 (Zne a i j e m f c k p h)
 (FnW Tryz.prog Zqa ⟨[(Value.pointer (some ⟨a,0,none⟩)),(Value.int .i64 (IntKind.wrap .i64 l))]⟩ p fun K g=>
 ∃J,∃t:Bool,K=(Value.tuple ⟨[(Value.int .u8 J),(Value.bool t)]⟩)∧
 IfB (!t)
 (∃u w v,g.cell ⟨a,3,none⟩=some (Value.slice u w v)∧
 NilP j fun N=>
 InB c e fun L=>
 elemAt N L 1 fun M=>
 ∃x,g.cell M=some (Value.int .u8 x)∧
 NewW g (Obj.cells ⟨[(Value.int .i64 (IntKind.wrap .i64 l)),(Value.int .u8 x)]⟩ Zle) fun O C=>
 AppW Tryz.prog #[Zht,Zht] Zht [(Value.slice u w v),(Value.slice (some ⟨O,0,none⟩) 1 1)] C fun P D=>
 ∃y A z,P=Value.slice y A z∧
 Za D ⟨a,3,none⟩ (Value.slice y A z) fun E=>
 Zne a i j e m f c k E h)
 (Zne a i j e m f c k g h)))
 (Zbk (Int×Int×Unit) (0,(0,())) d fun q B F=>∀Q:Env,Zbko a f k q.1 q.2.1 B F h)
def Zbkr (d:Nat) (g:Int) (h:Option Addr) (c i:Nat) (a:Heap) (b:Value->Heap->Prop):Prop:=
 IfB (decide (((c:Int):Int)>65536))
 (b (Value.tuple ⟨[(Value.int .i64 0),(Value.int .i64 3)]⟩) a)
 (FnW Tryz.prog Zmg ⟨[(Value.pointer (some ⟨d,0,none⟩))]⟩ a fun l f=>
 ∃e,l=Value.int .i64 e∧
 Zbk (Int×Unit) (0,()) f fun k a j=>∀m:Env,Zbkq d g h c i e k.1 a j b)
theorem Zcde (h:Nat) (d:Int) (e:Option Addr) (g f:Nat) {a:Heap} {c:Value->Heap->Prop} (j:Zbkr h d e g f a fun k i=>∀b,Shut a i b->c k b):FnW Tryz.prog Zwc ⟨[(Value.pointer (some ⟨h,0,none⟩)),(Value.int .u32 d),(Value.slice e g f)]⟩ a c:=Zc Tryz.func192 ⟨[(7,[0,1,2,3,4,5,6,7,8],[33])],[(5,[9],[.int .i64],[0,1,2,8]),(14,[13,14],[.int .i64,.int .i64],[0,8]),(22,[17,18],[.slice,.int .i64],[0,13])],[],[]⟩ (by kernel_rfl) (by kernel_rfl) j
def Zbqh (c:Nat) (m b:Int) (a:Heap) (n:(Int×Unit)->Heap->Prop) (d:Value->Heap->Prop):Prop:=
 ∃o e p,a.cell ⟨c,3,none⟩=some (Value.slice o e p)∧
 IfB (decide (b<(e:Int)))
 (∃f g q,a.cell ⟨c,3,none⟩=some (Value.slice f g q)∧
 NilP f fun t=>
 InB b g fun r=>
 elemAt t r 2 fun s=>
 ∃h,a.cell s=some (Value.int .i64 h)∧
 IfB (h==m)
 (∃i j u,a.cell ⟨c,3,none⟩=some (Value.slice i j u)∧
 NilP i fun w=>
 InB b j fun v=>
 elemAt w v 2 fun k=>
 ∃l,a.cell ⟨k.block,k.off+1,none⟩=some (Value.int .u8 l)∧
 d (Value.tuple ⟨[(Value.int .u8 l),(Value.bool true)]⟩) a)
 (n ((IntKind.wrap .i64 (b+1)),()) a))
 (d (Value.tuple ⟨[(Value.int .u8 0),(Value.bool false)]⟩) a)
def Zbqi (d:Nat) (c:Int) (a:Heap) (b:Value->Heap->Prop):Prop:=
 Zbk (Int×Unit) (0,()) a fun f a e=>∀g:Env,Zbqh d c f.1 a e b
theorem Zcio (e:Nat) (d:Int) {a:Heap} {c:Value->Heap->Prop} (g:Zbqi e d a fun h f=>∀b,Shut a f b->c h b):FnW Tryz.prog Zqa ⟨[(Value.pointer (some ⟨e,0,none⟩)),(Value.int .i64 d)]⟩ a c:=Zc Tryz.func217 ⟨[],[(2,[6],[.int .i64],[0,1])],[],[]⟩ (by kernel_rfl) (by kernel_rfl) g
end Go.Proofs.YtaljkjokbdpdoaaGreat
end
