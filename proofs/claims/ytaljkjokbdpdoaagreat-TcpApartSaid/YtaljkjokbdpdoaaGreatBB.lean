/-
  SOME FUNCTIONS IN PLAIN LOGIC:printed by a program of ours over this translation.
-/
import Derived.Test.YtaljkjokbdpdoaaGreatBA
import Derived.Test.YtaljkjokbdpdoaaGreatRows
set_option linter.all false
section
set_option maxRecDepth 100000
namespace Go.Proofs.YtaljkjokbdpdoaaGreat
open Go.Sh
def Ziq (e:Option Addr) (g f:Nat) (h i:Option Addr) (j:Nat) (b:Int) (c:(Int×Unit)->Heap->Prop) (a:Heap) (d:Value->Heap->Prop):Prop:=
 c ((IntKind.wrap .i64 (b+1)),()) a
def Zbbq (f:Option Addr) (h g:Nat) (n o:Option Addr) (p:Nat) (i:Int) (q:Option Addr) (s r:Nat) (k:Option Addr) (m l:Nat) (c:Int) (j d:(Int×Unit)->Heap->Prop) (e:Bool) (a:Heap) (b:Value->Heap->Prop):Prop:=
 IfB e
 (b (Value.bool false) a)
 (d ((IntKind.wrap .i64 (c+1)),()) a)
def Zbne (h:Option Addr) (j i:Nat) (m n:Option Addr) (o:Nat) (k:Int) (f:Option Addr) (c C:Nat) (d:Option Addr) (e q:Nat) (l:(Int×Unit)->Heap->Prop) (b:Int) (a:Heap) (p:(Int×Unit)->Heap->Prop) (g:Value->Heap->Prop):Prop:=
 IfB (decide (b<(c:Int)))
 (NilP f fun G=>
 InB b c fun E=>
 elemAt G E 2 fun F=>
 ∃r,a.cell F=some (Value.int .u32 r)∧
 NilP d fun J=>
 InB b e fun H=>
 elemAt J H 2 fun I=>
 ∃s,a.cell I=some (Value.int .u32 s)∧
 IfB (r !=s)
 (Zbbq h j i m n o k f c C d e q b l p true a g)
 (NilP f fun L=>
 InB b c fun K=>
 elemAt L K 2 fun t=>
 ∃u w v,a.cell ⟨t.block,t.off+1,none⟩=some (Value.slice u w v)∧
 NilP d fun N=>
 InB b e fun M=>
 elemAt N M 2 fun x=>
 ∃y A z,a.cell ⟨x.block,x.off+1,none⟩=some (Value.slice y A z)∧
 FnW Tryz.prog Zxa ⟨[(Value.slice u w v),(Value.slice y A z)]⟩ a fun O D=>
 ∃B,O=Value.bool B∧
 Zbbq h j i m n o k f c C d e q b l p (!B) D g))
 (Ziq h j i m n o k l a g)
def Zkw (d:Option Addr) (f e:Nat) (o p:Option Addr) (q:Nat) (g:Int) (r:Option Addr) (t s:Nat) (k:Option Addr) (m l:Nat) (i:(Int×Unit)->Heap->Prop) (n:Bool) (a:Heap) (b:Value->Heap->Prop):Prop:=
 IfB n
 (b (Value.bool false) a)
 (Zbk (Int×Unit) (0,()) a fun j c h=>∀u:Env,Zbne d f e o p q g r t s k m l i j.1 c h b)
def Zip (j:Option Addr) (l k:Nat) (d e:Option Addr) (f:Nat) (n:Int) (c:Nat) (o:(Int×Unit)->Heap->Prop) (c1:Bool) (a:Heap) (i:Value->Heap->Prop):Prop:=
 IfB c1
 (∃m:List Nat,(∀b∈m,∃b5,a b=some b5)∧
 c∈m∧∃E,a.cell ⟨c,4,none⟩=some (Value.int .u32 E)∧
 c∈m∧∃F,a.cell ⟨c,8,none⟩=some (Value.int .u32 F)∧
 ∃G,a.cell ⟨c,10,none⟩=some (Value.int .i64 G)∧
 FnW Tryz.prog Zji ⟨[(Value.int .i64 G),(Value.int .i64 64)]⟩ a fun c2 z=>
 ∃H,c2=Value.int .i64 H∧
 Zb m a z∧FnW Tryz.prog Zjp ⟨[(Value.int .u32 E),(Value.int .u32 1),(Value.agg ⟨[(Value.int .i64 5),(Value.int .i64 6),(Value.int .u32 F),(Value.int .u32 0),(Value.int .i64 H),(Value.int .i64 0),(Value.int .i64 0),(Value.int .i64 0),(Value.slice none 0 0)]⟩)]⟩ z fun c4 y=>
 ∃I K J,∃c3:Int,c4=(Value.tuple ⟨[(Value.slice I K J),(Value.int .i64 c3)]⟩)∧
 Zb m a y∧∃L,y.cell ⟨c,4,none⟩=some (Value.int .u32 L)∧
 FnW Tryz.prog Zib ⟨[(Value.pointer d),(Value.int .i64 0),(Value.int .u32 L),(Value.slice I K J)]⟩ y fun d2 a9=>
 ∃c5 c7 c6,∃(c8:Option Addr) (d0 c9:Nat),∃d1:Int,d2=(Value.tuple ⟨[(Value.slice c5 c7 c6),(Value.slice c8 d0 c9),(Value.int .i64 d1)]⟩)∧
 Ziq j l k d e f n o a9 i)
 (∃M,a.cell ⟨c,0,none⟩=some (Value.int .i64 M)∧∃N,a.cell ⟨c,1,none⟩=some (Value.int .i64 N)∧∃X,a.cell ⟨c,2,none⟩=some (Value.int .i64 X)∧∃Y,a.cell ⟨c,3,none⟩=some (Value.int .i64 Y)∧∃Z,a.cell ⟨c,4,none⟩=some (Value.int .u32 Z)∧∃a0 a2 a1,a.cell ⟨c,5,none⟩=some (Value.slice a0 a2 a1)∧∃a3,a.cell ⟨c,6,none⟩=some (Value.int .i64 a3)∧∃a4,a.cell ⟨c,7,none⟩=some (Value.int .i64 a4)∧∃a5,a.cell ⟨c,8,none⟩=some (Value.int .u32 a5)∧∃a6,a.cell ⟨c,9,none⟩=some (Value.int .u32 a6)∧∃O,a.cell ⟨c,10,none⟩=some (Value.int .i64 O)∧∃P,a.cell ⟨c,11,none⟩=some (Value.int .i64 P)∧∃Q,a.cell ⟨c,12,none⟩=some (Value.int .i64 Q)∧∃R,a.cell ⟨c,13,none⟩=some (Value.int .i64 R)∧∃S U T,a.cell ⟨c,14,none⟩=some (Value.slice S U T)∧∃V,a.cell ⟨c,15,none⟩=some (Value.bool V)∧∃W,a.cell ⟨c,16,none⟩=some (Value.bool W)∧FnW Tryz.prog Zpu ⟨[(Value.pointer (some ⟨f,0,none⟩)),(Value.agg ⟨[(Value.int .i64 M),(Value.int .i64 N),(Value.int .i64 X),(Value.int .i64 Y),(Value.int .u32 Z),(Value.slice a0 a2 a1),(Value.int .i64 a3),(Value.int .i64 a4),(Value.int .u32 a5),(Value.int .u32 a6),(Value.int .i64 O),(Value.int .i64 P),(Value.int .i64 Q),(Value.int .i64 R),(Value.slice S U T),(Value.bool V),(Value.bool W)]⟩)]⟩ a fun d3 b0=>
 ∃u,∃(v:Option Addr) (x w:Nat),d3=(Value.tuple ⟨[(Value.int .u32 u),(Value.slice v x w)]⟩)∧
 FnW Tryz.prog Zpt ⟨[(Value.pointer (some ⟨f,0,none⟩)),(Value.int .i64 0),(Value.int .u32 u),(Value.slice v x w)]⟩ b0 fun e1 b1=>
 ∃d4 d6 d5,∃(d7:Option Addr) (d9 d8:Nat),∃e0:Int,e1=(Value.tuple ⟨[(Value.slice d4 d6 d5),(Value.slice d7 d9 d8),(Value.int .i64 e0)]⟩)∧
 FnW Tryz.prog Zib ⟨[(Value.pointer d),(Value.int .i64 0),(Value.int .u32 u),(Value.slice v x w)]⟩ b1 fun e4 b2=>
 ∃r h s,∃(e2:Option Addr) (a7 e3:Nat),∃a8:Int,e4=(Value.tuple ⟨[(Value.slice r h s),(Value.slice e2 a7 e3),(Value.int .i64 a8)]⟩)∧
 FnW Tryz.prog Zib ⟨[(Value.pointer e),(Value.int .i64 0),(Value.int .u32 u),(Value.slice v x w)]⟩ b2 fun b8 t=>
 ∃p g q,∃(b6:Option Addr) (A b7:Nat),∃B:Int,b8=(Value.tuple ⟨[(Value.slice p g q),(Value.slice b6 A b7),(Value.int .i64 B)]⟩)∧
 IfB (((h:Int):Int) !=(g:Int))
 (Zkw j l k d e f n r h s p g q o true t i)
 (IfB (((a7:Int):Int) !=(A:Int))
 (Zkw j l k d e f n r h s p g q o true t i)
 (IfB (a8 !=B)
 (Zkw j l k d e f n r h s p g q o true t i)
 (FnW Tryz.prog Zjs ⟨[(Value.pointer d),(Value.int .i64 1)]⟩ t fun b9 b3=>
 ∃C,b9=Value.int .i64 C∧
 FnW Tryz.prog Zjs ⟨[(Value.pointer e),(Value.int .i64 1)]⟩ b3 fun c0 b4=>
 ∃D,c0=Value.int .i64 D∧
 Zkw j l k d e f n r h s p g q o (C !=D) b4 i))))
def Zkv (f:Option Addr) (g j:Nat) (l m:Option Addr) (n:Nat) (h:Int) (k:(Int×Unit)->Heap->Prop) (a6:Bool) (c:Heap) (e:Value->Heap->Prop):Prop:=
 IfB a6
 (NilP f fun a8=>
 InB h g fun a7=>
 elemAt a8 a7 17 fun a=>
 ∃o,c.cell a=some (Value.int .i64 o)∧∃p,c.cell ⟨a.block,a.off+1,none⟩=some (Value.int .i64 p)∧∃z,c.cell ⟨a.block,a.off+2,none⟩=some (Value.int .i64 z)∧∃A,c.cell ⟨a.block,a.off+3,none⟩=some (Value.int .i64 A)∧∃B,c.cell ⟨a.block,a.off+4,none⟩=some (Value.int .u32 B)∧∃C E D,c.cell ⟨a.block,a.off+5,none⟩=some (Value.slice C E D)∧∃F,c.cell ⟨a.block,a.off+6,none⟩=some (Value.int .i64 F)∧∃G,c.cell ⟨a.block,a.off+7,none⟩=some (Value.int .i64 G)∧∃H,c.cell ⟨a.block,a.off+8,none⟩=some (Value.int .u32 H)∧∃I,c.cell ⟨a.block,a.off+9,none⟩=some (Value.int .u32 I)∧∃q,c.cell ⟨a.block,a.off+10,none⟩=some (Value.int .i64 q)∧∃r,c.cell ⟨a.block,a.off+11,none⟩=some (Value.int .i64 r)∧∃s,c.cell ⟨a.block,a.off+12,none⟩=some (Value.int .i64 s)∧∃t,c.cell ⟨a.block,a.off+13,none⟩=some (Value.int .i64 t)∧∃u w v,c.cell ⟨a.block,a.off+14,none⟩=some (Value.slice u w v)∧∃x,c.cell ⟨a.block,a.off+15,none⟩=some (Value.bool x)∧∃y,c.cell ⟨a.block,a.off+16,none⟩=some (Value.bool y)∧NewW c (Obj.cells ⟨[(Value.int .i64 0),(Value.int .i64 0),(Value.int .i64 0),(Value.int .i64 0),(Value.int .u32 0),(Value.slice none 0 0),(Value.int .i64 0),(Value.int .i64 0),(Value.int .u32 0),(Value.int .u32 0),(Value.int .i64 0),(Value.int .i64 0),(Value.int .i64 0),(Value.int .i64 0),(Value.slice none 0 0),(Value.bool false),(Value.bool false)]⟩ Zey) fun b M=>
 Za M ⟨b,0,none⟩ (Value.int .i64 o) fun N=>
 Za N ⟨b,1,none⟩ (Value.int .i64 p) fun O=>
 Za O ⟨b,2,none⟩ (Value.int .i64 z) fun P=>
 Za P ⟨b,3,none⟩ (Value.int .i64 A) fun Q=>
 Za Q ⟨b,4,none⟩ (Value.int .u32 B) fun R=>
 Za R ⟨b,5,none⟩ (Value.slice C E D) fun S=>
 Za S ⟨b,6,none⟩ (Value.int .i64 F) fun T=>
 Za T ⟨b,7,none⟩ (Value.int .i64 G) fun U=>
 Za U ⟨b,8,none⟩ (Value.int .u32 H) fun V=>
 Za V ⟨b,9,none⟩ (Value.int .u32 I) fun W=>
 Za W ⟨b,10,none⟩ (Value.int .i64 q) fun X=>
 Za X ⟨b,11,none⟩ (Value.int .i64 r) fun Y=>
 Za Y ⟨b,12,none⟩ (Value.int .i64 s) fun Z=>
 Za Z ⟨b,13,none⟩ (Value.int .i64 t) fun a0=>
 Za a0 ⟨b,14,none⟩ (Value.slice u w v) fun a1=>
 Za a1 ⟨b,15,none⟩ (Value.bool x) fun a2=>
 Za a2 ⟨b,16,none⟩ (Value.bool y) fun a3=>
 Za a3 ⟨b,15,none⟩ (Value.bool true) fun a4=>
 Za a4 ⟨b,16,none⟩ (Value.bool true) fun a5=>
 Za a5 ⟨b,3,none⟩ (Value.int .i64 0) fun i=>
 ∃J,i.cell ⟨b,0,none⟩=some (Value.int .i64 J)∧
 FnW Tryz.prog Zji ⟨[(Value.int .i64 J),(Value.int .i64 2)]⟩ i fun a9 d=>
 ∃K,a9=Value.int .i64 K∧
 IfB (K==0)
 (∃L,d.cell ⟨b,4,none⟩=some (Value.int .u32 L)∧
 Zip f g j l m n h b k (L !=9) d e)
 (Zip f g j l m n h b k false d e))
 (e (Value.bool true) c)
def Zbnf (e:Option Addr) (b f:Nat) (h i:Option Addr) (j:Nat) (a:Int) (c:Heap) (g:(Int×Unit)->Heap->Prop) (d:Value->Heap->Prop):Prop:=
 IfB (decide (a<(b:Int)))
 (Zkv e b f h i j a g (decide (a<40)) c d)
 (Zkv e b f h i j a g false c d)
def Zbng (b:Int) (o:Option Addr) (q p:Nat) (a:Heap) (f:Value->Heap->Prop):Prop:=
 FnW Tryz.prog Zwz ⟨[]⟩ a fun t e=>
 ∃g,t=Value.bool g∧
 IfB (!g)
 (f (Value.bool false) e)
 (FnW Tryz.prog Zgu ⟨[(Value.int .u32 1),(Value.int .u32 b)]⟩ e fun u i=>
 ∃c,u=Value.pointer c∧
 FnW Tryz.prog Zgu ⟨[(Value.int .u32 1),(Value.int .u32 b)]⟩ i fun v j=>
 ∃d,v=Value.pointer d∧
 NewW j (Obj.cells ⟨[(Value.int .u32 1),(Value.int .u32 b),(Value.slice none 0 0),(Value.slice none 0 0),(Value.int .i64 0),(Value.int .i64 0)]⟩ Zlf) fun h k=>
 FnW Tryz.prog Zia ⟨[(Value.pointer c),(Value.int .i64 0),(Value.int .u32 9),(Value.int .i64 179)]⟩ k fun B l=>
 ∃w,∃(x:Option Addr) (z y:Nat),∃A:Int,B=(Value.tuple ⟨[(Value.int .i64 w),(Value.slice x z y),(Value.int .i64 A)]⟩)∧
 FnW Tryz.prog Zia ⟨[(Value.pointer d),(Value.int .i64 0),(Value.int .u32 9),(Value.int .i64 179)]⟩ l fun H m=>
 ∃C,∃(D:Option Addr) (F E:Nat),∃G:Int,H=(Value.tuple ⟨[(Value.int .i64 C),(Value.slice D F E),(Value.int .i64 G)]⟩)∧
 FnW Tryz.prog Zyl ⟨[(Value.pointer (some ⟨h,0,none⟩)),(Value.int .i64 0),(Value.int .u32 9),(Value.int .i64 179)]⟩ m fun N n=>
 ∃I,∃(J:Option Addr) (L K:Nat),∃M:Int,N=(Value.tuple ⟨[(Value.int .i64 I),(Value.slice J L K),(Value.int .i64 M)]⟩)∧
 Zbk (Int×Unit) (0,()) n fun s a r=>∀O:Env,Zbnf o q p c d h s.1 a r f)
theorem Zcgd (g:Int) (d:Option Addr) (f e:Nat) {a:Heap} {c:Value->Heap->Prop} (i:Zbng g d f e a fun j h=>∀b,Shut a h b->c j b):FnW Tryz.prog Zbeg ⟨[(Value.int .u32 g),(Value.slice d f e)]⟩ a c:=Zc Tryz.func3 ⟨[(14,[0,1,2,3,4,5,6,7,8,9,10,11,12,13,14,15],[64,67])],[(9,[8],[.int .i64],[1,5,6,7]),(23,[20],[.int .i64],[1,5,6,7,8,14,17])],[],[]⟩ (by kernel_rfl) (by kernel_rfl) i
def Zbms (I:Heap) (c:Value->Heap->Prop):Prop:=
 FnW Tryz.prog Zxb ⟨[(Value.int .u32 7),(Value.int .u32 8)]⟩ I fun b5 e=>
 ∃d,b5=Value.pointer d∧
 IfB d.isNone
 (c (Value.bool false) e)
 (∃f:List Nat,(∀b∈f,∃N,e b=some N)∧
 NilP d fun O=>
 InB 0 2 fun P=>
 elemAt O P 1 fun p=>
 p.block∈f∧∃q,e.cell p=some (Value.pointer q)∧
 FnW Tryz.prog Zie ⟨[(Value.int .i64 1)]⟩ e fun Q n=>
 ∃r,Q=Value.int .u32 r∧
 Zb f e n∧FnW Tryz.prog Zia ⟨[(Value.pointer q),(Value.int .i64 0),(Value.int .u32 r),(Value.int .i64 179)]⟩ n fun R o=>
 ∃s,∃(t:Option Addr) (v u:Nat),∃w:Int,R=(Value.tuple ⟨[(Value.int .i64 s),(Value.slice t v u),(Value.int .i64 w)]⟩)∧
 Zb f e o∧FnW Tryz.prog Zma ⟨[(Value.pointer d),(Value.int .i64 0),(Value.slice t v u)]⟩ o fun S J=>
 S=Value.tuple ⟨[]⟩∧
 FnW Tryz.prog Zgw ⟨[(Value.pointer d),(Value.int .i64 0),(Value.int .i64 1)]⟩ J fun W K=>
 ∃T V U,W=Value.slice T V U∧
 FnW Tryz.prog Zgw ⟨[(Value.pointer d),(Value.int .i64 0),(Value.int .i64 0)]⟩ K fun Y L=>
 ∃i g X,Y=Value.slice i g X∧
 FnW Tryz.prog Zgw ⟨[(Value.pointer d),(Value.int .i64 0),(Value.int .i64 1)]⟩ L fun a0 a=>
 ∃x j Z,a0=Value.slice x j Z∧
 IfB (s==1)
 (IfB (w==0)
 (IfB (((g:Int):Int)==1)
 (NilP i fun a2=>
 InB 0 g fun a1=>
 elemAt a2 a1 2 fun k=>
 ∃y,a.cell k=some (Value.int .i64 y)∧∃z,a.cell ⟨k.block,k.off+1,none⟩=some (Value.int .i64 z)∧Program.eqGuardType Tryz.prog (Program.depth Tryz.prog) Zbh=false∧
 IfB ((y==1)&&((z==1)&&true))
 (IfB (((j:Int):Int)==1)
 (NilP x fun a4=>
 InB 0 j fun a3=>
 elemAt a4 a3 2 fun l=>
 ∃A,a.cell l=some (Value.int .i64 A)∧∃B,a.cell ⟨l.block,l.off+1,none⟩=some (Value.int .i64 B)∧NilP i fun a6=>
 InB 0 g fun a5=>
 elemAt a6 a5 2 fun m=>
 ∃C,a.cell m=some (Value.int .i64 C)∧∃D,a.cell ⟨m.block,m.off+1,none⟩=some (Value.int .i64 D)∧Program.eqGuardType Tryz.prog (Program.depth Tryz.prog) Zbh=false∧
 IfB ((A==C)&&((B==D)&&true))
 (NilP d fun a7=>
 InB 0 2 fun a8=>
 elemAt a7 a8 1 fun a9=>
 ∃E,a.cell a9=some (Value.pointer E)∧
 FnW Tryz.prog Zjs ⟨[(Value.pointer E),(Value.int .i64 1)]⟩ a fun b0 h=>
 ∃F,b0=Value.int .i64 F∧
 IfB (F==3)
 (NilP d fun b1=>
 InB 1 2 fun b2=>
 elemAt b1 b2 1 fun b3=>
 ∃G,h.cell b3=some (Value.pointer G)∧
 FnW Tryz.prog Zjs ⟨[(Value.pointer G),(Value.int .i64 1)]⟩ h fun b4 M=>
 ∃H,b4=Value.int .i64 H∧
 c (Value.bool (H==3)) M)
 (c (Value.bool false) h))
 (c (Value.bool false) a))
 (c (Value.bool false) a))
 (c (Value.bool false) a))
 (c (Value.bool false) a))
 (c (Value.bool false) a))
 (c (Value.bool false) a))
theorem Zcfk {a:Heap} {c:Value->Heap->Prop} (e:Zbms a fun f d=>∀b,Shut a d b->c f b):FnW Tryz.prog Zwz ⟨[]⟩ a c:=Zc Tryz.func6 ⟨[(4,[0,1,2,3,4,5,6,7,8,9,10,11,12,13],[15])],[],[],[]⟩ (by kernel_rfl) (by kernel_rfl) e
def Zbil (f g:Int) (a:Heap) (e:Value->Heap->Prop):Prop:=
 MkW Tryz.prog Zfd a fun i b=>
 MkW Tryz.prog Zez b fun j c=>
 NewW c (Obj.cells ⟨[(Value.int .u32 f),(Value.int .u32 g),(Value.slice none 0 0),i,j,(Value.int .i64 0),(Value.int .i64 0)]⟩ Zvd) fun h d=>
 e (Value.pointer (some ⟨h,0,none⟩)) d
theorem Zcaz (d e:Int) {a:Heap} {c:Value->Heap->Prop} (g:Zbil d e a fun h f=>∀b,Shut a f b->c h b):FnW Tryz.prog Zgu ⟨[(Value.int .u32 d),(Value.int .u32 e)]⟩ a c:=Zc Tryz.func7 ⟨[],[],[],[]⟩ (by kernel_rfl) (by kernel_rfl) g
def Zbrc (c:Nat) (o p n:Int) (V:Heap) (d:Value->Heap->Prop):Prop:=
 FnW Tryz.prog Zpk ⟨[(Value.pointer (some ⟨c,0,none⟩)),(Value.int .i64 o)]⟩ V fun a2 k=>
 ∃q,a2=Value.int .i64 q∧
 IfB (q !=0)
 (d (Value.tuple ⟨[(Value.int .i64 0),(Value.slice none 0 0),(Value.int .i64 q)]⟩) k)
 (∃x,k.cell ⟨c,5,none⟩=some (Value.int .i64 x)∧
 (16384:Int)≠0∧
 NewW k (Obj.cells ⟨[(Value.int .u32 0),(Value.int .i64 0),(Value.int .i64 0)]⟩ Zeo) fun a X=>
 Za X ⟨a,0,none⟩ (Value.int .u32 p) fun Y=>
 Za Y ⟨a,1,none⟩ (Value.int .i64 n) fun Z=>
 Za Z ⟨a,2,none⟩ (Value.int .i64 (IntKind.wrap .i64 (49152+(Int.tmod (IntKind.wrap .i64 (x+1)) 16384)))) fun a0=>
 FnW Tryz.prog Zlv ⟨[(Value.int .i64 n)]⟩ a0 fun a3 m=>
 ∃y,a3=Value.bool y∧
 IfB (!y)
 (d (Value.tuple ⟨[(Value.int .i64 0),(Value.slice none 0 0),(Value.int .i64 2)]⟩) m)
 (∃z:Value,m.cell ⟨c,4,none⟩=some z∧
 SemW Tryz.prog (Builtin.len_ #[Zez] Zy ⟨[z]⟩) m fun a4 f=>
 ∃A,a4=Value.int .i64 A∧
 IfB (decide (A≥16))
 (d (Value.tuple ⟨[(Value.int .i64 0),(Value.slice none 0 0),(Value.int .i64 4)]⟩) f)
 (∃B:Value,f.cell ⟨c,3,none⟩=some B∧
 ∃C,f.cell ⟨a,0,none⟩=some (Value.int .u32 C)∧∃D,f.cell ⟨a,1,none⟩=some (Value.int .i64 D)∧∃E,f.cell ⟨a,2,none⟩=some (Value.int .i64 E)∧SemW Tryz.prog (Instr.lookup Zfd B (Value.agg ⟨[(Value.int .u32 C),(Value.int .i64 D),(Value.int .i64 E)]⟩) false) f fun a5 w=>
 ∃F,a5=Value.pointer F∧
 IfB (!F.isNone)
 (d (Value.tuple ⟨[(Value.int .i64 0),(Value.slice none 0 0),(Value.int .i64 6)]⟩) w)
 (Za w ⟨c,6,none⟩ (Value.int .i64 o) fun g=>
 ∃i:List Nat,(∀b∈i,∃a1,g b=some a1)∧
 a∈i∧∃G,g.cell ⟨a,2,none⟩=some (Value.int .i64 G)∧
 FnW Tryz.prog Zpl ⟨[(Value.pointer (some ⟨c,0,none⟩))]⟩ g fun a6 u=>
 ∃H,a6=Value.int .u32 H∧
 Zb i g u∧FnW Tryz.prog Zyg ⟨[(Value.int .i64 o),(Value.int .i64 G),(Value.int .i64 n),(Value.int .u32 H)]⟩ u fun a7 e=>
 ∃I,∃(r:Option Addr) (t s:Nat),∃h:Int,a7=(Value.tuple ⟨[(Value.pointer I),(Value.slice r t s),(Value.int .i64 h)]⟩)∧
 Zb i g e∧IfB (h !=0)
 (d (Value.tuple ⟨[(Value.int .i64 0),(Value.slice none 0 0),(Value.int .i64 h)]⟩) e)
 (∃J,e.cell ⟨a,0,none⟩=some (Value.int .u32 J)∧∃K,e.cell ⟨a,1,none⟩=some (Value.int .i64 K)∧∃L,e.cell ⟨a,2,none⟩=some (Value.int .i64 L)∧FnW Tryz.prog Zpm ⟨[(Value.pointer (some ⟨c,0,none⟩)),(Value.agg ⟨[(Value.int .u32 J),(Value.int .i64 K),(Value.int .i64 L)]⟩),(Value.pointer I)]⟩ e fun a8 l=>
 ∃M,a8=Value.pointer M∧
 NilP M fun j=>
 (∃N,l.cell ⟨j.block,j.off+3,none⟩=some (Value.int .i64 N)∧
 FnW Tryz.prog Zgx ⟨[(Value.pointer (some ⟨c,0,none⟩)),(Value.int .u32 p),(Value.slice r t s)]⟩ l fun a9 W=>
 ∃P T R,a9=Value.slice P T R∧
 d (Value.tuple ⟨[(Value.int .i64 N),(Value.slice P T R),(Value.int .i64 h)]⟩) W)∧
 (FnW Tryz.prog Zgx ⟨[(Value.pointer (some ⟨c,0,none⟩)),(Value.int .u32 p),(Value.slice r t s)]⟩ l fun b0 v=>
 ∃Q U S,b0=Value.slice Q U S∧
 ∃O,v.cell ⟨j.block,j.off+3,none⟩=some (Value.int .i64 O)∧
 d (Value.tuple ⟨[(Value.int .i64 O),(Value.slice Q U S),(Value.int .i64 h)]⟩) v))))))
theorem Zcjf (f:Nat) (e g d:Int) {a:Heap} {c:Value->Heap->Prop} (i:Zbrc f e g d a fun j h=>∀b,Shut a h b->c j b):FnW Tryz.prog Zia ⟨[(Value.pointer (some ⟨f,0,none⟩)),(Value.int .i64 e),(Value.int .u32 g),(Value.int .i64 d)]⟩ a c:=Zc Tryz.func8 ⟨[(12,[0,1,2,3,4,5,6,7,8,9,10,11,12,13],[58])],[],[],[(15,⟨6,[],[0,1,2,7,8,9,11,3,4,5,10],[12,13],[14],[10]⟩)]⟩ (by kernel_rfl) (by kernel_rfl) i
def Zbke (d a:Int) (b:Heap) (c:Value->Heap->Prop):Prop:=
 IfB (decide (a<1))
 (c (Value.int .i64 0) b)
 (((IntKind.wrap .u64 a):Int)≠0∧
 c (Value.int .i64 (IntKind.wrap .i64 (Int.tmod (IntKind.wrap .u64 d) (IntKind.wrap .u64 a)))) b)
theorem Zccw (e d:Int) {a:Heap} {c:Value->Heap->Prop} (g:Zbke e d a fun h f=>∀b,Shut a f b->c h b):FnW Tryz.prog Zji ⟨[(Value.int .i64 e),(Value.int .i64 d)]⟩ a c:=Zc Tryz.func10 ⟨[],[],[],[]⟩ (by kernel_rfl) (by kernel_rfl) g
def Zbrd (f:Nat) (o n:Int) (e8:Option Addr) (f0 e9:Nat) (c9:Heap) (l:Value->Heap->Prop):Prop:=
 FnW Tryz.prog Zpk ⟨[(Value.pointer (some ⟨f,0,none⟩)),(Value.int .i64 o)]⟩ c9 fun f2 q=>
 ∃p,f2=Value.int .i64 p∧
 IfB (p !=0)
 (l (Value.tuple ⟨[(Value.slice none 0 0),(Value.slice none 0 0),(Value.int .i64 p)]⟩) q)
 (Za q ⟨f,6,none⟩ (Value.int .i64 o) fun r=>
 ∃t,r.cell ⟨f,0,none⟩=some (Value.int .u32 t)∧
 FnW Tryz.prog Zyf ⟨[(Value.int .u32 n),(Value.int .u32 t),(Value.slice e8 f0 e9)]⟩ r fun f3 e1=>
 ∃u,∃v:Int,∃w:Int,∃x:Int,∃y:Int,∃z:Int,∃A:Int,∃B:Int,∃(C:Option Addr) (E D:Nat),∃F:Int,f3=(Value.tuple ⟨[(Value.agg ⟨[(Value.int .i64 u),(Value.int .i64 v),(Value.int .u32 w),(Value.int .u32 x),(Value.int .i64 y),(Value.int .i64 z),(Value.int .i64 A),(Value.int .i64 B),(Value.slice C E D)]⟩),(Value.int .i64 F)]⟩)∧
 NewW e1 (Obj.cells ⟨[(Value.int .i64 0),(Value.int .i64 0),(Value.int .u32 0),(Value.int .u32 0),(Value.int .i64 0),(Value.int .i64 0),(Value.int .i64 0),(Value.int .i64 0),(Value.slice none 0 0)]⟩ Zl) fun a e2=>
 Za e2 ⟨a,0,none⟩ (Value.int .i64 u) fun e3=>
 Za e3 ⟨a,1,none⟩ (Value.int .i64 v) fun e4=>
 Za e4 ⟨a,2,none⟩ (Value.int .u32 w) fun e5=>
 Za e5 ⟨a,3,none⟩ (Value.int .u32 x) fun e6=>
 Za e6 ⟨a,4,none⟩ (Value.int .i64 y) fun e7=>
 Za e7 ⟨a,5,none⟩ (Value.int .i64 z) fun d0=>
 Za d0 ⟨a,6,none⟩ (Value.int .i64 A) fun d1=>
 Za d1 ⟨a,7,none⟩ (Value.int .i64 B) fun d2=>
 Za d2 ⟨a,8,none⟩ (Value.slice C E D) fun k=>
 IfB (F !=0)
 (l (Value.tuple ⟨[(Value.slice none 0 0),(Value.slice none 0 0),(Value.int .i64 0)]⟩) k)
 (∃G,k.cell ⟨a,0,none⟩=some (Value.int .i64 G)∧
 ∃H,k.cell ⟨a,1,none⟩=some (Value.int .i64 H)∧
 NewW k (Obj.cells ⟨[(Value.int .u32 0),(Value.int .i64 0),(Value.int .i64 0)]⟩ Zeo) fun e d3=>
 Za d3 ⟨e,0,none⟩ (Value.int .u32 n) fun d4=>
 Za d4 ⟨e,1,none⟩ (Value.int .i64 G) fun d5=>
 Za d5 ⟨e,2,none⟩ (Value.int .i64 H) fun g=>
 ∃I:Value,g.cell ⟨f,3,none⟩=some I∧
 ∃J,g.cell ⟨e,0,none⟩=some (Value.int .u32 J)∧∃K,g.cell ⟨e,1,none⟩=some (Value.int .i64 K)∧∃L,g.cell ⟨e,2,none⟩=some (Value.int .i64 L)∧SemW Tryz.prog (Instr.lookup Zfd I (Value.agg ⟨[(Value.int .u32 J),(Value.int .i64 K),(Value.int .i64 L)]⟩) false) g fun f4 c=>
 ∃j,f4=Value.pointer j∧
 IfB (!j.isNone)
 (FnW Tryz.prog Zpo ⟨[(Value.pointer j)]⟩ c fun f5 d6=>
 ∃M,∃N:Int,f5=(Value.agg ⟨[(Value.int .i64 M),(Value.int .i64 N)]⟩)∧
 NewW d6 (Obj.cells ⟨[(Value.int .i64 0),(Value.int .i64 0)]⟩ Zff) fun i d7=>
 Za d7 ⟨i,0,none⟩ (Value.int .i64 M) fun d8=>
 Za d8 ⟨i,1,none⟩ (Value.int .i64 N) fun d=>
 NilP j fun O=>
 ∃P,d.cell ⟨O.block,O.off+4,none⟩=some (Value.pointer P)∧
 ∃Q,d.cell ⟨a,0,none⟩=some (Value.int .i64 Q)∧∃R,d.cell ⟨a,1,none⟩=some (Value.int .i64 R)∧∃S,d.cell ⟨a,2,none⟩=some (Value.int .u32 S)∧∃T,d.cell ⟨a,3,none⟩=some (Value.int .u32 T)∧∃U,d.cell ⟨a,4,none⟩=some (Value.int .i64 U)∧∃V,d.cell ⟨a,5,none⟩=some (Value.int .i64 V)∧∃W,d.cell ⟨a,6,none⟩=some (Value.int .i64 W)∧∃X,d.cell ⟨a,7,none⟩=some (Value.int .i64 X)∧∃Y a0 Z,d.cell ⟨a,8,none⟩=some (Value.slice Y a0 Z)∧FnW Tryz.prog Zyh ⟨[(Value.pointer P),(Value.int .i64 o),(Value.agg ⟨[(Value.int .i64 Q),(Value.int .i64 R),(Value.int .u32 S),(Value.int .u32 T),(Value.int .i64 U),(Value.int .i64 V),(Value.int .i64 W),(Value.int .i64 X),(Value.slice Y a0 Z)]⟩)]⟩ d fun f7 h=>
 ∃a1 a3 a2,∃f6:Int,f7=(Value.tuple ⟨[(Value.slice a1 a3 a2),(Value.int .i64 f6)]⟩)∧
 ∃m:List Nat,(∀b∈m,∃f1,h b=some f1)∧
 i∈m∧∃a7,h.cell ⟨i,0,none⟩=some (Value.int .i64 a7)∧∃a8,h.cell ⟨i,1,none⟩=some (Value.int .i64 a8)∧FnW Tryz.prog Zgx ⟨[(Value.pointer (some ⟨f,0,none⟩)),(Value.int .u32 n),(Value.slice a1 a3 a2)]⟩ h fun f8 s=>
 ∃a4 a6 a5,f8=Value.slice a4 a6 a5∧
 Zb m h s∧FnW Tryz.prog Zyd ⟨[(Value.pointer (some ⟨f,0,none⟩)),(Value.pointer j),(Value.agg ⟨[(Value.int .i64 a7),(Value.int .i64 a8)]⟩)]⟩ s fun f9 d9=>
 ∃a9 b1 b0,f9=Value.slice a9 b1 b0∧
 l (Value.tuple ⟨[(Value.slice a4 a6 a5),(Value.slice a9 b1 b0),(Value.int .i64 0)]⟩) d9)
 (∃b2,c.cell ⟨e,0,none⟩=some (Value.int .u32 b2)∧∃b3,c.cell ⟨e,1,none⟩=some (Value.int .i64 b3)∧∃b4,c.cell ⟨e,2,none⟩=some (Value.int .i64 b4)∧∃b5,c.cell ⟨a,0,none⟩=some (Value.int .i64 b5)∧∃b6,c.cell ⟨a,1,none⟩=some (Value.int .i64 b6)∧∃b7,c.cell ⟨a,2,none⟩=some (Value.int .u32 b7)∧∃b8,c.cell ⟨a,3,none⟩=some (Value.int .u32 b8)∧∃b9,c.cell ⟨a,4,none⟩=some (Value.int .i64 b9)∧∃c0,c.cell ⟨a,5,none⟩=some (Value.int .i64 c0)∧∃c1,c.cell ⟨a,6,none⟩=some (Value.int .i64 c1)∧∃c2,c.cell ⟨a,7,none⟩=some (Value.int .i64 c2)∧∃c3 c5 c4,c.cell ⟨a,8,none⟩=some (Value.slice c3 c5 c4)∧FnW Tryz.prog Zxd ⟨[(Value.pointer (some ⟨f,0,none⟩)),(Value.agg ⟨[(Value.int .u32 b2),(Value.int .i64 b3),(Value.int .i64 b4)]⟩),(Value.agg ⟨[(Value.int .i64 b5),(Value.int .i64 b6),(Value.int .u32 b7),(Value.int .u32 b8),(Value.int .i64 b9),(Value.int .i64 c0),(Value.int .i64 c1),(Value.int .i64 c2),(Value.slice c3 c5 c4)]⟩)]⟩ c fun g0 e0=>
 ∃c6 c8 c7,g0=Value.slice c6 c8 c7∧
 l (Value.tuple ⟨[(Value.slice c6 c8 c7),(Value.slice none 0 0),(Value.int .i64 0)]⟩) e0)))
theorem Zcjg (i:Nat) (h g:Int) (d:Option Addr) (f e:Nat) {a:Heap} {c:Value->Heap->Prop} (k:Zbrd i h g d f e a fun l j=>∀b,Shut a j b->c l b):FnW Tryz.prog Zib ⟨[(Value.pointer (some ⟨i,0,none⟩)),(Value.int .i64 h),(Value.int .u32 g),(Value.slice d f e)]⟩ a c:=Zc Tryz.func12 ⟨[(13,[0,1,2,4,5,6,3,7,8,9,10],[73])],[],[],[]⟩ (by kernel_rfl) (by kernel_rfl) k
def Zub (k:Nat) (j:Int) (l:Bool) (a:Heap) (c:Value->Heap->Prop):Prop:=
 IfB l
 (c (Value.int .i64 0) a)
 (∃d:Value,a.cell ⟨k,4,none⟩=some d∧
 SemW Tryz.prog (Instr.lookup Zez d (Value.int .i64 j) false) a fun m b=>
 ∃e,m=Value.pointer e∧
 NilP e fun f=>
 ∃g,b.cell ⟨f.block,f.off+4,none⟩=some (Value.pointer g)∧
 FnW Tryz.prog Zoz ⟨[(Value.pointer g)]⟩ b fun n i=>
 ∃h,n=Value.int .i64 h∧
 c (Value.int .i64 h) i)
def Zbpf (a:Nat) (c:Int) (h:Heap) (d:Value->Heap->Prop):Prop:=
 FnW Tryz.prog Zlw ⟨[(Value.pointer (some ⟨a,0,none⟩))]⟩ h fun k b=>
 ∃g,k=Value.bool g∧
 IfB (!g)
 (Zub a c true b d)
 (∃e:Value,b.cell ⟨a,4,none⟩=some e∧
 SemW Tryz.prog (Instr.lookup Zez e (Value.int .i64 c) false) b fun j i=>
 ∃f,j=Value.pointer f∧
 Zub a c f.isNone i d)
theorem Zcho (e:Nat) (d:Int) {a:Heap} {c:Value->Heap->Prop} (g:Zbpf e d a fun h f=>∀b,Shut a f b->c h b):FnW Tryz.prog Zjs ⟨[(Value.pointer (some ⟨e,0,none⟩)),(Value.int .i64 d)]⟩ a c:=Zc Tryz.func15 ⟨[],[],[],[]⟩ (by kernel_rfl) (by kernel_rfl) g
def Zbmt (g:Option Addr) (i h:Nat) (j:Option Addr) (l k:Nat) (c:Heap) (f:Value->Heap->Prop):Prop:=
 SemW Tryz.prog (convert Zd Zbcv (Value.slice g i h)) c fun m d=>
 ∃a,m=Value.string a∧
 SemW Tryz.prog (convert Zd Zbcv (Value.slice j l k)) d fun n e=>
 ∃b,n=Value.string b∧
 f (Value.bool (a.toList==b.toList)) e
theorem Zcfl (d:Option Addr) (f e:Nat) (g:Option Addr) (i h:Nat) {a:Heap} {c:Value->Heap->Prop} (k:Zbmt d f e g i h a fun l j=>∀b,Shut a j b->c l b):FnW Tryz.prog Zxa ⟨[(Value.slice d f e),(Value.slice g i h)]⟩ a c:=Zc Tryz.func16 ⟨[],[],[],[]⟩ (by kernel_rfl) (by kernel_rfl) k
def Zbmu (p q:Int) (k:Heap) (c:Value->Heap->Prop):Prop:=
 FnW Tryz.prog Zie ⟨[(Value.int .i64 0)]⟩ k fun u l=>
 ∃h,u=Value.int .u32 h∧
 FnW Tryz.prog Zgu ⟨[(Value.int .u32 h),(Value.int .u32 p)]⟩ l fun v m=>
 ∃i,v=Value.pointer i∧
 FnW Tryz.prog Zie ⟨[(Value.int .i64 1)]⟩ m fun w n=>
 ∃j,w=Value.int .u32 j∧
 FnW Tryz.prog Zgu ⟨[(Value.int .u32 j),(Value.int .u32 q)]⟩ n fun r o=>
 ∃d,r=Value.pointer d∧
 NewW o (Obj.cells ⟨[(Value.pointer i),(Value.pointer d),(Value.slice none 0 0),(Value.slice none 0 0)]⟩ Zbcu) fun e a=>
 InB 1 2 fun s=>
 ∃f,a.cell ⟨e,0+s*1,none⟩=some (Value.pointer f)∧
 FnW Tryz.prog Zxc ⟨[(Value.pointer f),(Value.int .i64 179)]⟩ a fun t b=>
 ∃g,t=Value.int .i64 g∧
 IfB (g !=0)
 (c (Value.pointer none) b)
 (c (Value.pointer (some ⟨e,0,none⟩)) b)
theorem Zcfm (d e:Int) {a:Heap} {c:Value->Heap->Prop} (g:Zbmu d e a fun h f=>∀b,Shut a f b->c h b):FnW Tryz.prog Zxb ⟨[(Value.int .u32 d),(Value.int .u32 e)]⟩ a c:=Zc Tryz.func17 ⟨[],[],[],[]⟩ (by kernel_rfl) (by kernel_rfl) g
def Zbrq (c:Int) (a:Heap) (b:Value->Heap->Prop):Prop:=
 b (Value.int .u32 (IntKind.wrap .u32 (IntKind.wrap .i64 (10+c)))) a
theorem Zcjn (d:Int) {a:Heap} {c:Value->Heap->Prop} (f:Zbrq d a fun g e=>∀b,Shut a e b->c g b):FnW Tryz.prog Zie ⟨[(Value.int .i64 d)]⟩ a c:=Zc Tryz.func18 ⟨[],[],[],[]⟩ (by kernel_rfl) (by kernel_rfl) f
def Znl (f:Nat) (e:Int) (g:Option Addr) (i h:Nat) (b:Int) (c:(Int×Unit)->Heap->Prop) (a:Heap) (d:Value->Heap->Prop):Prop:=
 c ((IntKind.wrap .i64 (b+1)),()) a
def Zbok (g:Nat) (e:Int) (h:Option Addr) (f l:Nat) (d:Int) (a:Heap) (k:(Int×Unit)->Heap->Prop) (i:Value->Heap->Prop):Prop:=
 IfB (decide (d<(f:Int)))
 (∃j:List Nat,(∀b∈j,∃C,a b=some C)∧
 NilP h fun E=>
 InB d f fun D=>
 elemAt E D 2 fun m=>
 m.block∈j∧∃n,a.cell m=some (Value.int .u32 n)∧
 FnW Tryz.prog Zie ⟨[(Value.int .i64 (IntKind.wrap .i64 (1 - e)))]⟩ a fun F c=>
 ∃o,F=Value.int .u32 o∧
 Zb j a c∧IfB (n==o)
 (InB (IntKind.wrap .i64 (1 - e)) 2 fun G=>
 ∃p r q,c.cell ⟨g,2+G*1,none⟩=some (Value.slice p r q)∧
 NilP h fun I=>
 InB d f fun H=>
 elemAt I H 2 fun s=>
 ∃t v u,c.cell ⟨s.block,s.off+1,none⟩=some (Value.slice t v u)∧
 NewW c (Obj.cells ⟨[(Value.slice t v u)]⟩ Zd) fun J z=>
 AppW Tryz.prog #[Ziz,Ziz] Ziz [(Value.slice p r q),(Value.slice (some ⟨J,0,none⟩) 1 1)] z fun K A=>
 ∃w y x,K=Value.slice w y x∧
 InB (IntKind.wrap .i64 (1 - e)) 2 fun L=>
 Za A ⟨g,2+L*1,none⟩ (Value.slice w y x) fun B=>
 Znl g e h f l d k B i)
 (Znl g e h f l d k c i))
 (i (Value.tuple ⟨[]⟩) a)
def Zbol (d:Nat) (c:Int) (f:Option Addr) (h g:Nat) (a:Heap) (b:Value->Heap->Prop):Prop:=
 Zbk (Int×Unit) (0,()) a fun i a e=>∀j:Env,Zbok d c f h g i.1 a e b
theorem Zcgy (e:Nat) (d:Int) (f:Option Addr) (h g:Nat) {a:Heap} {c:Value->Heap->Prop} (j:Zbol e d f h g a fun k i=>∀b,Shut a i b->c k b):FnW Tryz.prog Zma ⟨[(Value.pointer (some ⟨e,0,none⟩)),(Value.int .i64 d),(Value.slice f h g)]⟩ a c:=Zc Tryz.func19 ⟨[(3,[0,1,2,3,4,5,6,7,8],[17]),(4,[0,1,2,3,4,5,6,7,8,9,10,11,12,13,14,17,18,15,16,19,20],[])],[(1,[6],[.int .i64],[0,1,2])],[],[]⟩ (by kernel_rfl) (by kernel_rfl) j
def Zbpg (f:Nat) (F e:Int) (H:Option Addr) (l Q:Nat) (i:Option Addr) (k j:Nat) (d:Int) (a:Heap) (E:((Option Addr×Nat×Nat)×Int×Unit)->Heap->Prop) (D:Value->Heap->Prop):Prop:=
 IfB (decide (d<(l:Int)))
 (∃c:List Nat,(∀b∈c,∃G,a b=some G)∧
 InB e 2 fun I=>
 f∈c∧∃m,a.cell ⟨f,0+I*1,none⟩=some (Value.pointer m)∧
 NilP H fun L=>
 InB d l fun K=>
 elemAt L K 1 fun o=>
 o.block∈c∧∃p r q,a.cell o=some (Value.slice p r q)∧
 FnW Tryz.prog Zie ⟨[(Value.int .i64 (IntKind.wrap .i64 (1 - e)))]⟩ a fun J g=>
 ∃n,J=Value.int .u32 n∧
 Zb c a g∧FnW Tryz.prog Zib ⟨[(Value.pointer m),(Value.int .i64 F),(Value.int .u32 n),(Value.slice p r q)]⟩ g fun N h=>
 ∃s u t,∃(v:Option Addr) (x w:Nat),∃M:Int,N=(Value.tuple ⟨[(Value.slice s u t),(Value.slice v x w),(Value.int .i64 M)]⟩)∧
 Zb c a h∧FnW Tryz.prog Zma ⟨[(Value.pointer (some ⟨f,0,none⟩)),(Value.int .i64 e),(Value.slice s u t)]⟩ h fun O B=>
 O=Value.tuple ⟨[]⟩∧
 AppW Tryz.prog #[Zca,Zca] Zca [(Value.slice i k j),(Value.slice v x w)] B fun P C=>
 ∃y A z,P=Value.slice y A z∧
 E ((y,A,z),((IntKind.wrap .i64 (d+1)),())) C)
 (D (Value.slice i k j) a)
def Zbph (d:Nat) (l c:Int) (b:Heap) (j:Value->Heap->Prop):Prop:=
 NewW b (Obj.cells ⟨[]⟩ Zbh) fun m e=>
 InB c 2 fun n=>
 ∃f h g,e.cell ⟨d,2+n*1,none⟩=some (Value.slice f h g)∧
 InB c 2 fun o=>
 Za e ⟨d,2+o*1,none⟩ (Value.slice none 0 0) fun i=>
 Zbk ((Option Addr×Nat×Nat)×Int×Unit) (((some ⟨m,0,none⟩),0,0),(0,())) i fun a b k=>∀p:Env,Zbpg d l c f h g a.1.1 a.1.2.1 a.1.2.2 a.2.1 b k j
theorem Zchp (e:Nat) (f d:Int) {a:Heap} {c:Value->Heap->Prop} (h:Zbph e f d a fun i g=>∀b,Shut a g b->c i b):FnW Tryz.prog Zgw ⟨[(Value.pointer (some ⟨e,0,none⟩)),(Value.int .i64 f),(Value.int .i64 d)]⟩ a c:=Zc Tryz.func20 ⟨[(7,[0,1,2,3,4,5,6,7,8,10,11,12,13,9,14,15,16,17,18,19,20,21],[37,45])],[(5,[7,9],[.slice,.int .i64],[0,1,2,8])],[],[]⟩ (by kernel_rfl) (by kernel_rfl) h
def Zbmx (c:Nat) (e:Int) (t:Heap) (b:Value->Heap->Prop):Prop:=
 FnW Tryz.prog Zlw ⟨[(Value.pointer (some ⟨c,0,none⟩))]⟩ t fun D f=>
 ∃s,D=Value.bool s∧
 IfB (!s)
 (b (Value.int .i64 1) f)
 (FnW Tryz.prog Zlv ⟨[(Value.int .i64 e)]⟩ f fun x d=>
 ∃g,x=Value.bool g∧
 IfB (!g)
 (b (Value.int .i64 2) d)
 (∃h j i,d.cell ⟨c,2,none⟩=some (Value.slice h j i)∧
 FnW Tryz.prog Zpp ⟨[(Value.slice h j i),(Value.int .i64 e)]⟩ d fun y a=>
 ∃k,y=Value.bool k∧
 IfB k
 (b (Value.int .i64 6) a)
 (∃z l A,a.cell ⟨c,2,none⟩=some (Value.slice z l A)∧
 IfB (((l:Int):Int)==8)
 (b (Value.int .i64 4) a)
 (∃m o n,a.cell ⟨c,2,none⟩=some (Value.slice m o n)∧
 NewW a (Obj.cells ⟨[(Value.int .i64 e)]⟩ Zy) fun B u=>
 AppW Tryz.prog #[Zvc,Zvc] Zvc [(Value.slice m o n),(Value.slice (some ⟨B,0,none⟩) 1 1)] u fun C v=>
 ∃p r q,C=Value.slice p r q∧
 Za v ⟨c,2,none⟩ (Value.slice p r q) fun w=>
 b (Value.int .i64 0) w))))
theorem Zcfo (e:Nat) (d:Int) {a:Heap} {c:Value->Heap->Prop} (g:Zbmx e d a fun h f=>∀b,Shut a f b->c h b):FnW Tryz.prog Zxc ⟨[(Value.pointer (some ⟨e,0,none⟩)),(Value.int .i64 d)]⟩ a c:=Zc Tryz.func24 ⟨[],[],[],[]⟩ (by kernel_rfl) (by kernel_rfl) g
def Znq (c:Option Addr) (f d a:Nat) (l4:Int) (y2:Bool) (M:Heap) (x:Value->Heap->Prop):Prop:=
 IfB y2
 (Za M ⟨a,0,none⟩ (Value.int .i64 0) fun r6=>
 Za r6 ⟨a,1,none⟩ (Value.int .i64 0) fun s4=>
 Za s4 ⟨a,2,none⟩ (Value.int .u32 0) fun s9=>
 Za s9 ⟨a,3,none⟩ (Value.int .u32 0) fun t0=>
 Za t0 ⟨a,4,none⟩ (Value.int .i64 0) fun t1=>
 Za t1 ⟨a,5,none⟩ (Value.int .i64 0) fun t2=>
 Za t2 ⟨a,6,none⟩ (Value.int .i64 0) fun t3=>
 Za t3 ⟨a,7,none⟩ (Value.int .i64 0) fun t4=>
 Za t4 ⟨a,8,none⟩ (Value.slice none 0 0) fun r=>
 ∃b5,r.cell ⟨a,0,none⟩=some (Value.int .i64 b5)∧∃c4,r.cell ⟨a,1,none⟩=some (Value.int .i64 c4)∧∃d3,r.cell ⟨a,2,none⟩=some (Value.int .u32 d3)∧∃e2,r.cell ⟨a,3,none⟩=some (Value.int .u32 e2)∧∃f1,r.cell ⟨a,4,none⟩=some (Value.int .i64 f1)∧∃g0,r.cell ⟨a,5,none⟩=some (Value.int .i64 g0)∧∃g9,r.cell ⟨a,6,none⟩=some (Value.int .i64 g9)∧∃h8,r.cell ⟨a,7,none⟩=some (Value.int .i64 h8)∧∃i7 k5 j6,r.cell ⟨a,8,none⟩=some (Value.slice i7 k5 j6)∧x (Value.tuple ⟨[(Value.agg ⟨[(Value.int .i64 b5),(Value.int .i64 c4),(Value.int .u32 d3),(Value.int .u32 e2),(Value.int .i64 f1),(Value.int .i64 g0),(Value.int .i64 g9),(Value.int .i64 h8),(Value.slice i7 k5 j6)]⟩),(Value.int .i64 110)]⟩) r)
 (InC (IntKind.wrap .i64 (4*(IntKind.wrap .i64 (Int.fdiv l4 (2^(min (4:Int).toNat (IntKind.bits .u8))))))) d fun l5=>
 InC 20 l5 fun D=>
 FnW Tryz.prog Zxj ⟨[(Value.slice (if d=D then c else Option.map (fun e=>Addr.add e (D*1)) c) (l5 - D) (d - D))]⟩ M fun y3 g=>
 ∃y,∃l6:Bool,y3=(Value.tuple ⟨[(Value.int .i64 y),(Value.bool l6)]⟩)∧
 IfB (!l6)
 (Za g ⟨a,0,none⟩ (Value.int .i64 0) fun t5=>
 Za t5 ⟨a,1,none⟩ (Value.int .i64 0) fun t6=>
 Za t6 ⟨a,2,none⟩ (Value.int .u32 0) fun t7=>
 Za t7 ⟨a,3,none⟩ (Value.int .u32 0) fun t8=>
 Za t8 ⟨a,4,none⟩ (Value.int .i64 0) fun t9=>
 Za t9 ⟨a,5,none⟩ (Value.int .i64 0) fun u0=>
 Za u0 ⟨a,6,none⟩ (Value.int .i64 0) fun u1=>
 Za u1 ⟨a,7,none⟩ (Value.int .i64 0) fun u2=>
 Za u2 ⟨a,8,none⟩ (Value.slice none 0 0) fun s=>
 ∃b6,s.cell ⟨a,0,none⟩=some (Value.int .i64 b6)∧∃c5,s.cell ⟨a,1,none⟩=some (Value.int .i64 c5)∧∃d4,s.cell ⟨a,2,none⟩=some (Value.int .u32 d4)∧∃e3,s.cell ⟨a,3,none⟩=some (Value.int .u32 e3)∧∃f2,s.cell ⟨a,4,none⟩=some (Value.int .i64 f2)∧∃g1,s.cell ⟨a,5,none⟩=some (Value.int .i64 g1)∧∃h0,s.cell ⟨a,6,none⟩=some (Value.int .i64 h0)∧∃h9,s.cell ⟨a,7,none⟩=some (Value.int .i64 h9)∧∃i8 k6 j7,s.cell ⟨a,8,none⟩=some (Value.slice i8 k6 j7)∧x (Value.tuple ⟨[(Value.agg ⟨[(Value.int .i64 b6),(Value.int .i64 c5),(Value.int .u32 d4),(Value.int .u32 e3),(Value.int .i64 f2),(Value.int .i64 g1),(Value.int .i64 h0),(Value.int .i64 h9),(Value.slice i8 k6 j7)]⟩),(Value.int .i64 110)]⟩) s)
 (∃h:List Nat,(∀b∈h,∃y1,g b=some y1)∧
 NilP c fun z9=>
 InB 13 f fun z8=>
 elemAt z9 z8 1 fun m7=>
 m7.block∈h∧∃z,g.cell m7=some (Value.int .u8 z)∧
 InC 2 f fun n=>
 InC 4 f fun m=>
 InC 8 f fun l=>
 InC 14 f fun k=>
 InC 18 f fun i=>
 InC (IntKind.wrap .i64 (4*(IntKind.wrap .i64 (Int.fdiv l4 (2^(min (4:Int).toNat (IntKind.bits .u8))))))) f fun j=>
 (NewW g (Obj.cells ⟨[]⟩ Zh) fun B3 u3=>
 FnW Tryz.prog Zbs ⟨[(Value.slice c f d)]⟩ u3 fun y4 R=>
 ∃l7,y4=Value.int .i64 l7∧
 Zb h g R∧FnW Tryz.prog Zbs ⟨[(Value.slice (if d=n then c else Option.map (fun e=>Addr.add e (n*1)) c) (f - n) (d - n))]⟩ R fun y6 S=>
 ∃l8,y6=Value.int .i64 l8∧
 Zb h g S∧FnW Tryz.prog Zeb ⟨[(Value.slice (if d=m then c else Option.map (fun e=>Addr.add e (m*1)) c) (f - m) (d - m))]⟩ S fun y9 T=>
 ∃m0,y9=Value.int .u32 m0∧
 Zb h g T∧FnW Tryz.prog Zeb ⟨[(Value.slice (if d=l then c else Option.map (fun e=>Addr.add e (l*1)) c) (f - l) (d - l))]⟩ T fun z3 U=>
 ∃m3,z3=Value.int .u32 m3∧
 Zb h g U∧FnW Tryz.prog Zbs ⟨[(Value.slice (if d=k then c else Option.map (fun e=>Addr.add e (k*1)) c) (f - k) (d - k))]⟩ U fun A0 V=>
 ∃m8,A0=Value.int .i64 m8∧
 Zb h g V∧FnW Tryz.prog Zbs ⟨[(Value.slice (if d=i then c else Option.map (fun e=>Addr.add e (i*1)) c) (f - i) (d - i))]⟩ V fun A6 W=>
 ∃n3,A6=Value.int .i64 n3∧
 Zb h g W∧AppW Tryz.prog #[Zd,Zd] Zd [(Value.slice (some ⟨B3,0,none⟩) 0 0),(Value.slice (if d=j then c else Option.map (fun e=>Addr.add e (j*1)) c) (f - j) (d - j))] W fun C0 X=>
 ∃o0 p4 o7,C0=Value.slice o0 p4 o7∧
 Zb h g X∧Za X ⟨a,0,none⟩ (Value.int .i64 l7) fun u4=>
 Za u4 ⟨a,1,none⟩ (Value.int .i64 l8) fun u5=>
 Za u5 ⟨a,2,none⟩ (Value.int .u32 m0) fun u6=>
 Za u6 ⟨a,3,none⟩ (Value.int .u32 m3) fun u7=>
 Za u7 ⟨a,4,none⟩ (Value.int .i64 (IntKind.wrap .i64 (Zbc .u8 z 63))) fun u9=>
 Za u9 ⟨a,5,none⟩ (Value.int .i64 m8) fun v0=>
 Za v0 ⟨a,6,none⟩ (Value.int .i64 n3) fun v1=>
 Za v1 ⟨a,7,none⟩ (Value.int .i64 y) fun v2=>
 Za v2 ⟨a,8,none⟩ (Value.slice o0 p4 o7) fun t=>
 ∃b7,t.cell ⟨a,0,none⟩=some (Value.int .i64 b7)∧∃c6,t.cell ⟨a,1,none⟩=some (Value.int .i64 c6)∧∃d5,t.cell ⟨a,2,none⟩=some (Value.int .u32 d5)∧∃e4,t.cell ⟨a,3,none⟩=some (Value.int .u32 e4)∧∃f3,t.cell ⟨a,4,none⟩=some (Value.int .i64 f3)∧∃g2,t.cell ⟨a,5,none⟩=some (Value.int .i64 g2)∧∃h1,t.cell ⟨a,6,none⟩=some (Value.int .i64 h1)∧∃i0,t.cell ⟨a,7,none⟩=some (Value.int .i64 i0)∧∃i9 k7 j8,t.cell ⟨a,8,none⟩=some (Value.slice i9 k7 j8)∧x (Value.tuple ⟨[(Value.agg ⟨[(Value.int .i64 b7),(Value.int .i64 c6),(Value.int .u32 d5),(Value.int .u32 e4),(Value.int .i64 f3),(Value.int .i64 g2),(Value.int .i64 h1),(Value.int .i64 i0),(Value.slice i9 k7 j8)]⟩),(Value.int .i64 0)]⟩) t)∧
 (FnW Tryz.prog Zbs ⟨[(Value.slice c f d)]⟩ g fun y5 G=>
 ∃A,y5=Value.int .i64 A∧
 Zb h g G∧(NewW G (Obj.cells ⟨[]⟩ Zh) fun B4 v3=>
 FnW Tryz.prog Zbs ⟨[(Value.slice (if d=n then c else Option.map (fun e=>Addr.add e (n*1)) c) (f - n) (d - n))]⟩ v3 fun y7 Y=>
 ∃l9,y7=Value.int .i64 l9∧
 Zb h g Y∧FnW Tryz.prog Zeb ⟨[(Value.slice (if d=m then c else Option.map (fun e=>Addr.add e (m*1)) c) (f - m) (d - m))]⟩ Y fun z0 Z=>
 ∃m1,z0=Value.int .u32 m1∧
 Zb h g Z∧FnW Tryz.prog Zeb ⟨[(Value.slice (if d=l then c else Option.map (fun e=>Addr.add e (l*1)) c) (f - l) (d - l))]⟩ Z fun z4 a0=>
 ∃m4,z4=Value.int .u32 m4∧
 Zb h g a0∧FnW Tryz.prog Zbs ⟨[(Value.slice (if d=k then c else Option.map (fun e=>Addr.add e (k*1)) c) (f - k) (d - k))]⟩ a0 fun A1 a1=>
 ∃m9,A1=Value.int .i64 m9∧
 Zb h g a1∧FnW Tryz.prog Zbs ⟨[(Value.slice (if d=i then c else Option.map (fun e=>Addr.add e (i*1)) c) (f - i) (d - i))]⟩ a1 fun A7 a2=>
 ∃n4,A7=Value.int .i64 n4∧
 Zb h g a2∧AppW Tryz.prog #[Zd,Zd] Zd [(Value.slice (some ⟨B4,0,none⟩) 0 0),(Value.slice (if d=j then c else Option.map (fun e=>Addr.add e (j*1)) c) (f - j) (d - j))] a2 fun C1 a3=>
 ∃o1 p5 o8,C1=Value.slice o1 p5 o8∧
 Zb h g a3∧Za a3 ⟨a,0,none⟩ (Value.int .i64 A) fun v4=>
 Za v4 ⟨a,1,none⟩ (Value.int .i64 l9) fun v5=>
 Za v5 ⟨a,2,none⟩ (Value.int .u32 m1) fun v6=>
 Za v6 ⟨a,3,none⟩ (Value.int .u32 m4) fun v7=>
 Za v7 ⟨a,4,none⟩ (Value.int .i64 (IntKind.wrap .i64 (Zbc .u8 z 63))) fun v8=>
 Za v8 ⟨a,5,none⟩ (Value.int .i64 m9) fun v9=>
 Za v9 ⟨a,6,none⟩ (Value.int .i64 n4) fun w0=>
 Za w0 ⟨a,7,none⟩ (Value.int .i64 y) fun w1=>
 Za w1 ⟨a,8,none⟩ (Value.slice o1 p5 o8) fun u=>
 ∃b8,u.cell ⟨a,0,none⟩=some (Value.int .i64 b8)∧∃c7,u.cell ⟨a,1,none⟩=some (Value.int .i64 c7)∧∃d6,u.cell ⟨a,2,none⟩=some (Value.int .u32 d6)∧∃e5,u.cell ⟨a,3,none⟩=some (Value.int .u32 e5)∧∃f4,u.cell ⟨a,4,none⟩=some (Value.int .i64 f4)∧∃g3,u.cell ⟨a,5,none⟩=some (Value.int .i64 g3)∧∃h2,u.cell ⟨a,6,none⟩=some (Value.int .i64 h2)∧∃i1,u.cell ⟨a,7,none⟩=some (Value.int .i64 i1)∧∃j0 k8 j9,u.cell ⟨a,8,none⟩=some (Value.slice j0 k8 j9)∧x (Value.tuple ⟨[(Value.agg ⟨[(Value.int .i64 b8),(Value.int .i64 c7),(Value.int .u32 d6),(Value.int .u32 e5),(Value.int .i64 f4),(Value.int .i64 g3),(Value.int .i64 h2),(Value.int .i64 i1),(Value.slice j0 k8 j9)]⟩),(Value.int .i64 0)]⟩) u)∧
 (FnW Tryz.prog Zbs ⟨[(Value.slice (if d=n then c else Option.map (fun e=>Addr.add e (n*1)) c) (f - n) (d - n))]⟩ G fun y8 H=>
 ∃B,y8=Value.int .i64 B∧
 Zb h g H∧(NewW H (Obj.cells ⟨[]⟩ Zh) fun B5 w2=>
 FnW Tryz.prog Zeb ⟨[(Value.slice (if d=m then c else Option.map (fun e=>Addr.add e (m*1)) c) (f - m) (d - m))]⟩ w2 fun z1 a4=>
 ∃m2,z1=Value.int .u32 m2∧
 Zb h g a4∧FnW Tryz.prog Zeb ⟨[(Value.slice (if d=l then c else Option.map (fun e=>Addr.add e (l*1)) c) (f - l) (d - l))]⟩ a4 fun z5 a5=>
 ∃m5,z5=Value.int .u32 m5∧
 Zb h g a5∧FnW Tryz.prog Zbs ⟨[(Value.slice (if d=k then c else Option.map (fun e=>Addr.add e (k*1)) c) (f - k) (d - k))]⟩ a5 fun A2 a6=>
 ∃n0,A2=Value.int .i64 n0∧
 Zb h g a6∧FnW Tryz.prog Zbs ⟨[(Value.slice (if d=i then c else Option.map (fun e=>Addr.add e (i*1)) c) (f - i) (d - i))]⟩ a6 fun A8 a7=>
 ∃n5,A8=Value.int .i64 n5∧
 Zb h g a7∧AppW Tryz.prog #[Zd,Zd] Zd [(Value.slice (some ⟨B5,0,none⟩) 0 0),(Value.slice (if d=j then c else Option.map (fun e=>Addr.add e (j*1)) c) (f - j) (d - j))] a7 fun C2 a8=>
 ∃o2 p6 o9,C2=Value.slice o2 p6 o9∧
 Zb h g a8∧Za a8 ⟨a,0,none⟩ (Value.int .i64 A) fun w3=>
 Za w3 ⟨a,1,none⟩ (Value.int .i64 B) fun w4=>
 Za w4 ⟨a,2,none⟩ (Value.int .u32 m2) fun w5=>
 Za w5 ⟨a,3,none⟩ (Value.int .u32 m5) fun w6=>
 Za w6 ⟨a,4,none⟩ (Value.int .i64 (IntKind.wrap .i64 (Zbc .u8 z 63))) fun w7=>
 Za w7 ⟨a,5,none⟩ (Value.int .i64 n0) fun w8=>
 Za w8 ⟨a,6,none⟩ (Value.int .i64 n5) fun w9=>
 Za w9 ⟨a,7,none⟩ (Value.int .i64 y) fun x0=>
 Za x0 ⟨a,8,none⟩ (Value.slice o2 p6 o9) fun v=>
 ∃b9,v.cell ⟨a,0,none⟩=some (Value.int .i64 b9)∧∃c8,v.cell ⟨a,1,none⟩=some (Value.int .i64 c8)∧∃d7,v.cell ⟨a,2,none⟩=some (Value.int .u32 d7)∧∃e6,v.cell ⟨a,3,none⟩=some (Value.int .u32 e6)∧∃f5,v.cell ⟨a,4,none⟩=some (Value.int .i64 f5)∧∃g4,v.cell ⟨a,5,none⟩=some (Value.int .i64 g4)∧∃h3,v.cell ⟨a,6,none⟩=some (Value.int .i64 h3)∧∃i2,v.cell ⟨a,7,none⟩=some (Value.int .i64 i2)∧∃j1 k9 k0,v.cell ⟨a,8,none⟩=some (Value.slice j1 k9 k0)∧x (Value.tuple ⟨[(Value.agg ⟨[(Value.int .i64 b9),(Value.int .i64 c8),(Value.int .u32 d7),(Value.int .u32 e6),(Value.int .i64 f5),(Value.int .i64 g4),(Value.int .i64 h3),(Value.int .i64 i2),(Value.slice j1 k9 k0)]⟩),(Value.int .i64 0)]⟩) v)∧
 (FnW Tryz.prog Zeb ⟨[(Value.slice (if d=m then c else Option.map (fun e=>Addr.add e (m*1)) c) (f - m) (d - m))]⟩ H fun z2 I=>
 ∃C,z2=Value.int .u32 C∧
 Zb h g I∧(NewW I (Obj.cells ⟨[]⟩ Zh) fun B6 x1=>
 FnW Tryz.prog Zeb ⟨[(Value.slice (if d=l then c else Option.map (fun e=>Addr.add e (l*1)) c) (f - l) (d - l))]⟩ x1 fun z6 a9=>
 ∃m6,z6=Value.int .u32 m6∧
 Zb h g a9∧FnW Tryz.prog Zbs ⟨[(Value.slice (if d=k then c else Option.map (fun e=>Addr.add e (k*1)) c) (f - k) (d - k))]⟩ a9 fun A3 b0=>
 ∃n1,A3=Value.int .i64 n1∧
 Zb h g b0∧FnW Tryz.prog Zbs ⟨[(Value.slice (if d=i then c else Option.map (fun e=>Addr.add e (i*1)) c) (f - i) (d - i))]⟩ b0 fun A9 b1=>
 ∃n6,A9=Value.int .i64 n6∧
 Zb h g b1∧AppW Tryz.prog #[Zd,Zd] Zd [(Value.slice (some ⟨B6,0,none⟩) 0 0),(Value.slice (if d=j then c else Option.map (fun e=>Addr.add e (j*1)) c) (f - j) (d - j))] b1 fun C3 b2=>
 ∃o3 p7 p0,C3=Value.slice o3 p7 p0∧
 Zb h g b2∧Za b2 ⟨a,0,none⟩ (Value.int .i64 A) fun x2=>
 Za x2 ⟨a,1,none⟩ (Value.int .i64 B) fun x3=>
 Za x3 ⟨a,2,none⟩ (Value.int .u32 C) fun x4=>
 Za x4 ⟨a,3,none⟩ (Value.int .u32 m6) fun x5=>
 Za x5 ⟨a,4,none⟩ (Value.int .i64 (IntKind.wrap .i64 (Zbc .u8 z 63))) fun x6=>
 Za x6 ⟨a,5,none⟩ (Value.int .i64 n1) fun x7=>
 Za x7 ⟨a,6,none⟩ (Value.int .i64 n6) fun x8=>
 Za x8 ⟨a,7,none⟩ (Value.int .i64 y) fun x9=>
 Za x9 ⟨a,8,none⟩ (Value.slice o3 p7 p0) fun w=>
 ∃c0,w.cell ⟨a,0,none⟩=some (Value.int .i64 c0)∧∃c9,w.cell ⟨a,1,none⟩=some (Value.int .i64 c9)∧∃d8,w.cell ⟨a,2,none⟩=some (Value.int .u32 d8)∧∃e7,w.cell ⟨a,3,none⟩=some (Value.int .u32 e7)∧∃f6,w.cell ⟨a,4,none⟩=some (Value.int .i64 f6)∧∃g5,w.cell ⟨a,5,none⟩=some (Value.int .i64 g5)∧∃h4,w.cell ⟨a,6,none⟩=some (Value.int .i64 h4)∧∃i3,w.cell ⟨a,7,none⟩=some (Value.int .i64 i3)∧∃j2 l0 k1,w.cell ⟨a,8,none⟩=some (Value.slice j2 l0 k1)∧x (Value.tuple ⟨[(Value.agg ⟨[(Value.int .i64 c0),(Value.int .i64 c9),(Value.int .u32 d8),(Value.int .u32 e7),(Value.int .i64 f6),(Value.int .i64 g5),(Value.int .i64 h4),(Value.int .i64 i3),(Value.slice j2 l0 k1)]⟩),(Value.int .i64 0)]⟩) w)∧
 (FnW Tryz.prog Zeb ⟨[(Value.slice (if d=l then c else Option.map (fun e=>Addr.add e (l*1)) c) (f - l) (d - l))]⟩ I fun z7 J=>
 ∃E,z7=Value.int .u32 E∧
 Zb h g J∧(NewW J (Obj.cells ⟨[]⟩ Zh) fun B7 y0=>
 FnW Tryz.prog Zbs ⟨[(Value.slice (if d=k then c else Option.map (fun e=>Addr.add e (k*1)) c) (f - k) (d - k))]⟩ y0 fun A4 b3=>
 ∃n2,A4=Value.int .i64 n2∧
 Zb h g b3∧FnW Tryz.prog Zbs ⟨[(Value.slice (if d=i then c else Option.map (fun e=>Addr.add e (i*1)) c) (f - i) (d - i))]⟩ b3 fun B0 b4=>
 ∃n7,B0=Value.int .i64 n7∧
 Zb h g b4∧AppW Tryz.prog #[Zd,Zd] Zd [(Value.slice (some ⟨B7,0,none⟩) 0 0),(Value.slice (if d=j then c else Option.map (fun e=>Addr.add e (j*1)) c) (f - j) (d - j))] b4 fun C4 L=>
 ∃o4 p8 p1,C4=Value.slice o4 p8 p1∧
 Zb h g L∧Za L ⟨a,0,none⟩ (Value.int .i64 A) fun q1=>
 Za q1 ⟨a,1,none⟩ (Value.int .i64 B) fun q2=>
 Za q2 ⟨a,2,none⟩ (Value.int .u32 C) fun q3=>
 Za q3 ⟨a,3,none⟩ (Value.int .u32 E) fun q4=>
 Za q4 ⟨a,4,none⟩ (Value.int .i64 (IntKind.wrap .i64 (Zbc .u8 z 63))) fun q5=>
 Za q5 ⟨a,5,none⟩ (Value.int .i64 n2) fun q6=>
 Za q6 ⟨a,6,none⟩ (Value.int .i64 n7) fun q7=>
 Za q7 ⟨a,7,none⟩ (Value.int .i64 y) fun q8=>
 Za q8 ⟨a,8,none⟩ (Value.slice o4 p8 p1) fun o=>
 ∃c1,o.cell ⟨a,0,none⟩=some (Value.int .i64 c1)∧∃d0,o.cell ⟨a,1,none⟩=some (Value.int .i64 d0)∧∃d9,o.cell ⟨a,2,none⟩=some (Value.int .u32 d9)∧∃e8,o.cell ⟨a,3,none⟩=some (Value.int .u32 e8)∧∃f7,o.cell ⟨a,4,none⟩=some (Value.int .i64 f7)∧∃g6,o.cell ⟨a,5,none⟩=some (Value.int .i64 g6)∧∃h5,o.cell ⟨a,6,none⟩=some (Value.int .i64 h5)∧∃i4,o.cell ⟨a,7,none⟩=some (Value.int .i64 i4)∧∃j3 l1 k2,o.cell ⟨a,8,none⟩=some (Value.slice j3 l1 k2)∧x (Value.tuple ⟨[(Value.agg ⟨[(Value.int .i64 c1),(Value.int .i64 d0),(Value.int .u32 d9),(Value.int .u32 e8),(Value.int .i64 f7),(Value.int .i64 g6),(Value.int .i64 h5),(Value.int .i64 i4),(Value.slice j3 l1 k2)]⟩),(Value.int .i64 0)]⟩) o)∧
 (FnW Tryz.prog Zbs ⟨[(Value.slice (if d=k then c else Option.map (fun e=>Addr.add e (k*1)) c) (f - k) (d - k))]⟩ J fun A5 F=>
 ∃K,A5=Value.int .i64 K∧
 Zb h g F∧(NewW F (Obj.cells ⟨[]⟩ Zh) fun B8 q9=>
 FnW Tryz.prog Zbs ⟨[(Value.slice (if d=i then c else Option.map (fun e=>Addr.add e (i*1)) c) (f - i) (d - i))]⟩ q9 fun B1 N=>
 ∃n8,B1=Value.int .i64 n8∧
 Zb h g N∧AppW Tryz.prog #[Zd,Zd] Zd [(Value.slice (some ⟨B8,0,none⟩) 0 0),(Value.slice (if d=j then c else Option.map (fun e=>Addr.add e (j*1)) c) (f - j) (d - j))] N fun C5 O=>
 ∃o5 p9 p2,C5=Value.slice o5 p9 p2∧
 Zb h g O∧Za O ⟨a,0,none⟩ (Value.int .i64 A) fun r0=>
 Za r0 ⟨a,1,none⟩ (Value.int .i64 B) fun r1=>
 Za r1 ⟨a,2,none⟩ (Value.int .u32 C) fun r2=>
 Za r2 ⟨a,3,none⟩ (Value.int .u32 E) fun r3=>
 Za r3 ⟨a,4,none⟩ (Value.int .i64 (IntKind.wrap .i64 (Zbc .u8 z 63))) fun r4=>
 Za r4 ⟨a,5,none⟩ (Value.int .i64 K) fun r5=>
 Za r5 ⟨a,6,none⟩ (Value.int .i64 n8) fun r7=>
 Za r7 ⟨a,7,none⟩ (Value.int .i64 y) fun r8=>
 Za r8 ⟨a,8,none⟩ (Value.slice o5 p9 p2) fun p=>
 ∃c2,p.cell ⟨a,0,none⟩=some (Value.int .i64 c2)∧∃d1,p.cell ⟨a,1,none⟩=some (Value.int .i64 d1)∧∃e0,p.cell ⟨a,2,none⟩=some (Value.int .u32 e0)∧∃e9,p.cell ⟨a,3,none⟩=some (Value.int .u32 e9)∧∃f8,p.cell ⟨a,4,none⟩=some (Value.int .i64 f8)∧∃g7,p.cell ⟨a,5,none⟩=some (Value.int .i64 g7)∧∃h6,p.cell ⟨a,6,none⟩=some (Value.int .i64 h6)∧∃i5,p.cell ⟨a,7,none⟩=some (Value.int .i64 i5)∧∃j4 l2 k3,p.cell ⟨a,8,none⟩=some (Value.slice j4 l2 k3)∧x (Value.tuple ⟨[(Value.agg ⟨[(Value.int .i64 c2),(Value.int .i64 d1),(Value.int .u32 e0),(Value.int .u32 e9),(Value.int .i64 f8),(Value.int .i64 g7),(Value.int .i64 h6),(Value.int .i64 i5),(Value.slice j4 l2 k3)]⟩),(Value.int .i64 0)]⟩) p)∧
 (FnW Tryz.prog Zbs ⟨[(Value.slice (if d=i then c else Option.map (fun e=>Addr.add e (i*1)) c) (f - i) (d - i))]⟩ F fun B2 P=>
 ∃n9,B2=Value.int .i64 n9∧
 Zb h g P∧NewW P (Obj.cells ⟨[]⟩ Zh) fun B9 r9=>
 AppW Tryz.prog #[Zd,Zd] Zd [(Value.slice (some ⟨B9,0,none⟩) 0 0),(Value.slice (if d=j then c else Option.map (fun e=>Addr.add e (j*1)) c) (f - j) (d - j))] r9 fun C6 Q=>
 ∃o6 q0 p3,C6=Value.slice o6 q0 p3∧
 Zb h g Q∧Za Q ⟨a,0,none⟩ (Value.int .i64 A) fun s0=>
 Za s0 ⟨a,1,none⟩ (Value.int .i64 B) fun s1=>
 Za s1 ⟨a,2,none⟩ (Value.int .u32 C) fun s2=>
 Za s2 ⟨a,3,none⟩ (Value.int .u32 E) fun s3=>
 Za s3 ⟨a,4,none⟩ (Value.int .i64 (IntKind.wrap .i64 (Zbc .u8 z 63))) fun s5=>
 Za s5 ⟨a,5,none⟩ (Value.int .i64 K) fun s6=>
 Za s6 ⟨a,6,none⟩ (Value.int .i64 n9) fun s7=>
 Za s7 ⟨a,7,none⟩ (Value.int .i64 y) fun s8=>
 Za s8 ⟨a,8,none⟩ (Value.slice o6 q0 p3) fun q=>
 ∃c3,q.cell ⟨a,0,none⟩=some (Value.int .i64 c3)∧∃d2,q.cell ⟨a,1,none⟩=some (Value.int .i64 d2)∧∃e1,q.cell ⟨a,2,none⟩=some (Value.int .u32 e1)∧∃f0,q.cell ⟨a,3,none⟩=some (Value.int .u32 f0)∧∃f9,q.cell ⟨a,4,none⟩=some (Value.int .i64 f9)∧∃g8,q.cell ⟨a,5,none⟩=some (Value.int .i64 g8)∧∃h7,q.cell ⟨a,6,none⟩=some (Value.int .i64 h7)∧∃i6,q.cell ⟨a,7,none⟩=some (Value.int .i64 i6)∧∃j5 l3 k4,q.cell ⟨a,8,none⟩=some (Value.slice j5 l3 k4)∧x (Value.tuple ⟨[(Value.agg ⟨[(Value.int .i64 c3),(Value.int .i64 d2),(Value.int .u32 e1),(Value.int .u32 f0),(Value.int .i64 f9),(Value.int .i64 g8),(Value.int .i64 h7),(Value.int .i64 i6),(Value.slice j5 l3 k4)]⟩),(Value.int .i64 0)]⟩) q))))))))
def Zbqm (E F:Int) (f:Option Addr) (c h:Nat) (u:Heap) (g:Value->Heap->Prop):Prop:=
 NewW u (Obj.cells ⟨[(Value.int .i64 0),(Value.int .i64 0),(Value.int .u32 0),(Value.int .u32 0),(Value.int .i64 0),(Value.int .i64 0),(Value.int .i64 0),(Value.int .i64 0),(Value.slice none 0 0)]⟩ Zl) fun a e=>
 IfB (decide (((c:Int):Int)<20))
 (Za e ⟨a,0,none⟩ (Value.int .i64 0) fun w=>
 Za w ⟨a,1,none⟩ (Value.int .i64 0) fun x=>
 Za x ⟨a,2,none⟩ (Value.int .u32 0) fun y=>
 Za y ⟨a,3,none⟩ (Value.int .u32 0) fun z=>
 Za z ⟨a,4,none⟩ (Value.int .i64 0) fun A=>
 Za A ⟨a,5,none⟩ (Value.int .i64 0) fun B=>
 Za B ⟨a,6,none⟩ (Value.int .i64 0) fun C=>
 Za C ⟨a,7,none⟩ (Value.int .i64 0) fun D=>
 Za D ⟨a,8,none⟩ (Value.slice none 0 0) fun b=>
 ∃i,b.cell ⟨a,0,none⟩=some (Value.int .i64 i)∧∃j,b.cell ⟨a,1,none⟩=some (Value.int .i64 j)∧∃k,b.cell ⟨a,2,none⟩=some (Value.int .u32 k)∧∃l,b.cell ⟨a,3,none⟩=some (Value.int .u32 l)∧∃m,b.cell ⟨a,4,none⟩=some (Value.int .i64 m)∧∃n,b.cell ⟨a,5,none⟩=some (Value.int .i64 n)∧∃o,b.cell ⟨a,6,none⟩=some (Value.int .i64 o)∧∃p,b.cell ⟨a,7,none⟩=some (Value.int .i64 p)∧∃q s r,b.cell ⟨a,8,none⟩=some (Value.slice q s r)∧g (Value.tuple ⟨[(Value.agg ⟨[(Value.int .i64 i),(Value.int .i64 j),(Value.int .u32 k),(Value.int .u32 l),(Value.int .i64 m),(Value.int .i64 n),(Value.int .i64 o),(Value.int .i64 p),(Value.slice q s r)]⟩),(Value.int .i64 110)]⟩) b)
 (NilP f fun I=>
 InB 12 c fun G=>
 elemAt I G 1 fun H=>
 ∃d,e.cell H=some (Value.int .u8 d)∧
 (0:Int) <= 4∧
 IfB (decide (((IntKind.wrap .i64 (4*(IntKind.wrap .i64 (Int.fdiv d (2^(min (4:Int).toNat (IntKind.bits .u8))))))):Int)<20))
 (Znq f c h a d true e g)
 (IfB (decide (((IntKind.wrap .i64 (4*(IntKind.wrap .i64 (Int.fdiv d (2^(min (4:Int).toNat (IntKind.bits .u8))))))):Int)>(c:Int)))
 (Znq f c h a d true e g)
 (FnW Tryz.prog Zmi ⟨[(Value.int .u32 E),(Value.int .u32 F),(Value.slice f c h)]⟩ e fun J v=>
 ∃t,J=Value.int .u32 t∧
 Znq f c h a d (t !=65535) v g)))
theorem Zcir (g h:Int) (d:Option Addr) (f e:Nat) {a:Heap} {c:Value->Heap->Prop} (j:Zbqm g h d f e a fun k i=>∀b,Shut a i b->c k b):FnW Tryz.prog Zyf ⟨[(Value.int .u32 g),(Value.int .u32 h),(Value.slice d f e)]⟩ a c:=Zc Tryz.func26 ⟨[(7,[0,2,3,5,6,8,9,11,12,13,14,15,16,17,19,20,22,24,25,26,23,1,4,7,10,18,21,27,28,29,30],[57])],[],[],[(7,⟨23,[11,12,13],[0,2,3,5,6,8,9,14,15,16,17,19,20,22,24,25,26,1,4,7,10,18,21],[27],[28,29,30],[1,4,7,10,18,21]⟩)]⟩ (by kernel_rfl) (by kernel_rfl) j
def Zblv (c:Nat) (g:Int) (f:Heap) (b:Value->Heap->Prop):Prop:=
 FnW Tryz.prog Zlw ⟨[(Value.pointer (some ⟨c,0,none⟩))]⟩ f fun h a=>
 ∃e,h=Value.bool e∧
 IfB (!e)
 (b (Value.int .i64 1) a)
 (∃d,a.cell ⟨c,6,none⟩=some (Value.int .i64 d)∧
 IfB (decide (g<d))
 (b (Value.int .i64 2) a)
 (b (Value.int .i64 0) a))
theorem Zcen (e:Nat) (d:Int) {a:Heap} {c:Value->Heap->Prop} (g:Zblv e d a fun h f=>∀b,Shut a f b->c h b):FnW Tryz.prog Zpk ⟨[(Value.pointer (some ⟨e,0,none⟩)),(Value.int .i64 d)]⟩ a c:=Zc Tryz.func28 ⟨[],[],[],[]⟩ (by kernel_rfl) (by kernel_rfl) g
def Zbky (c:Int) (a:Heap) (b:Value->Heap->Prop):Prop:=
 IfB (decide (c≥1))
 (b (Value.bool (decide (c <= 65535))) a)
 (b (Value.bool false) a)
theorem Zcdl (d:Int) {a:Heap} {c:Value->Heap->Prop} (f:Zbky d a fun g e=>∀b,Shut a e b->c g b):FnW Tryz.prog Zlv ⟨[(Value.int .i64 d)]⟩ a c:=Zc Tryz.func29 ⟨[],[],[],[]⟩ (by kernel_rfl) (by kernel_rfl) f
def Zblw (b:Nat) (a:Heap) (g:Value->Heap->Prop):Prop:=
 ∃e,a.cell ⟨b,1,none⟩=some (Value.int .u32 e)∧
 ∃c,a.cell ⟨b,5,none⟩=some (Value.int .i64 c)∧
 FnW Tryz.prog Zdm ⟨[(Value.int .u32 e),(Value.int .i64 (IntKind.wrap .i64 (64000*(IntKind.wrap .i64 (c+1)))))]⟩ a fun h f=>
 ∃d,h=Value.int .u32 d∧
 g (Value.int .u32 d) f
theorem Zceo (d:Nat) {a:Heap} {c:Value->Heap->Prop} (f:Zblw d a fun g e=>∀b,Shut a e b->c g b):FnW Tryz.prog Zpl ⟨[(Value.pointer (some ⟨d,0,none⟩))]⟩ a c:=Zc Tryz.func31 ⟨[],[],[],[]⟩ (by kernel_rfl) (by kernel_rfl) f
def Zblx (d:Nat) (B C D:Int) (z A:Nat) (t:Heap) (y:Value->Heap->Prop):Prop:=
 NewW t (Obj.cells ⟨[(Value.int .u32 B),(Value.int .i64 C),(Value.int .i64 D)]⟩ Zeo) fun b h=>
 ∃i,h.cell ⟨d,5,none⟩=some (Value.int .i64 i)∧
 Za h ⟨d,5,none⟩ (Value.int .i64 (IntKind.wrap .i64 (i+1))) fun c=>
 ∃j,c.cell ⟨b,0,none⟩=some (Value.int .u32 j)∧∃k,c.cell ⟨b,1,none⟩=some (Value.int .i64 k)∧∃l,c.cell ⟨b,2,none⟩=some (Value.int .i64 l)∧∃m,c.cell ⟨d,5,none⟩=some (Value.int .i64 m)∧
 NewW c (Obj.cells ⟨[(Value.int .u32 j),(Value.int .i64 k),(Value.int .i64 l),(Value.int .i64 m),(Value.pointer (some ⟨z,A,none⟩))]⟩ Zve) fun e a=>
 ∃f:Value,a.cell ⟨d,3,none⟩=some f∧
 ∃n,a.cell ⟨b,0,none⟩=some (Value.int .u32 n)∧∃o,a.cell ⟨b,1,none⟩=some (Value.int .i64 o)∧∃p,a.cell ⟨b,2,none⟩=some (Value.int .i64 p)∧∃g:Value,a.cell ⟨d,4,none⟩=some g∧
 ∃q,a.cell ⟨e,3,none⟩=some (Value.int .i64 q)∧
 SemW Tryz.prog (Instr.mapEntry Zfd f (Value.agg ⟨[(Value.int .u32 n),(Value.int .i64 o),(Value.int .i64 p)]⟩)) a fun E u=>
 ∃(F:Value) (r:Int),E=Value.tuple ⟨[F,Value.int .i64 r]⟩∧
 EsW Tryz.prog Zfd f (Value.int .i64 r) (Value.pointer (some ⟨e,0,none⟩)) u fun I v=>
 SemW Tryz.prog (Instr.mapEntry Zez g (Value.int .i64 q)) v fun G w=>
 ∃(H:Value) (s:Int),G=Value.tuple ⟨[H,Value.int .i64 s]⟩∧
 EsW Tryz.prog Zez g (Value.int .i64 s) (Value.pointer (some ⟨e,0,none⟩)) w fun J x=>
 y (Value.pointer (some ⟨e,0,none⟩)) x
theorem Zcep (i:Nat) (f g h:Int) (d e:Nat) {a:Heap} {c:Value->Heap->Prop} (k:Zblx i f g h d e a fun l j=>∀b,Shut a j b->c l b):FnW Tryz.prog Zpm ⟨[(Value.pointer (some ⟨i,0,none⟩)),(Value.agg ⟨[(Value.int .u32 f),(Value.int .i64 g),(Value.int .i64 h)]⟩),(Value.pointer (some ⟨d,e,none⟩))]⟩ a c:=Zc Tryz.func32 ⟨[],[],[],[]⟩ (by kernel_rfl) (by kernel_rfl) k
def Zbpi (a2:Nat) (j:Int) (a0:Option Addr) (f a9:Nat) (g:Option Addr) (i h:Nat) (e:Int) (c:Heap) (a1:((Option Addr×Nat×Nat)×Int×Unit)->Heap->Prop) (Z:Value->Heap->Prop):Prop:=
 IfB (decide (e<(f:Int)))
 (NilP a0 fun a4=>
 InB e f fun a3=>
 elemAt a4 a3 9 fun b=>
 ∃k,c.cell b=some (Value.int .i64 k)∧∃l,c.cell ⟨b.block,b.off+1,none⟩=some (Value.int .i64 l)∧∃m,c.cell ⟨b.block,b.off+2,none⟩=some (Value.int .u32 m)∧∃n,c.cell ⟨b.block,b.off+3,none⟩=some (Value.int .u32 n)∧∃o,c.cell ⟨b.block,b.off+4,none⟩=some (Value.int .i64 o)∧∃p,c.cell ⟨b.block,b.off+5,none⟩=some (Value.int .i64 p)∧∃q,c.cell ⟨b.block,b.off+6,none⟩=some (Value.int .i64 q)∧∃r,c.cell ⟨b.block,b.off+7,none⟩=some (Value.int .i64 r)∧∃s u t,c.cell ⟨b.block,b.off+8,none⟩=some (Value.slice s u t)∧NewW c (Obj.cells ⟨[(Value.int .i64 0),(Value.int .i64 0),(Value.int .u32 0),(Value.int .u32 0),(Value.int .i64 0),(Value.int .i64 0),(Value.int .i64 0),(Value.int .i64 0),(Value.slice none 0 0)]⟩ Zl) fun a R=>
 Za R ⟨a,0,none⟩ (Value.int .i64 k) fun S=>
 Za S ⟨a,1,none⟩ (Value.int .i64 l) fun T=>
 Za T ⟨a,2,none⟩ (Value.int .u32 m) fun U=>
 Za U ⟨a,3,none⟩ (Value.int .u32 n) fun V=>
 Za V ⟨a,4,none⟩ (Value.int .i64 o) fun W=>
 Za W ⟨a,5,none⟩ (Value.int .i64 p) fun X=>
 Za X ⟨a,6,none⟩ (Value.int .i64 q) fun Y=>
 Za Y ⟨a,7,none⟩ (Value.int .i64 r) fun N=>
 Za N ⟨a,8,none⟩ (Value.slice s u t) fun d=>
 ∃v,d.cell ⟨a2,0,none⟩=some (Value.int .u32 v)∧
 ∃w,d.cell ⟨a,0,none⟩=some (Value.int .i64 w)∧∃x,d.cell ⟨a,1,none⟩=some (Value.int .i64 x)∧∃y,d.cell ⟨a,2,none⟩=some (Value.int .u32 y)∧∃z,d.cell ⟨a,3,none⟩=some (Value.int .u32 z)∧∃A,d.cell ⟨a,4,none⟩=some (Value.int .i64 A)∧∃B,d.cell ⟨a,5,none⟩=some (Value.int .i64 B)∧∃C,d.cell ⟨a,6,none⟩=some (Value.int .i64 C)∧∃D,d.cell ⟨a,7,none⟩=some (Value.int .i64 D)∧∃E G F,d.cell ⟨a,8,none⟩=some (Value.slice E G F)∧FnW Tryz.prog Zmj ⟨[(Value.int .u32 v),(Value.int .u32 j),(Value.agg ⟨[(Value.int .i64 w),(Value.int .i64 x),(Value.int .u32 y),(Value.int .u32 z),(Value.int .i64 A),(Value.int .i64 B),(Value.int .i64 C),(Value.int .i64 D),(Value.slice E G F)]⟩)]⟩ d fun a6 O=>
 ∃H J I,∃a5:Int,a6=(Value.tuple ⟨[(Value.slice H J I),(Value.int .i64 a5)]⟩)∧
 NewW O (Obj.cells ⟨[(Value.int .u32 j),(Value.slice H J I)]⟩ Zen) fun a7 P=>
 AppW Tryz.prog #[Zja,Zja] Zja [(Value.slice g i h),(Value.slice (some ⟨a7,0,none⟩) 1 1)] P fun a8 Q=>
 ∃K M L,a8=Value.slice K M L∧
 a1 ((K,M,L),((IntKind.wrap .i64 (e+1)),())) Q)
 (Z (Value.slice g i h) c)
def Zbpj (h:Nat) (i:Int) (d:Option Addr) (f e:Nat) (b:Heap) (c:Value->Heap->Prop):Prop:=
 Zbk ((Option Addr×Nat×Nat)×Int×Unit) ((none,0,0),(0,())) b fun a b g=>∀j:Env,Zbpi h i d f e a.1.1 a.1.2.1 a.1.2.2 a.2.1 b g c
theorem Zchq (g:Nat) (h:Int) (d:Option Addr) (f e:Nat) {a:Heap} {c:Value->Heap->Prop} (j:Zbpj g h d f e a fun k i=>∀b,Shut a i b->c k b):FnW Tryz.prog Zgx ⟨[(Value.pointer (some ⟨g,0,none⟩)),(Value.int .u32 h),(Value.slice d f e)]⟩ a c:=Zc Tryz.func33 ⟨[],[(3,[7,14],[.slice,.int .i64],[0,1,12,13])],[],[]⟩ (by kernel_rfl) (by kernel_rfl) j
def Zbma (f:Nat) (n:Heap) (q:Value->Heap->Prop):Prop:=
 NewW n (Obj.cells ⟨[(Value.int .i64 0),(Value.int .i64 0)]⟩ Zff) fun c a=>
 ∃e:List Nat,(∀b∈e,∃r,a b=some r)∧
 ∃l,a.cell ⟨f,4,none⟩=some (Value.pointer l)∧
 f∈e∧∃j,a.cell ⟨f,4,none⟩=some (Value.pointer j)∧
 FnW Tryz.prog Zoz ⟨[(Value.pointer l)]⟩ a fun t g=>
 ∃m,t=Value.int .i64 m∧
 Zb e a g∧FnW Tryz.prog Zwo ⟨[(Value.pointer j)]⟩ g fun s o=>
 ∃k,s=Value.int .i64 k∧
 Za o ⟨c,0,none⟩ (Value.int .i64 m) fun p=>
 Za p ⟨c,1,none⟩ (Value.int .i64 k) fun d=>
 ∃h,d.cell ⟨c,0,none⟩=some (Value.int .i64 h)∧∃i,d.cell ⟨c,1,none⟩=some (Value.int .i64 i)∧q (Value.agg ⟨[(Value.int .i64 h),(Value.int .i64 i)]⟩) d
theorem Zces (d:Nat) {a:Heap} {c:Value->Heap->Prop} (f:Zbma d a fun g e=>∀b,Shut a e b->c g b):FnW Tryz.prog Zpo ⟨[(Value.pointer (some ⟨d,0,none⟩))]⟩ a c:=Zc Tryz.func45 ⟨[(1,[0,1,2,3,5,6,7,8,4,9,10,11],[11])],[],[],[]⟩ (by kernel_rfl) (by kernel_rfl) f
def Zbqs (l m:Nat) (c:Option Addr) (e d:Nat) (n:Int) (a:Heap) (b:Value->Heap->Prop):Prop:=
 IfB (decide (n <= 5))
 (∃f,a.cell ⟨l,m+3,none⟩=some (Value.int .i64 f)∧
 NewW a (Obj.cells ⟨[(Value.int .i64 3),(Value.int .i64 f)]⟩ Zbh) fun o j=>
 AppW Tryz.prog #[Zca,Zca] Zca [(Value.slice c e d),(Value.slice (some ⟨o,0,none⟩) 1 1)] j fun p k=>
 ∃g i h,p=Value.slice g i h∧
 b (Value.slice g i h) k)
 (b (Value.slice c e d) a)
def Zbci (j b c:Nat) (g:Option Addr) (i h:Nat) (w:Int) (a:Heap) (f:Value->Heap->Prop):Prop:=
 IfB (w==0)
 (∃k:Value,a.cell ⟨j,3,none⟩=some k∧
 ∃l,a.cell ⟨b,c,none⟩=some (Value.int .u32 l)∧∃m,a.cell ⟨b,c+1,none⟩=some (Value.int .i64 m)∧∃n,a.cell ⟨b,c+2,none⟩=some (Value.int .i64 n)∧SemW Tryz.prog (Builtin.delete_ #[Zfd,Zeo] T_ ⟨[k,(Value.agg ⟨[(Value.int .u32 l),(Value.int .i64 m),(Value.int .i64 n)]⟩)]⟩) a fun z d=>
 ∃o:Value,d.cell ⟨j,4,none⟩=some o∧
 ∃p,d.cell ⟨b,c+3,none⟩=some (Value.int .i64 p)∧
 SemW Tryz.prog (Builtin.delete_ #[Zez,Zy] T_ ⟨[o,(Value.int .i64 p)]⟩) d fun A e=>
 ∃q,e.cell ⟨b,c+3,none⟩=some (Value.int .i64 q)∧
 NewW e (Obj.cells ⟨[(Value.int .i64 4),(Value.int .i64 q)]⟩ Zbh) fun x u=>
 AppW Tryz.prog #[Zca,Zca] Zca [(Value.slice g i h),(Value.slice (some ⟨x,0,none⟩) 1 1)] u fun y v=>
 ∃r t s,y=Value.slice r t s∧
 f (Value.slice r t s) v)
 (f (Value.slice g i h) a)
def Znr (i f g j:Nat) (c:Option Addr) (e d:Nat) (k:Int) (l:Bool) (a:Heap) (b:Value->Heap->Prop):Prop:=
 IfB l
 (∃h,a.cell ⟨j,0,none⟩=some (Value.int .i64 h)∧
 Zbqs f g c e d h a b)
 (Zbci i f g c e d k a b)
def Zus (i g h j k:Nat) (d:Option Addr) (f e:Nat) (b:Heap) (c:Value->Heap->Prop):Prop:=
 ∃a,b.cell ⟨k,0,none⟩=some (Value.int .i64 a)∧
 IfB (a==6)
 (Znr i g h j d f e a (a==6) b c)
 (IfB (a==7)
 (Znr i g h j d f e a (a==7) b c)
 (Znr i g h j d f e a (a==9) b c))
def Zur (j c d e b:Nat) (g:Option Addr) (i h:Nat) (a:Heap) (f:Value->Heap->Prop):Prop:=
 ∃k,a.cell ⟨b,1,none⟩=some (Value.int .i64 k)∧
 ∃l,a.cell ⟨e,1,none⟩=some (Value.int .i64 l)∧
 IfB (decide (k>l))
 (∃m,a.cell ⟨c,d+3,none⟩=some (Value.int .i64 m)∧
 NewW a (Obj.cells ⟨[(Value.int .i64 2),(Value.int .i64 m)]⟩ Zbh) fun s q=>
 AppW Tryz.prog #[Zca,Zca] Zca [(Value.slice g i h),(Value.slice (some ⟨s,0,none⟩) 1 1)] q fun t r=>
 ∃n p o,t=Value.slice n p o∧
 Zus j c d e b n p o r f)
 (Zus j c d e b g i h a f)
def Zuq (f b c g e:Nat) (n:Bool) (a:Heap) (d:Value->Heap->Prop):Prop:=
 IfB n
 (∃h,a.cell ⟨b,c+3,none⟩=some (Value.int .i64 h)∧
 NewW a (Obj.cells ⟨[(Value.int .i64 1),(Value.int .i64 h)]⟩ Zbh) fun o l=>
 AppW Tryz.prog #[Zca,Zca] Zca [(Value.slice none 0 0),(Value.slice (some ⟨o,0,none⟩) 1 1)] l fun p m=>
 ∃i k j,p=Value.slice i k j∧
 Zur f b c g e i k j m d)
 (Zur f b c g e none 0 0 a d)
def Zbqt (g c d:Nat) (q r:Int) (l:Heap) (f:Value->Heap->Prop):Prop:=
 NewW l (Obj.cells ⟨[(Value.int .i64 q),(Value.int .i64 r)]⟩ Zff) fun e m=>
 FnW Tryz.prog Zpo ⟨[(Value.pointer (some ⟨c,d,none⟩))]⟩ m fun s n=>
 ∃h,∃i:Int,s=(Value.agg ⟨[(Value.int .i64 h),(Value.int .i64 i)]⟩)∧
 NewW n (Obj.cells ⟨[(Value.int .i64 0),(Value.int .i64 0)]⟩ Zff) fun a o=>
 Za o ⟨a,0,none⟩ (Value.int .i64 h) fun p=>
 Za p ⟨a,1,none⟩ (Value.int .i64 i) fun b=>
 ∃j,b.cell ⟨e,0,none⟩=some (Value.int .i64 j)∧
 IfB (decide (j<3))
 (∃k,b.cell ⟨a,0,none⟩=some (Value.int .i64 k)∧
 Zuq g c d e a (decide (k≥3)) b f)
 (Zuq g c d e a false b f)
theorem Zciw (f d e:Nat) (g h:Int) {a:Heap} {c:Value->Heap->Prop} (j:Zbqt f d e g h a fun k i=>∀b,Shut a i b->c k b):FnW Tryz.prog Zyd ⟨[(Value.pointer (some ⟨f,0,none⟩)),(Value.pointer (some ⟨d,e,none⟩)),(Value.agg ⟨[(Value.int .i64 g),(Value.int .i64 h)]⟩)]⟩ a c:=Zc Tryz.func47 ⟨[],[],[],[]⟩ (by kernel_rfl) (by kernel_rfl) j
def Zbmy (h:Nat) (f4 f5 f6 g2 g3 g4 g5 g6 g7 g8 g9:Int) (h0:Option Addr) (h2 h1:Nat) (d9:Heap) (j:Value->Heap->Prop):Prop:=
 NewW d9 (Obj.cells ⟨[(Value.int .u32 f4),(Value.int .i64 f5),(Value.int .i64 f6)]⟩ Zeo) fun l e0=>
 NewW e0 (Obj.cells ⟨[(Value.int .i64 g2),(Value.int .i64 g3),(Value.int .u32 g4),(Value.int .u32 g5),(Value.int .i64 g6),(Value.int .i64 g7),(Value.int .i64 g8),(Value.int .i64 g9),(Value.slice h0 h2 h1)]⟩ Zl) fun a g=>
 ∃o,g.cell ⟨a,0,none⟩=some (Value.int .i64 o)∧∃p,g.cell ⟨a,1,none⟩=some (Value.int .i64 p)∧∃q,g.cell ⟨a,2,none⟩=some (Value.int .u32 q)∧∃r,g.cell ⟨a,3,none⟩=some (Value.int .u32 r)∧∃s,g.cell ⟨a,4,none⟩=some (Value.int .i64 s)∧∃t,g.cell ⟨a,5,none⟩=some (Value.int .i64 t)∧∃u,g.cell ⟨a,6,none⟩=some (Value.int .i64 u)∧∃v,g.cell ⟨a,7,none⟩=some (Value.int .i64 v)∧∃w y x,g.cell ⟨a,8,none⟩=some (Value.slice w y x)∧FnW Tryz.prog Zxe ⟨[(Value.pointer (some ⟨h,0,none⟩)),(Value.agg ⟨[(Value.int .i64 o),(Value.int .i64 p),(Value.int .u32 q),(Value.int .u32 r),(Value.int .i64 s),(Value.int .i64 t),(Value.int .i64 u),(Value.int .i64 v),(Value.slice w y x)]⟩)]⟩ g fun f8 f=>
 ∃z,f8=Value.bool z∧
 IfB (!z)
 (∃A,f.cell ⟨a,0,none⟩=some (Value.int .i64 A)∧∃B,f.cell ⟨a,1,none⟩=some (Value.int .i64 B)∧∃C,f.cell ⟨a,2,none⟩=some (Value.int .u32 C)∧∃D,f.cell ⟨a,3,none⟩=some (Value.int .u32 D)∧∃E,f.cell ⟨a,4,none⟩=some (Value.int .i64 E)∧∃F,f.cell ⟨a,5,none⟩=some (Value.int .i64 F)∧∃G,f.cell ⟨a,6,none⟩=some (Value.int .i64 G)∧∃H,f.cell ⟨a,7,none⟩=some (Value.int .i64 H)∧∃I K J,f.cell ⟨a,8,none⟩=some (Value.slice I K J)∧FnW Tryz.prog Zqb ⟨[(Value.agg ⟨[(Value.int .i64 A),(Value.int .i64 B),(Value.int .u32 C),(Value.int .u32 D),(Value.int .i64 E),(Value.int .i64 F),(Value.int .i64 G),(Value.int .i64 H),(Value.slice I K J)]⟩)]⟩ f fun f9 e8=>
 ∃L,∃M:Int,∃N:Int,∃O:Int,∃P:Int,∃Q:Int,∃R:Int,∃S:Int,∃(T:Option Addr) (V U:Nat),∃W:Bool,f9=(Value.tuple ⟨[(Value.agg ⟨[(Value.int .i64 L),(Value.int .i64 M),(Value.int .u32 N),(Value.int .u32 O),(Value.int .i64 P),(Value.int .i64 Q),(Value.int .i64 R),(Value.int .i64 S),(Value.slice T V U)]⟩),(Value.bool W)]⟩)∧
 NewW e8 (Obj.cells ⟨[(Value.int .i64 0),(Value.int .i64 0),(Value.int .u32 0),(Value.int .u32 0),(Value.int .i64 0),(Value.int .i64 0),(Value.int .i64 0),(Value.int .i64 0),(Value.slice none 0 0)]⟩ Zl) fun c e9=>
 Za e9 ⟨c,0,none⟩ (Value.int .i64 L) fun f0=>
 Za f0 ⟨c,1,none⟩ (Value.int .i64 M) fun f1=>
 Za f1 ⟨c,2,none⟩ (Value.int .u32 N) fun f2=>
 Za f2 ⟨c,3,none⟩ (Value.int .u32 O) fun f3=>
 Za f3 ⟨c,4,none⟩ (Value.int .i64 P) fun e1=>
 Za e1 ⟨c,5,none⟩ (Value.int .i64 Q) fun e2=>
 Za e2 ⟨c,6,none⟩ (Value.int .i64 R) fun e3=>
 Za e3 ⟨c,7,none⟩ (Value.int .i64 S) fun e4=>
 Za e4 ⟨c,8,none⟩ (Value.slice T V U) fun e=>
 IfB (!W)
 (j (Value.slice none 0 0) e)
 (∃X,e.cell ⟨l,0,none⟩=some (Value.int .u32 X)∧
 ∃Y,e.cell ⟨c,0,none⟩=some (Value.int .i64 Y)∧∃Z,e.cell ⟨c,1,none⟩=some (Value.int .i64 Z)∧∃a0,e.cell ⟨c,2,none⟩=some (Value.int .u32 a0)∧∃a1,e.cell ⟨c,3,none⟩=some (Value.int .u32 a1)∧∃a2,e.cell ⟨c,4,none⟩=some (Value.int .i64 a2)∧∃a3,e.cell ⟨c,5,none⟩=some (Value.int .i64 a3)∧∃a4,e.cell ⟨c,6,none⟩=some (Value.int .i64 a4)∧∃a5,e.cell ⟨c,7,none⟩=some (Value.int .i64 a5)∧∃a6 a8 a7,e.cell ⟨c,8,none⟩=some (Value.slice a6 a8 a7)∧NewW e (Obj.cells ⟨[(Value.int .i64 Y),(Value.int .i64 Z),(Value.int .u32 a0),(Value.int .u32 a1),(Value.int .i64 a2),(Value.int .i64 a3),(Value.int .i64 a4),(Value.int .i64 a5),(Value.slice a6 a8 a7)]⟩ Zl) fun g0 e5=>
 FnW Tryz.prog Zgx ⟨[(Value.pointer (some ⟨h,0,none⟩)),(Value.int .u32 X),(Value.slice (some ⟨g0,0,none⟩) 1 1)]⟩ e5 fun g1 e6=>
 ∃a9 b1 b0,g1=Value.slice a9 b1 b0∧
 j (Value.slice a9 b1 b0) e6))
 (∃b2:Value,f.cell ⟨h,4,none⟩=some b2∧
 SemW Tryz.prog (Builtin.len_ #[Zez] Zy ⟨[b2]⟩) f fun h3 d=>
 ∃b3,h3=Value.int .i64 b3∧
 IfB (decide (b3≥16))
 (j (Value.slice none 0 0) d)
 (∃k:List Nat,(∀b∈k,∃f7,d b=some f7)∧
 h∈k∧∃b4,d.cell ⟨h,6,none⟩=some (Value.int .i64 b4)∧
 a∈k∧∃b5,d.cell ⟨a,0,none⟩=some (Value.int .i64 b5)∧∃b6,d.cell ⟨a,1,none⟩=some (Value.int .i64 b6)∧∃b7,d.cell ⟨a,2,none⟩=some (Value.int .u32 b7)∧∃b8,d.cell ⟨a,3,none⟩=some (Value.int .u32 b8)∧∃b9,d.cell ⟨a,4,none⟩=some (Value.int .i64 b9)∧∃c0,d.cell ⟨a,5,none⟩=some (Value.int .i64 c0)∧∃c1,d.cell ⟨a,6,none⟩=some (Value.int .i64 c1)∧∃c2,d.cell ⟨a,7,none⟩=some (Value.int .i64 c2)∧∃c3 c5 c4,d.cell ⟨a,8,none⟩=some (Value.slice c3 c5 c4)∧FnW Tryz.prog Zpl ⟨[(Value.pointer (some ⟨h,0,none⟩))]⟩ d fun h4 m=>
 ∃c6,h4=Value.int .u32 c6∧
 Zb k d m∧FnW Tryz.prog Zxp ⟨[(Value.int .i64 b4),(Value.agg ⟨[(Value.int .i64 b5),(Value.int .i64 b6),(Value.int .u32 b7),(Value.int .u32 b8),(Value.int .i64 b9),(Value.int .i64 c0),(Value.int .i64 c1),(Value.int .i64 c2),(Value.slice c3 c5 c4)]⟩),(Value.int .u32 c6)]⟩ m fun h5 i=>
 ∃c7,∃(c8:Option Addr) (d0 c9:Nat),∃d1:Int,h5=(Value.tuple ⟨[(Value.pointer c7),(Value.slice c8 d0 c9),(Value.int .i64 d1)]⟩)∧
 Zb k d i∧IfB (d1 !=0)
 (j (Value.slice none 0 0) i)
 (∃d2,i.cell ⟨l,0,none⟩=some (Value.int .u32 d2)∧∃d3,i.cell ⟨l,1,none⟩=some (Value.int .i64 d3)∧∃d4,i.cell ⟨l,2,none⟩=some (Value.int .i64 d4)∧FnW Tryz.prog Zpm ⟨[(Value.pointer (some ⟨h,0,none⟩)),(Value.agg ⟨[(Value.int .u32 d2),(Value.int .i64 d3),(Value.int .i64 d4)]⟩),(Value.pointer c7)]⟩ i fun h7 n=>
 ∃h6,h7=Value.pointer h6∧
 ∃d5,n.cell ⟨l,0,none⟩=some (Value.int .u32 d5)∧
 FnW Tryz.prog Zgx ⟨[(Value.pointer (some ⟨h,0,none⟩)),(Value.int .u32 d5),(Value.slice c8 d0 c9)]⟩ n fun h8 e7=>
 ∃d6 d8 d7,h8=Value.slice d6 d8 d7∧
 j (Value.slice d6 d8 d7) e7)))
theorem Zcfp (g:Nat) (d e f h i j k l m n o:Int) (p:Option Addr) (r q:Nat) {a:Heap} {c:Value->Heap->Prop} (t:Zbmy g d e f h i j k l m n o p r q a fun u s=>∀b,Shut a s b->c u b):FnW Tryz.prog Zxd ⟨[(Value.pointer (some ⟨g,0,none⟩)),(Value.agg ⟨[(Value.int .u32 d),(Value.int .i64 e),(Value.int .i64 f)]⟩),(Value.agg ⟨[(Value.int .i64 h),(Value.int .i64 i),(Value.int .u32 j),(Value.int .u32 k),(Value.int .i64 l),(Value.int .i64 m),(Value.int .i64 n),(Value.int .i64 o),(Value.slice p r q)]⟩)]⟩ a c:=Zc Tryz.func48 ⟨[(8,[0,1,2,3,4,5,6,7,8,9,10,11,12,13,14],[39,40])],[],[],[]⟩ (by kernel_rfl) (by kernel_rfl) t
def Zbla (e:Nat) (a:Heap) (d:Value->Heap->Prop):Prop:=
 ∃b:Value,a.cell ⟨e,3,none⟩=some b∧
 BinW Tryz.prog true .neq Zfd b (Value.map none) a fun f c=>
 d f c
theorem Zcdo (d:Nat) {a:Heap} {c:Value->Heap->Prop} (f:Zbla d a fun g e=>∀b,Shut a e b->c g b):FnW Tryz.prog Zlw ⟨[(Value.pointer (some ⟨d,0,none⟩))]⟩ a c:=Zc Tryz.func59 ⟨[],[],[],[]⟩ (by kernel_rfl) (by kernel_rfl) f
def Zbmb (e:Option Addr) (g f:Nat) (h:Int) (b:Heap) (d:Value->Heap->Prop):Prop:=
 FnW Tryz.prog Zbeh ⟨[(Value.slice e g f),(Value.int .i64 h)]⟩ b fun i c=>
 ∃a,i=Value.int .i64 a∧
 d (Value.bool (decide (a≥0))) c
theorem Zcet (d:Option Addr) (f e:Nat) (g:Int) {a:Heap} {c:Value->Heap->Prop} (i:Zbmb d f e g a fun j h=>∀b,Shut a h b->c j b):FnW Tryz.prog Zpp ⟨[(Value.slice d f e),(Value.int .i64 g)]⟩ a c:=Zc Tryz.func65 ⟨[],[],[],[]⟩ (by kernel_rfl) (by kernel_rfl) i
def Zso (b:Option Addr) (c e:Nat) (i:((Option Addr×Nat×Nat)×Int×Unit)->Heap->Prop) (h:Int) (d:Heap) (m:Value->Heap->Prop):Prop:=
 NilP b fun l=>
 InB 1 c fun j=>
 elemAt l j 1 fun k=>
 ∃f,d.cell k=some (Value.int .u8 f)∧
 InC f c fun a=>
 i (((if e=a then b else Option.map (fun g=>Addr.add g (a*1)) b),c - a,e - a),(h,())) d
def Znh (b:Option Addr) (c e:Nat) (m:Int) (g:((Option Addr×Nat×Nat)×Int×Unit)->Heap->Prop) (n:Bool) (a:Heap) (d:Value->Heap->Prop):Prop:=
 IfB n
 (d (Value.tuple ⟨[(Value.int .i64 0),(Value.bool false)]⟩) a)
 (NilP b fun q=>
 InB 0 c fun o=>
 elemAt q o 1 fun p=>
 ∃h,a.cell p=some (Value.int .u8 h)∧
 IfB (h==2)
 (NilP b fun t=>
 InB 1 c fun r=>
 elemAt t r 1 fun s=>
 ∃i,a.cell s=some (Value.int .u8 i)∧
 IfB (i !=4)
 (d (Value.tuple ⟨[(Value.int .i64 0),(Value.bool false)]⟩) a)
 (InC 2 c fun f=>
 FnW Tryz.prog Zbs ⟨[(Value.slice (if e=f then b else Option.map (fun l=>Addr.add l (f*1)) b) (c - f) (e - f))]⟩ a fun u k=>
 ∃j,u=Value.int .i64 j∧
 Zso b c e g j k d))
 (Zso b c e g m a d))
def Zsn (c:Option Addr) (a e:Nat) (d:Int) (g:((Option Addr×Nat×Nat)×Int×Unit)->Heap->Prop) (m:Bool) (b:Heap) (f:Value->Heap->Prop):Prop:=
 IfB m
 (f (Value.tuple ⟨[(Value.int .i64 d),(Value.bool true)]⟩) b)
 (NilP c fun p=>
 InB 0 a fun n=>
 elemAt p n 1 fun o=>
 ∃i,b.cell o=some (Value.int .u8 i)∧
 IfB (i==1)
 (InC 1 a fun h=>
 g (((if e=h then c else Option.map (fun l=>Addr.add l (h*1)) c),a - h,e - h),(d,())) b)
 (IfB (decide (((a:Int):Int)<2))
 (Znh c a e d g true b f)
 (NilP c fun s=>
 InB 1 a fun q=>
 elemAt s q 1 fun r=>
 ∃j,b.cell r=some (Value.int .u8 j)∧
 IfB (decide (j<2))
 (Znh c a e d g true b f)
 (NilP c fun v=>
 InB 1 a fun t=>
 elemAt v t 1 fun u=>
 ∃k,b.cell u=some (Value.int .u8 k)∧
 Znh c a e d g (decide (((IntKind.wrap .i64 k):Int)>(a:Int))) b f))))
def Zbnh (c:Option Addr) (a g:Nat) (e:Int) (b:Heap) (f:((Option Addr×Nat×Nat)×Int×Unit)->Heap->Prop) (d:Value->Heap->Prop):Prop:=
 IfB (((a:Int):Int)==0)
 (Zsn c a g e f true b d)
 (NilP c fun k=>
 InB 0 a fun i=>
 elemAt k i 1 fun j=>
 ∃h,b.cell j=some (Value.int .u8 h)∧
 Zsn c a g e f (h==0) b d)
def Zbni (e:Option Addr) (g f:Nat) (b:Heap) (c:Value->Heap->Prop):Prop:=
 Zbk ((Option Addr×Nat×Nat)×Int×Unit) ((e,g,f),(0,())) b fun a b d=>∀h:Env,Zbnh a.1.1 a.1.2.1 a.1.2.2 a.2.1 b d c
theorem Zcge (d:Option Addr) (f e:Nat) {a:Heap} {c:Value->Heap->Prop} (h:Zbni d f e a fun i g=>∀b,Shut a g b->c i b):FnW Tryz.prog Zxj ⟨[(Value.slice d f e)]⟩ a c:=Zc Tryz.func67 ⟨[],[(2000000,[0,4],[.slice,.int .i64],[])],[],[]⟩ (by kernel_rfl) (by kernel_rfl) h
def Zbmk (b:Option Addr) (c m:Nat) (a:Heap) (f:Value->Heap->Prop):Prop:=
 NilP b fun i=>
 InB 0 c fun g=>
 elemAt i g 1 fun h=>
 ∃e,a.cell h=some (Value.int .u8 e)∧
 (0:Int) <= 8∧
 NilP b fun l=>
 InB 1 c fun j=>
 elemAt l j 1 fun k=>
 ∃d,a.cell k=some (Value.int .u8 d)∧
 f (Value.int .i64 (Zdz .i64 (IntKind.wrap .i64 ((IntKind.wrap .i64 e)*2^(min (8:Int).toNat (IntKind.bits .i64)))) (IntKind.wrap .i64 d))) a
theorem Zcfc (d:Option Addr) (f e:Nat) {a:Heap} {c:Value->Heap->Prop} (h:Zbmk d f e a fun i g=>∀b,Shut a g b->c i b):FnW Tryz.prog Zbs ⟨[(Value.slice d f e)]⟩ a c:=Zc Tryz.func68 ⟨[],[],[],[]⟩ (by kernel_rfl) (by kernel_rfl) h
def Zbot (b:Option Addr) (d c:Nat) (g:Heap) (j:Value->Heap->Prop):Prop:=
 InC 2 d fun a=>
 FnW Tryz.prog Zbs ⟨[(Value.slice b d c)]⟩ g fun l h=>
 ∃e,l=Value.int .i64 e∧
 (0:Int) <= 16∧
 FnW Tryz.prog Zbs ⟨[(Value.slice (if c=a then b else Option.map (fun k=>Addr.add k (a*1)) b) (d - a) (c - a))]⟩ h fun m i=>
 ∃f,m=Value.int .i64 f∧
 j (Value.int .u32 (Zdz .u32 (IntKind.wrap .u32 ((IntKind.wrap .u32 e)*2^(min (16:Int).toNat (IntKind.bits .u32)))) (IntKind.wrap .u32 f))) i
theorem Zchf (d:Option Addr) (f e:Nat) {a:Heap} {c:Value->Heap->Prop} (h:Zbot d f e a fun i g=>∀b,Shut a g b->c i b):FnW Tryz.prog Zeb ⟨[(Value.slice d f e)]⟩ a c:=Zc Tryz.func69 ⟨[(1,[0,4,5,1,2,3,6,7,8,9],[])],[],[],[]⟩ (by kernel_rfl) (by kernel_rfl) h
def Zbmz (B:Nat) (E F G H I J K L:Int) (M:Option Addr) (O N:Nat) (A:Heap) (c:Value->Heap->Prop):Prop:=
 NewW A (Obj.cells ⟨[(Value.int .i64 E),(Value.int .i64 F),(Value.int .u32 G),(Value.int .u32 H),(Value.int .i64 I),(Value.int .i64 J),(Value.int .i64 K),(Value.int .i64 L),(Value.slice M O N)]⟩ Zl) fun a d=>
 ∃x z y,d.cell ⟨B,2,none⟩=some (Value.slice x z y)∧
 ∃g,d.cell ⟨a,1,none⟩=some (Value.int .i64 g)∧
 FnW Tryz.prog Zpp ⟨[(Value.slice x z y),(Value.int .i64 g)]⟩ d fun C b=>
 ∃h,C=Value.bool h∧
 IfB h
 (∃i,b.cell ⟨a,0,none⟩=some (Value.int .i64 i)∧∃j,b.cell ⟨a,1,none⟩=some (Value.int .i64 j)∧∃k,b.cell ⟨a,2,none⟩=some (Value.int .u32 k)∧∃l,b.cell ⟨a,3,none⟩=some (Value.int .u32 l)∧∃m,b.cell ⟨a,4,none⟩=some (Value.int .i64 m)∧∃n,b.cell ⟨a,5,none⟩=some (Value.int .i64 n)∧∃o,b.cell ⟨a,6,none⟩=some (Value.int .i64 o)∧∃p,b.cell ⟨a,7,none⟩=some (Value.int .i64 p)∧∃q s r,b.cell ⟨a,8,none⟩=some (Value.slice q s r)∧FnW Tryz.prog Zjq ⟨[(Value.agg ⟨[(Value.int .i64 i),(Value.int .i64 j),(Value.int .u32 k),(Value.int .u32 l),(Value.int .i64 m),(Value.int .i64 n),(Value.int .i64 o),(Value.int .i64 p),(Value.slice q s r)]⟩)]⟩ b fun D e=>
 ∃t,D=Value.int .i64 t∧
 IfB (t==1)
 (∃u,e.cell ⟨a,0,none⟩=some (Value.int .i64 u)∧
 FnW Tryz.prog Zlv ⟨[(Value.int .i64 u)]⟩ e fun P f=>
 ∃v,P=Value.bool v∧
 IfB v
 (∃w,f.cell ⟨a,4,none⟩=some (Value.int .i64 w)∧
 c (Value.bool (((Zbc .i64 w 23):Int)==2)) f)
 (c (Value.bool false) f))
 (c (Value.bool false) e))
 (c (Value.bool false) b)
theorem Zcfq (d:Nat) (e f g h i j k l:Int) (m:Option Addr) (o n:Nat) {a:Heap} {c:Value->Heap->Prop} (q:Zbmz d e f g h i j k l m o n a fun r p=>∀b,Shut a p b->c r b):FnW Tryz.prog Zxe ⟨[(Value.pointer (some ⟨d,0,none⟩)),(Value.agg ⟨[(Value.int .i64 e),(Value.int .i64 f),(Value.int .u32 g),(Value.int .u32 h),(Value.int .i64 i),(Value.int .i64 j),(Value.int .i64 k),(Value.int .i64 l),(Value.slice m o n)]⟩)]⟩ a c:=Zc Tryz.func89 ⟨[],[],[],[]⟩ (by kernel_rfl) (by kernel_rfl) q
def Zblb (g:Option Addr) (d l:Nat) (h b:Int) (a:Heap) (f:(Int×Unit)->Heap->Prop) (c:Value->Heap->Prop):Prop:=
 IfB (decide (b<(d:Int)))
 (NilP g fun k=>
 InB b d fun i=>
 elemAt k i 1 fun j=>
 ∃e,a.cell j=some (Value.int .i64 e)∧
 IfB (h==e)
 (c (Value.int .i64 b) a)
 (f ((IntKind.wrap .i64 (b+1)),()) a))
 (c (Value.int .i64 (-1)) a)
def Zblc (d:Option Addr) (f e:Nat) (g:Int) (a:Heap) (b:Value->Heap->Prop):Prop:=
 Zbk (Int×Unit) (0,()) a fun h a c=>∀i:Env,Zblb d f e g h.1 a c b
theorem Zcdp (d:Option Addr) (f e:Nat) (g:Int) {a:Heap} {c:Value->Heap->Prop} (i:Zblc d f e g a fun j h=>∀b,Shut a h b->c j b):FnW Tryz.prog Zbeh ⟨[(Value.slice d f e),(Value.int .i64 g)]⟩ a c:=Zc Tryz.func107 ⟨[],[(2,[8],[.int .i64],[0,1,7])],[],[]⟩ (by kernel_rfl) (by kernel_rfl) i
end Go.Proofs.YtaljkjokbdpdoaaGreat
end
