/-
  SOME FUNCTIONS IN PLAIN LOGIC:printed by a program of ours over this translation.
-/
import Derived.Test.YtaljkjokbdpdoaaGreatBA
import Derived.Test.YtaljkjokbdpdoaaGreatRows
set_option linter.all false
section
set_option maxRecDepth 100000
namespace Go.Proofs.YtaljkjokbdpdoaaGreat
open Go.Sh
open Value renaming int -> vI, slice -> vS, pointer -> vP, bool -> vB, tuple -> vT, agg -> vA
open IntKind renaming wrap -> vW, bits -> wB, i64 -> wI, u32 -> vU, u8 -> wU
open Go.Proofs.Tryz renaming prog -> wP
open Option renaming map -> vM
def Zbbp (j:Int) (f:Option Addr) (h g:Nat) (l:Option Addr) (m:Nat) (i n:Int) (o:Option Addr) (q p:Nat) (c:Int) (k d:(Int×Unit)->Heap->Prop) (e:Bool) (a:Heap) (b:Value->Heap->Prop):Prop:=
 IfB e
 (b (vB false) a)
 (d ((vW wI (c+1)),()) a)
def Zsb (k:Int) (g:Option Addr) (i h:Nat) (n:Option Addr) (o:Nat) (j c:Int) (d:Option Addr) (e p:Nat) (b:Int) (m l:(Int×Unit)->Heap->Prop) (r:Int) (a:Heap) (f:Value->Heap->Prop):Prop:=
 IfB (r !=0)
 (Zbbp k g i h n o j c d e p b m l true a f)
 (NilP d fun u=>
 InB b e fun s=>
 elemAt u s 2 fun t=>
 ∃q,a.cell t=some (vI vU q)∧
 Zbbp k g i h n o j c d e p b m l (q !=c) a f)
def Zbbr (t:Int) (q:Option Addr) (s r:Nat) (w:Option Addr) (x:Nat) (h:Int) (e:Option Addr) (c v:Nat) (j u:(Int×Unit)->Heap->Prop) (b:Int) (a:Heap) (i:(Int×Unit)->Heap->Prop) (d:Value->Heap->Prop):Prop:=
 IfB (decide (b<(c:Int)))
 (NilP e fun m=>
 InB (vW wI (b - 1)) c fun k=>
 elemAt m k 1 fun l=>
 ∃f,a.cell l=some (vI wI f)∧
 NilP e fun p=>
 InB b c fun n=>
 elemAt p n 1 fun o=>
 ∃g,a.cell o=some (vI wI g)∧
 IfB (decide (f≥g))
 (d (vB false) a)
 (i ((vW wI (b+1)),()) a))
 (IfB (decide (((c:Int):Int)>16))
 (d (vB false) a)
 (j ((vW wI (h+1)),()) a))
def Zbbq (e:Int) (j:Option Addr) (l k:Nat) (g:Option Addr) (p:Nat) (m x:Int) (h:Option Addr) (f y:Nat) (o:(Int×Unit)->Heap->Prop) (d:Int) (c:Heap) (n:(Int×Unit)->Heap->Prop) (i:Value->Heap->Prop):Prop:=
 IfB (decide (d<(f:Int)))
 (NilP h fun c7=>
 InB d f fun c5=>
 elemAt c7 c5 2 fun c6=>
 ∃q,c.cell c6=some (vI vU q)∧
 NilP h fun c9=>
 InB d f fun c8=>
 elemAt c9 c8 2 fun z=>
 ∃r t s,c.cell ⟨z.block,z.off+1,none⟩=some (vS r t s)∧
 (NewW c (Obj.cells ⟨[(vI wI 0),(vI wI 0),(vI vU 0),(vI vU 0),(vI wI 0),(vI wI 0),(vI wI 0),(vI wI 0),(vS none 0 0)]⟩ Zm) fun a Z=>
 FnW wP Zmc ⟨[(vI vU e),(vI vU q),(vS r t s)]⟩ Z fun d0 a0=>
 ∃A,∃C:Int,∃E:Int,∃G:Int,∃I:Int,∃K:Int,∃M:Int,∃O:Int,∃(Q:Option Addr) (U S:Nat),∃W:Int,d0=(vT ⟨[(vA ⟨[(vI wI A),(vI wI C),(vI vU E),(vI vU G),(vI wI I),(vI wI K),(vI wI M),(vI wI O),(vS Q U S)]⟩),(vI wI W)]⟩)∧
 Za a0 ⟨a,0,none⟩ (vI wI A) fun a1=>
 Za a1 ⟨a,1,none⟩ (vI wI C) fun a2=>
 Za a2 ⟨a,2,none⟩ (vI vU E) fun a3=>
 Za a3 ⟨a,3,none⟩ (vI vU G) fun a4=>
 Za a4 ⟨a,4,none⟩ (vI wI I) fun a5=>
 Za a5 ⟨a,5,none⟩ (vI wI K) fun a6=>
 Za a6 ⟨a,6,none⟩ (vI wI M) fun a7=>
 Za a7 ⟨a,7,none⟩ (vI wI O) fun a8=>
 Za a8 ⟨a,8,none⟩ (vS Q U S) fun a9=>
 Zsb e j l k g p m x h f y d o n W a9 i)∧
 (FnW wP Zmc ⟨[(vI vU e),(vI vU q),(vS r t s)]⟩ c fun d1 b0=>
 ∃B,∃D:Int,∃F:Int,∃H:Int,∃J:Int,∃L:Int,∃N:Int,∃P:Int,∃(R:Option Addr) (V T:Nat),∃X:Int,d1=(vT ⟨[(vA ⟨[(vI wI B),(vI wI D),(vI vU F),(vI vU H),(vI wI J),(vI wI L),(vI wI N),(vI wI P),(vS R V T)]⟩),(vI wI X)]⟩)∧
 NewW b0 (Obj.cells ⟨[(vI wI 0),(vI wI 0),(vI vU 0),(vI vU 0),(vI wI 0),(vI wI 0),(vI wI 0),(vI wI 0),(vS none 0 0)]⟩ Zm) fun b b1=>
 Za b1 ⟨b,0,none⟩ (vI wI B) fun b2=>
 Za b2 ⟨b,1,none⟩ (vI wI D) fun b3=>
 Za b3 ⟨b,2,none⟩ (vI vU F) fun b4=>
 Za b4 ⟨b,3,none⟩ (vI vU H) fun b5=>
 Za b5 ⟨b,4,none⟩ (vI wI J) fun b6=>
 Za b6 ⟨b,5,none⟩ (vI wI L) fun b7=>
 Za b7 ⟨b,6,none⟩ (vI wI N) fun b8=>
 Za b8 ⟨b,7,none⟩ (vI wI P) fun b9=>
 Za b9 ⟨b,8,none⟩ (vS R V T) fun c0=>
 Zsb e j l k g p m x h f y d o n X c0 i))
 (FnW wP Zoq ⟨[(vP g)]⟩ c fun c4 c1=>
 ∃u w v,c4=vS u w v∧
 Zbe (Int×Unit) (1,()) c1 fun c3 Y c2=>∀d2:Env,Zbbr e j l k g p m u w v o n c3.1 Y c2 i)
def Zks (d0:Int) (l:Option Addr) (m c9:Nat) (o:Option Addr) (g:Nat) (n:Int) (d2:(Int×Unit)->Heap->Prop) (d4:Bool) (c:Heap) (f:Value->Heap->Prop):Prop:=
 IfB d4
 (NilP l fun d6=>
 InB n m fun d5=>
 elemAt d6 d5 17 fun b=>
 ∃p,c.cell b=some (vI wI p)∧∃q,c.cell ⟨b.block,b.off+1,none⟩=some (vI wI q)∧∃A,c.cell ⟨b.block,b.off+2,none⟩=some (vI wI A)∧∃B,c.cell ⟨b.block,b.off+3,none⟩=some (vI wI B)∧∃C,c.cell ⟨b.block,b.off+4,none⟩=some (vI vU C)∧∃D F E,c.cell ⟨b.block,b.off+5,none⟩=some (vS D F E)∧∃G,c.cell ⟨b.block,b.off+6,none⟩=some (vI wI G)∧∃H,c.cell ⟨b.block,b.off+7,none⟩=some (vI wI H)∧∃I,c.cell ⟨b.block,b.off+8,none⟩=some (vI vU I)∧∃J,c.cell ⟨b.block,b.off+9,none⟩=some (vI vU J)∧∃r,c.cell ⟨b.block,b.off+10,none⟩=some (vI wI r)∧∃s,c.cell ⟨b.block,b.off+11,none⟩=some (vI wI s)∧∃t,c.cell ⟨b.block,b.off+12,none⟩=some (vI wI t)∧∃u,c.cell ⟨b.block,b.off+13,none⟩=some (vI wI u)∧∃v x w,c.cell ⟨b.block,b.off+14,none⟩=some (vS v x w)∧∃y,c.cell ⟨b.block,b.off+15,none⟩=some (vB y)∧∃z,c.cell ⟨b.block,b.off+16,none⟩=some (vB z)∧NewW c (Obj.cells ⟨[(vI wI 0),(vI wI 0),(vI wI 0),(vI wI 0),(vI vU 0),(vS none 0 0),(vI wI 0),(vI wI 0),(vI vU 0),(vI vU 0),(vI wI 0),(vI wI 0),(vI wI 0),(vI wI 0),(vS none 0 0),(vB false),(vB false)]⟩ Ziz) fun a c7=>
 Za c7 ⟨a,0,none⟩ (vI wI p) fun c8=>
 Za c8 ⟨a,1,none⟩ (vI wI q) fun b0=>
 Za b0 ⟨a,2,none⟩ (vI wI A) fun b1=>
 Za b1 ⟨a,3,none⟩ (vI wI B) fun b2=>
 Za b2 ⟨a,4,none⟩ (vI vU C) fun b3=>
 Za b3 ⟨a,5,none⟩ (vS D F E) fun b4=>
 Za b4 ⟨a,6,none⟩ (vI wI G) fun b5=>
 Za b5 ⟨a,7,none⟩ (vI wI H) fun b6=>
 Za b6 ⟨a,8,none⟩ (vI vU I) fun b7=>
 Za b7 ⟨a,9,none⟩ (vI vU J) fun b8=>
 Za b8 ⟨a,10,none⟩ (vI wI r) fun b9=>
 Za b9 ⟨a,11,none⟩ (vI wI s) fun c0=>
 Za c0 ⟨a,12,none⟩ (vI wI t) fun c1=>
 Za c1 ⟨a,13,none⟩ (vI wI u) fun c2=>
 Za c2 ⟨a,14,none⟩ (vS v x w) fun c3=>
 Za c3 ⟨a,15,none⟩ (vB y) fun c4=>
 Za c4 ⟨a,16,none⟩ (vB z) fun d=>
 ∃K,d.cell ⟨a,0,none⟩=some (vI wI K)∧∃L,d.cell ⟨a,1,none⟩=some (vI wI L)∧∃V,d.cell ⟨a,2,none⟩=some (vI wI V)∧∃W,d.cell ⟨a,3,none⟩=some (vI wI W)∧∃X,d.cell ⟨a,4,none⟩=some (vI vU X)∧∃Y a0 Z,d.cell ⟨a,5,none⟩=some (vS Y a0 Z)∧∃a1,d.cell ⟨a,6,none⟩=some (vI wI a1)∧∃a2,d.cell ⟨a,7,none⟩=some (vI wI a2)∧∃a3,d.cell ⟨a,8,none⟩=some (vI vU a3)∧∃a4,d.cell ⟨a,9,none⟩=some (vI vU a4)∧∃M,d.cell ⟨a,10,none⟩=some (vI wI M)∧∃N,d.cell ⟨a,11,none⟩=some (vI wI N)∧∃O,d.cell ⟨a,12,none⟩=some (vI wI O)∧∃P,d.cell ⟨a,13,none⟩=some (vI wI P)∧∃Q S R,d.cell ⟨a,14,none⟩=some (vS Q S R)∧∃T,d.cell ⟨a,15,none⟩=some (vB T)∧∃U,d.cell ⟨a,16,none⟩=some (vB U)∧FnW wP Zpp ⟨[(vP (some ⟨g,0,none⟩)),(vA ⟨[(vI wI K),(vI wI L),(vI wI V),(vI wI W),(vI vU X),(vS Y a0 Z),(vI wI a1),(vI wI a2),(vI vU a3),(vI vU a4),(vI wI M),(vI wI N),(vI wI O),(vI wI P),(vS Q S R),(vB T),(vB U)]⟩)]⟩ d fun d7 c5=>
 ∃e,∃(h:Option Addr) (j i:Nat),d7=(vT ⟨[(vI vU e),(vS h j i)]⟩)∧
 FnW wP Zpo ⟨[(vP (some ⟨g,0,none⟩)),(vI wI 0),(vI vU e),(vS h j i)]⟩ c5 fun e5 c6=>
 ∃d8 e0 d9,∃(e1:Option Addr) (e3 e2:Nat),∃e4:Int,e5=(vT ⟨[(vS d8 e0 d9),(vS e1 e3 e2),(vI wI e4)]⟩)∧
 FnW wP Zln ⟨[(vP o),(vI wI 0),(vI vU e),(vS h j i)]⟩ c6 fun e9 k=>
 ∃a5 a7 a6,∃(e6:Option Addr) (e8 e7:Nat),∃a8:Int,e9=(vT ⟨[(vS a5 a7 a6),(vS e6 e8 e7),(vI wI a8)]⟩)∧
 IfB (a8 !=0)
 (f (vB false) k)
 (Zbe (Int×Unit) (0,()) k fun d3 a9 d1=>∀f0:Env,Zbbq d0 l m c9 o g n e a5 a7 a6 d2 d3.1 a9 d1 f))
 (f (vB true) c)
def Zbkg (g:Int) (e:Option Addr) (b f:Nat) (i:Option Addr) (j:Nat) (a:Int) (c:Heap) (h:(Int×Unit)->Heap->Prop) (d:Value->Heap->Prop):Prop:=
 IfB (decide (a<(b:Int)))
 (Zks g e b f i j a h (decide (a<40)) c d)
 (Zks g e b f i j a h false c d)
def Zbkh (b f:Int) (m:Option Addr) (o n:Nat) (a:Heap) (e:Value->Heap->Prop):Prop:=
 FnW wP Zwp ⟨[]⟩ a fun r d=>
 ∃g,r=vB g∧
 IfB (!g)
 (e (vB false) d)
 (FnW wP Zlk ⟨[(vI vU b),(vI vU f)]⟩ d fun s i=>
 ∃c,s=vP c∧
 NewW i (Obj.cells ⟨[(vI vU b),(vI vU f),(vS none 0 0),(vS none 0 0),(vI wI 0),(vI wI 0)]⟩ Znw) fun h j=>
 FnW wP Zlm ⟨[(vP c),(vI wI 179)]⟩ j fun u k=>
 ∃t,u=vI wI t∧
 FnW wP Zwr ⟨[(vP (some ⟨h,0,none⟩)),(vI wI 179)]⟩ k fun w l=>
 ∃v,w=vI wI v∧
 Zbe (Int×Unit) (0,()) l fun q a p=>∀x:Env,Zbkg b m o n c h q.1 a p e)
theorem Zcdy (g h:Int) (d:Option Addr) (f e:Nat) {a:Heap} {c:Value->Heap->Prop} (j:Zbkh g h d f e a fun k i=>∀b,Shut a i b->c k b):FnW wP Zbeq ⟨[(vI vU g),(vI vU h),(vS d f e)]⟩ a c:=Zc Tryz.func5 ⟨[(18,[0,1,2,3,4,5,6,7,8,9,10,15,11,12,13,14,16,17],[])],[(7,[9],[.int wI],[0,2,7,8]),(16,[16],[.int wI],[0,2,7,8,9,11,13]),(23,[20],[.int wI],[0,2,7,8,9,19])],[],[(18,⟨15,[],[0,1,2,3,4,5,6,7,8,9,10,11,12,13,14],[16],[17],[11]⟩)]⟩ (by kernel_rfl) (by kernel_rfl) j
def Zbmk (I:Heap) (c:Value->Heap->Prop):Prop:=
 FnW wP Zwq ⟨[(vI vU 7),(vI vU 8)]⟩ I fun b5 e=>
 ∃d,b5=vP d∧
 IfB d.isNone
 (c (vB false) e)
 (∃f:List Nat,(∀b∈f,∃N,e b=some N)∧
 NilP d fun O=>
 InB 0 2 fun P=>
 elemAt O P 1 fun p=>
 p.block∈f∧∃q,e.cell p=some (vP q)∧
 FnW wP Zie ⟨[(vI wI 1)]⟩ e fun Q n=>
 ∃r,Q=vI vU r∧
 Zb f e n∧FnW wP Zor ⟨[(vP q),(vI wI 0),(vI vU r),(vI wI 179)]⟩ n fun R o=>
 ∃s,∃(t:Option Addr) (v u:Nat),∃w:Int,R=(vT ⟨[(vI wI s),(vS t v u),(vI wI w)]⟩)∧
 Zb f e o∧FnW wP Zlz ⟨[(vP d),(vI wI 0),(vS t v u)]⟩ o fun S J=>
 S=vT ⟨[]⟩∧
 FnW wP Zgz ⟨[(vP d),(vI wI 0),(vI wI 1)]⟩ J fun W K=>
 ∃T V U,W=vS T V U∧
 FnW wP Zgz ⟨[(vP d),(vI wI 0),(vI wI 0)]⟩ K fun Y L=>
 ∃i g X,Y=vS i g X∧
 FnW wP Zgz ⟨[(vP d),(vI wI 0),(vI wI 1)]⟩ L fun a0 a=>
 ∃x j Z,a0=vS x j Z∧
 IfB (s==1)
 (IfB (w==0)
 (IfB (((g:Int):Int)==1)
 (NilP i fun a2=>
 InB 0 g fun a1=>
 elemAt a2 a1 2 fun k=>
 ∃y,a.cell k=some (vI wI y)∧∃z,a.cell ⟨k.block,k.off+1,none⟩=some (vI wI z)∧Program.eqGuardType wP (Program.depth wP) Zbi=false∧
 IfB ((y==1)&&((z==1)&&true))
 (IfB (((j:Int):Int)==1)
 (NilP x fun a4=>
 InB 0 j fun a3=>
 elemAt a4 a3 2 fun l=>
 ∃A,a.cell l=some (vI wI A)∧∃B,a.cell ⟨l.block,l.off+1,none⟩=some (vI wI B)∧NilP i fun a6=>
 InB 0 g fun a5=>
 elemAt a6 a5 2 fun m=>
 ∃C,a.cell m=some (vI wI C)∧∃D,a.cell ⟨m.block,m.off+1,none⟩=some (vI wI D)∧Program.eqGuardType wP (Program.depth wP) Zbi=false∧
 IfB ((A==C)&&((B==D)&&true))
 (NilP d fun a7=>
 InB 0 2 fun a8=>
 elemAt a7 a8 1 fun a9=>
 ∃E,a.cell a9=some (vP E)∧
 FnW wP Zpu ⟨[(vP E),(vI wI 1)]⟩ a fun b0 h=>
 ∃F,b0=vI wI F∧
 IfB (F==3)
 (NilP d fun b1=>
 InB 1 2 fun b2=>
 elemAt b1 b2 1 fun b3=>
 ∃G,h.cell b3=some (vP G)∧
 FnW wP Zpu ⟨[(vP G),(vI wI 1)]⟩ h fun b4 M=>
 ∃H,b4=vI wI H∧
 c (vB (H==3)) M)
 (c (vB false) h))
 (c (vB false) a))
 (c (vB false) a))
 (c (vB false) a))
 (c (vB false) a))
 (c (vB false) a))
 (c (vB false) a))
theorem Zcgl {a:Heap} {c:Value->Heap->Prop} (e:Zbmk a fun f d=>∀b,Shut a d b->c f b):FnW wP Zwp ⟨[]⟩ a c:=Zc Tryz.func6 ⟨[(4,[0,1,2,3,4,5,6,7,8,9,10,11,12,13],[15])],[],[],[]⟩ (by kernel_rfl) (by kernel_rfl) e
def Zbiw (f g:Int) (a:Heap) (e:Value->Heap->Prop):Prop:=
 MkW wP Zfd a fun i b=>
 MkW wP Zdy b fun j c=>
 NewW c (Obj.cells ⟨[(vI vU f),(vI vU g),(vS none 0 0),i,j,(vI wI 0),(vI wI 0)]⟩ Zvd) fun h d=>
 e (vP (some ⟨h,0,none⟩)) d
theorem Zccb (d e:Int) {a:Heap} {c:Value->Heap->Prop} (g:Zbiw d e a fun h f=>∀b,Shut a f b->c h b):FnW wP Zlk ⟨[(vI vU d),(vI vU e)]⟩ a c:=Zc Tryz.func7 ⟨[],[],[],[]⟩ (by kernel_rfl) (by kernel_rfl) g
def Zbll (c:Nat) (o p n:Int) (V:Heap) (d:Value->Heap->Prop):Prop:=
 FnW wP Zot ⟨[(vP (some ⟨c,0,none⟩)),(vI wI o)]⟩ V fun a2 k=>
 ∃q,a2=vI wI q∧
 IfB (q !=0)
 (d (vT ⟨[(vI wI 0),(vS none 0 0),(vI wI q)]⟩) k)
 (∃x,k.cell ⟨c,5,none⟩=some (vI wI x)∧
 (16384:Int)≠0∧
 NewW k (Obj.cells ⟨[(vI vU 0),(vI wI 0),(vI wI 0)]⟩ Zeo) fun a X=>
 Za X ⟨a,0,none⟩ (vI vU p) fun Y=>
 Za Y ⟨a,1,none⟩ (vI wI n) fun Z=>
 Za Z ⟨a,2,none⟩ (vI wI (vW wI (49152+(Int.tmod (vW wI (x+1)) 16384)))) fun a0=>
 FnW wP Zlo ⟨[(vI wI n)]⟩ a0 fun a3 m=>
 ∃y,a3=vB y∧
 IfB (!y)
 (d (vT ⟨[(vI wI 0),(vS none 0 0),(vI wI 2)]⟩) m)
 (∃z:Value,m.cell ⟨c,4,none⟩=some z∧
 SemW wP (Builtin.len_ #[Zdy] Zl ⟨[z]⟩) m fun a4 f=>
 ∃A,a4=vI wI A∧
 IfB (decide (A≥16))
 (d (vT ⟨[(vI wI 0),(vS none 0 0),(vI wI 4)]⟩) f)
 (∃B:Value,f.cell ⟨c,3,none⟩=some B∧
 ∃C,f.cell ⟨a,0,none⟩=some (vI vU C)∧∃D,f.cell ⟨a,1,none⟩=some (vI wI D)∧∃E,f.cell ⟨a,2,none⟩=some (vI wI E)∧SemW wP (Instr.lookup Zfd B (vA ⟨[(vI vU C),(vI wI D),(vI wI E)]⟩) false) f fun a5 w=>
 ∃F,a5=vP F∧
 IfB (!F.isNone)
 (d (vT ⟨[(vI wI 0),(vS none 0 0),(vI wI 6)]⟩) w)
 (Za w ⟨c,6,none⟩ (vI wI o) fun g=>
 ∃i:List Nat,(∀b∈i,∃a1,g b=some a1)∧
 a∈i∧∃G,g.cell ⟨a,2,none⟩=some (vI wI G)∧
 FnW wP Zou ⟨[(vP (some ⟨c,0,none⟩))]⟩ g fun a6 u=>
 ∃H,a6=vI vU H∧
 Zb i g u∧FnW wP Zyi ⟨[(vI wI o),(vI wI G),(vI wI n),(vI vU H)]⟩ u fun a7 e=>
 ∃I,∃(r:Option Addr) (t s:Nat),∃h:Int,a7=(vT ⟨[(vP I),(vS r t s),(vI wI h)]⟩)∧
 Zb i g e∧IfB (h !=0)
 (d (vT ⟨[(vI wI 0),(vS none 0 0),(vI wI h)]⟩) e)
 (∃J,e.cell ⟨a,0,none⟩=some (vI vU J)∧∃K,e.cell ⟨a,1,none⟩=some (vI wI K)∧∃L,e.cell ⟨a,2,none⟩=some (vI wI L)∧FnW wP Zov ⟨[(vP (some ⟨c,0,none⟩)),(vA ⟨[(vI vU J),(vI wI K),(vI wI L)]⟩),(vP I)]⟩ e fun a8 l=>
 ∃M,a8=vP M∧
 NilP M fun j=>
 (∃N,l.cell ⟨j.block,j.off+3,none⟩=some (vI wI N)∧
 FnW wP Zha ⟨[(vP (some ⟨c,0,none⟩)),(vI vU p),(vS r t s)]⟩ l fun a9 W=>
 ∃P T R,a9=vS P T R∧
 d (vT ⟨[(vI wI N),(vS P T R),(vI wI h)]⟩) W)∧
 (FnW wP Zha ⟨[(vP (some ⟨c,0,none⟩)),(vI vU p),(vS r t s)]⟩ l fun b0 v=>
 ∃Q U S,b0=vS Q U S∧
 ∃O,v.cell ⟨j.block,j.off+3,none⟩=some (vI wI O)∧
 d (vT ⟨[(vI wI O),(vS Q U S),(vI wI h)]⟩) v))))))
theorem Zcfa (f:Nat) (e g d:Int) {a:Heap} {c:Value->Heap->Prop} (i:Zbll f e g d a fun j h=>∀b,Shut a h b->c j b):FnW wP Zor ⟨[(vP (some ⟨f,0,none⟩)),(vI wI e),(vI vU g),(vI wI d)]⟩ a c:=Zc Tryz.func8 ⟨[(12,[0,1,2,3,4,5,6,7,8,9,10,11,12,13],[58])],[],[],[(15,⟨6,[],[0,1,2,7,8,9,11,3,4,5,10],[12,13],[14],[10]⟩)]⟩ (by kernel_rfl) (by kernel_rfl) i
def Zblm (d a:Int) (b:Heap) (c:Value->Heap->Prop):Prop:=
 IfB (decide (a<1))
 (c (vI wI 0) b)
 (((vW .u64 a):Int)≠0∧
 c (vI wI (vW wI (Int.tmod (vW .u64 d) (vW .u64 a)))) b)
theorem Zcfb (e d:Int) {a:Heap} {c:Value->Heap->Prop} (g:Zblm e d a fun h f=>∀b,Shut a f b->c h b):FnW wP Zos ⟨[(vI wI e),(vI wI d)]⟩ a c:=Zc Tryz.func10 ⟨[],[],[],[]⟩ (by kernel_rfl) (by kernel_rfl) g
def Zbkt (f:Nat) (o n:Int) (e8:Option Addr) (f0 e9:Nat) (c9:Heap) (l:Value->Heap->Prop):Prop:=
 FnW wP Zot ⟨[(vP (some ⟨f,0,none⟩)),(vI wI o)]⟩ c9 fun f2 q=>
 ∃p,f2=vI wI p∧
 IfB (p !=0)
 (l (vT ⟨[(vS none 0 0),(vS none 0 0),(vI wI p)]⟩) q)
 (Za q ⟨f,6,none⟩ (vI wI o) fun r=>
 ∃t,r.cell ⟨f,0,none⟩=some (vI vU t)∧
 FnW wP Zmc ⟨[(vI vU n),(vI vU t),(vS e8 f0 e9)]⟩ r fun f3 e1=>
 ∃u,∃v:Int,∃w:Int,∃x:Int,∃y:Int,∃z:Int,∃A:Int,∃B:Int,∃(C:Option Addr) (E D:Nat),∃F:Int,f3=(vT ⟨[(vA ⟨[(vI wI u),(vI wI v),(vI vU w),(vI vU x),(vI wI y),(vI wI z),(vI wI A),(vI wI B),(vS C E D)]⟩),(vI wI F)]⟩)∧
 NewW e1 (Obj.cells ⟨[(vI wI 0),(vI wI 0),(vI vU 0),(vI vU 0),(vI wI 0),(vI wI 0),(vI wI 0),(vI wI 0),(vS none 0 0)]⟩ Zm) fun a e2=>
 Za e2 ⟨a,0,none⟩ (vI wI u) fun e3=>
 Za e3 ⟨a,1,none⟩ (vI wI v) fun e4=>
 Za e4 ⟨a,2,none⟩ (vI vU w) fun e5=>
 Za e5 ⟨a,3,none⟩ (vI vU x) fun e6=>
 Za e6 ⟨a,4,none⟩ (vI wI y) fun e7=>
 Za e7 ⟨a,5,none⟩ (vI wI z) fun d0=>
 Za d0 ⟨a,6,none⟩ (vI wI A) fun d1=>
 Za d1 ⟨a,7,none⟩ (vI wI B) fun d2=>
 Za d2 ⟨a,8,none⟩ (vS C E D) fun k=>
 IfB (F !=0)
 (l (vT ⟨[(vS none 0 0),(vS none 0 0),(vI wI 0)]⟩) k)
 (∃G,k.cell ⟨a,0,none⟩=some (vI wI G)∧
 ∃H,k.cell ⟨a,1,none⟩=some (vI wI H)∧
 NewW k (Obj.cells ⟨[(vI vU 0),(vI wI 0),(vI wI 0)]⟩ Zeo) fun e d3=>
 Za d3 ⟨e,0,none⟩ (vI vU n) fun d4=>
 Za d4 ⟨e,1,none⟩ (vI wI G) fun d5=>
 Za d5 ⟨e,2,none⟩ (vI wI H) fun g=>
 ∃I:Value,g.cell ⟨f,3,none⟩=some I∧
 ∃J,g.cell ⟨e,0,none⟩=some (vI vU J)∧∃K,g.cell ⟨e,1,none⟩=some (vI wI K)∧∃L,g.cell ⟨e,2,none⟩=some (vI wI L)∧SemW wP (Instr.lookup Zfd I (vA ⟨[(vI vU J),(vI wI K),(vI wI L)]⟩) false) g fun f4 c=>
 ∃j,f4=vP j∧
 IfB (!j.isNone)
 (FnW wP Zow ⟨[(vP j)]⟩ c fun f5 d6=>
 ∃M,∃N:Int,f5=(vA ⟨[(vI wI M),(vI wI N)]⟩)∧
 NewW d6 (Obj.cells ⟨[(vI wI 0),(vI wI 0)]⟩ Zff) fun i d7=>
 Za d7 ⟨i,0,none⟩ (vI wI M) fun d8=>
 Za d8 ⟨i,1,none⟩ (vI wI N) fun d=>
 NilP j fun O=>
 ∃P,d.cell ⟨O.block,O.off+4,none⟩=some (vP P)∧
 ∃Q,d.cell ⟨a,0,none⟩=some (vI wI Q)∧∃R,d.cell ⟨a,1,none⟩=some (vI wI R)∧∃S,d.cell ⟨a,2,none⟩=some (vI vU S)∧∃T,d.cell ⟨a,3,none⟩=some (vI vU T)∧∃U,d.cell ⟨a,4,none⟩=some (vI wI U)∧∃V,d.cell ⟨a,5,none⟩=some (vI wI V)∧∃W,d.cell ⟨a,6,none⟩=some (vI wI W)∧∃X,d.cell ⟨a,7,none⟩=some (vI wI X)∧∃Y a0 Z,d.cell ⟨a,8,none⟩=some (vS Y a0 Z)∧FnW wP Zyj ⟨[(vP P),(vI wI o),(vA ⟨[(vI wI Q),(vI wI R),(vI vU S),(vI vU T),(vI wI U),(vI wI V),(vI wI W),(vI wI X),(vS Y a0 Z)]⟩)]⟩ d fun f7 h=>
 ∃a1 a3 a2,∃f6:Int,f7=(vT ⟨[(vS a1 a3 a2),(vI wI f6)]⟩)∧
 ∃m:List Nat,(∀b∈m,∃f1,h b=some f1)∧
 i∈m∧∃a7,h.cell ⟨i,0,none⟩=some (vI wI a7)∧∃a8,h.cell ⟨i,1,none⟩=some (vI wI a8)∧FnW wP Zha ⟨[(vP (some ⟨f,0,none⟩)),(vI vU n),(vS a1 a3 a2)]⟩ h fun f8 s=>
 ∃a4 a6 a5,f8=vS a4 a6 a5∧
 Zb m h s∧FnW wP Zyc ⟨[(vP (some ⟨f,0,none⟩)),(vP j),(vA ⟨[(vI wI a7),(vI wI a8)]⟩)]⟩ s fun f9 d9=>
 ∃a9 b1 b0,f9=vS a9 b1 b0∧
 l (vT ⟨[(vS a4 a6 a5),(vS a9 b1 b0),(vI wI 0)]⟩) d9)
 (∃b2,c.cell ⟨e,0,none⟩=some (vI vU b2)∧∃b3,c.cell ⟨e,1,none⟩=some (vI wI b3)∧∃b4,c.cell ⟨e,2,none⟩=some (vI wI b4)∧∃b5,c.cell ⟨a,0,none⟩=some (vI wI b5)∧∃b6,c.cell ⟨a,1,none⟩=some (vI wI b6)∧∃b7,c.cell ⟨a,2,none⟩=some (vI vU b7)∧∃b8,c.cell ⟨a,3,none⟩=some (vI vU b8)∧∃b9,c.cell ⟨a,4,none⟩=some (vI wI b9)∧∃c0,c.cell ⟨a,5,none⟩=some (vI wI c0)∧∃c1,c.cell ⟨a,6,none⟩=some (vI wI c1)∧∃c2,c.cell ⟨a,7,none⟩=some (vI wI c2)∧∃c3 c5 c4,c.cell ⟨a,8,none⟩=some (vS c3 c5 c4)∧FnW wP Zwt ⟨[(vP (some ⟨f,0,none⟩)),(vA ⟨[(vI vU b2),(vI wI b3),(vI wI b4)]⟩),(vA ⟨[(vI wI b5),(vI wI b6),(vI vU b7),(vI vU b8),(vI wI b9),(vI wI c0),(vI wI c1),(vI wI c2),(vS c3 c5 c4)]⟩)]⟩ c fun g0 e0=>
 ∃c6 c8 c7,g0=vS c6 c8 c7∧
 l (vT ⟨[(vS c6 c8 c7),(vS none 0 0),(vI wI 0)]⟩) e0)))
theorem Zceh (i:Nat) (h g:Int) (d:Option Addr) (f e:Nat) {a:Heap} {c:Value->Heap->Prop} (k:Zbkt i h g d f e a fun l j=>∀b,Shut a j b->c l b):FnW wP Zln ⟨[(vP (some ⟨i,0,none⟩)),(vI wI h),(vI vU g),(vS d f e)]⟩ a c:=Zc Tryz.func12 ⟨[(13,[0,1,2,4,5,6,3,7,8,9,10],[73])],[],[],[]⟩ (by kernel_rfl) (by kernel_rfl) k
def Zuf (k:Nat) (j:Int) (l:Bool) (a:Heap) (c:Value->Heap->Prop):Prop:=
 IfB l
 (c (vI wI 0) a)
 (∃d:Value,a.cell ⟨k,4,none⟩=some d∧
 SemW wP (Instr.lookup Zdy d (vI wI j) false) a fun m b=>
 ∃e,m=vP e∧
 NilP e fun f=>
 ∃g,b.cell ⟨f.block,f.off+4,none⟩=some (vP g)∧
 FnW wP Zox ⟨[(vP g)]⟩ b fun n i=>
 ∃h,n=vI wI h∧
 c (vI wI h) i)
def Zbql (a:Nat) (c:Int) (h:Heap) (d:Value->Heap->Prop):Prop:=
 FnW wP Zjj ⟨[(vP (some ⟨a,0,none⟩))]⟩ h fun k b=>
 ∃g,k=vB g∧
 IfB (!g)
 (Zuf a c true b d)
 (∃e:Value,b.cell ⟨a,4,none⟩=some e∧
 SemW wP (Instr.lookup Zdy e (vI wI c) false) b fun j i=>
 ∃f,j=vP f∧
 Zuf a c f.isNone i d)
theorem Zcka (e:Nat) (d:Int) {a:Heap} {c:Value->Heap->Prop} (g:Zbql e d a fun h f=>∀b,Shut a f b->c h b):FnW wP Zpu ⟨[(vP (some ⟨e,0,none⟩)),(vI wI d)]⟩ a c:=Zc Tryz.func15 ⟨[],[],[],[]⟩ (by kernel_rfl) (by kernel_rfl) g
def Zbml (p q:Int) (k:Heap) (c:Value->Heap->Prop):Prop:=
 FnW wP Zie ⟨[(vI wI 0)]⟩ k fun u l=>
 ∃h,u=vI vU h∧
 FnW wP Zlk ⟨[(vI vU h),(vI vU p)]⟩ l fun v m=>
 ∃i,v=vP i∧
 FnW wP Zie ⟨[(vI wI 1)]⟩ m fun w n=>
 ∃j,w=vI vU j∧
 FnW wP Zlk ⟨[(vI vU j),(vI vU q)]⟩ n fun r o=>
 ∃d,r=vP d∧
 NewW o (Obj.cells ⟨[(vP i),(vP d),(vS none 0 0),(vS none 0 0)]⟩ Zbdc) fun e a=>
 InB 1 2 fun s=>
 ∃f,a.cell ⟨e,0+s*1,none⟩=some (vP f)∧
 FnW wP Zlm ⟨[(vP f),(vI wI 179)]⟩ a fun t b=>
 ∃g,t=vI wI g∧
 IfB (g !=0)
 (c (vP none) b)
 (c (vP (some ⟨e,0,none⟩)) b)
theorem Zcgm (d e:Int) {a:Heap} {c:Value->Heap->Prop} (g:Zbml d e a fun h f=>∀b,Shut a f b->c h b):FnW wP Zwq ⟨[(vI vU d),(vI vU e)]⟩ a c:=Zc Tryz.func17 ⟨[],[],[],[]⟩ (by kernel_rfl) (by kernel_rfl) g
def Zbrg (c:Int) (a:Heap) (b:Value->Heap->Prop):Prop:=
 b (vI vU (vW vU (vW wI (10+c)))) a
theorem Zcks (d:Int) {a:Heap} {c:Value->Heap->Prop} (f:Zbrg d a fun g e=>∀b,Shut a e b->c g b):FnW wP Zie ⟨[(vI wI d)]⟩ a c:=Zc Tryz.func18 ⟨[],[],[],[]⟩ (by kernel_rfl) (by kernel_rfl) f
def Znj (f:Nat) (e:Int) (g:Option Addr) (i h:Nat) (b:Int) (c:(Int×Unit)->Heap->Prop) (a:Heap) (d:Value->Heap->Prop):Prop:=
 c ((vW wI (b+1)),()) a
def Zboq (g:Nat) (e:Int) (h:Option Addr) (f l:Nat) (d:Int) (a:Heap) (k:(Int×Unit)->Heap->Prop) (i:Value->Heap->Prop):Prop:=
 IfB (decide (d<(f:Int)))
 (∃j:List Nat,(∀b∈j,∃C,a b=some C)∧
 NilP h fun E=>
 InB d f fun D=>
 elemAt E D 2 fun m=>
 m.block∈j∧∃n,a.cell m=some (vI vU n)∧
 FnW wP Zie ⟨[(vI wI (vW wI (1 - e)))]⟩ a fun F c=>
 ∃o,F=vI vU o∧
 Zb j a c∧IfB (n==o)
 (InB (vW wI (1 - e)) 2 fun G=>
 ∃p r q,c.cell ⟨g,2+G*1,none⟩=some (vS p r q)∧
 NilP h fun I=>
 InB d f fun H=>
 elemAt I H 2 fun s=>
 ∃t v u,c.cell ⟨s.block,s.off+1,none⟩=some (vS t v u)∧
 NewW c (Obj.cells ⟨[(vS t v u)]⟩ Zd) fun J z=>
 AppW wP #[Zjc,Zjc] Zjc [(vS p r q),(vS (some ⟨J,0,none⟩) 1 1)] z fun K A=>
 ∃w y x,K=vS w y x∧
 InB (vW wI (1 - e)) 2 fun L=>
 Za A ⟨g,2+L*1,none⟩ (vS w y x) fun B=>
 Znj g e h f l d k B i)
 (Znj g e h f l d k c i))
 (i (vT ⟨[]⟩) a)
def Zbor (d:Nat) (c:Int) (f:Option Addr) (h g:Nat) (a:Heap) (b:Value->Heap->Prop):Prop:=
 Zbe (Int×Unit) (0,()) a fun i a e=>∀j:Env,Zboq d c f h g i.1 a e b
theorem Zcip (e:Nat) (d:Int) (f:Option Addr) (h g:Nat) {a:Heap} {c:Value->Heap->Prop} (j:Zbor e d f h g a fun k i=>∀b,Shut a i b->c k b):FnW wP Zlz ⟨[(vP (some ⟨e,0,none⟩)),(vI wI d),(vS f h g)]⟩ a c:=Zc Tryz.func19 ⟨[(3,[0,1,2,3,4,5,6,7,8],[17]),(4,[0,1,2,3,4,5,6,7,8,9,10,11,12,13,14,17,18,15,16,19,20],[])],[(1,[6],[.int wI],[0,1,2])],[],[]⟩ (by kernel_rfl) (by kernel_rfl) j
def Zbpj (f:Nat) (F e:Int) (H:Option Addr) (l Q:Nat) (i:Option Addr) (k j:Nat) (d:Int) (a:Heap) (E:((Option Addr×Nat×Nat)×Int×Unit)->Heap->Prop) (D:Value->Heap->Prop):Prop:=
 IfB (decide (d<(l:Int)))
 (∃c:List Nat,(∀b∈c,∃G,a b=some G)∧
 InB e 2 fun I=>
 f∈c∧∃m,a.cell ⟨f,0+I*1,none⟩=some (vP m)∧
 NilP H fun L=>
 InB d l fun K=>
 elemAt L K 1 fun o=>
 o.block∈c∧∃p r q,a.cell o=some (vS p r q)∧
 FnW wP Zie ⟨[(vI wI (vW wI (1 - e)))]⟩ a fun J g=>
 ∃n,J=vI vU n∧
 Zb c a g∧FnW wP Zln ⟨[(vP m),(vI wI F),(vI vU n),(vS p r q)]⟩ g fun N h=>
 ∃s u t,∃(v:Option Addr) (x w:Nat),∃M:Int,N=(vT ⟨[(vS s u t),(vS v x w),(vI wI M)]⟩)∧
 Zb c a h∧FnW wP Zlz ⟨[(vP (some ⟨f,0,none⟩)),(vI wI e),(vS s u t)]⟩ h fun O B=>
 O=vT ⟨[]⟩∧
 AppW wP #[Zcc,Zcc] Zcc [(vS i k j),(vS v x w)] B fun P C=>
 ∃y A z,P=vS y A z∧
 E ((y,A,z),((vW wI (d+1)),())) C)
 (D (vS i k j) a)
def Zbpk (d:Nat) (l c:Int) (b:Heap) (j:Value->Heap->Prop):Prop:=
 NewW b (Obj.cells ⟨[]⟩ Zbi) fun m e=>
 InB c 2 fun n=>
 ∃f h g,e.cell ⟨d,2+n*1,none⟩=some (vS f h g)∧
 InB c 2 fun o=>
 Za e ⟨d,2+o*1,none⟩ (vS none 0 0) fun i=>
 Zbe ((Option Addr×Nat×Nat)×Int×Unit) (((some ⟨m,0,none⟩),0,0),(0,())) i fun a b k=>∀p:Env,Zbpj d l c f h g a.1.1 a.1.2.1 a.1.2.2 a.2.1 b k j
theorem Zcjd (e:Nat) (f d:Int) {a:Heap} {c:Value->Heap->Prop} (h:Zbpk e f d a fun i g=>∀b,Shut a g b->c i b):FnW wP Zgz ⟨[(vP (some ⟨e,0,none⟩)),(vI wI f),(vI wI d)]⟩ a c:=Zc Tryz.func20 ⟨[(7,[0,1,2,3,4,5,6,7,8,10,11,12,13,9,14,15,16,17,18,19,20,21],[37,45])],[(5,[7,9],[.slice,.int wI],[0,1,2,8])],[],[]⟩ (by kernel_rfl) (by kernel_rfl) h
def Zbks (c:Nat) (e:Int) (t:Heap) (b:Value->Heap->Prop):Prop:=
 FnW wP Zjj ⟨[(vP (some ⟨c,0,none⟩))]⟩ t fun D f=>
 ∃s,D=vB s∧
 IfB (!s)
 (b (vI wI 1) f)
 (FnW wP Zlo ⟨[(vI wI e)]⟩ f fun x d=>
 ∃g,x=vB g∧
 IfB (!g)
 (b (vI wI 2) d)
 (∃h j i,d.cell ⟨c,2,none⟩=some (vS h j i)∧
 FnW wP Zoy ⟨[(vS h j i),(vI wI e)]⟩ d fun y a=>
 ∃k,y=vB k∧
 IfB k
 (b (vI wI 6) a)
 (∃z l A,a.cell ⟨c,2,none⟩=some (vS z l A)∧
 IfB (((l:Int):Int)==8)
 (b (vI wI 4) a)
 (∃m o n,a.cell ⟨c,2,none⟩=some (vS m o n)∧
 NewW a (Obj.cells ⟨[(vI wI e)]⟩ Zl) fun B u=>
 AppW wP #[Zbt,Zbt] Zbt [(vS m o n),(vS (some ⟨B,0,none⟩) 1 1)] u fun C v=>
 ∃p r q,C=vS p r q∧
 Za v ⟨c,2,none⟩ (vS p r q) fun w=>
 b (vI wI 0) w))))
theorem Zceg (e:Nat) (d:Int) {a:Heap} {c:Value->Heap->Prop} (g:Zbks e d a fun h f=>∀b,Shut a f b->c h b):FnW wP Zlm ⟨[(vP (some ⟨e,0,none⟩)),(vI wI d)]⟩ a c:=Zc Tryz.func24 ⟨[],[],[],[]⟩ (by kernel_rfl) (by kernel_rfl) g
def Znn (c:Option Addr) (f d a:Nat) (l4:Int) (y2:Bool) (M:Heap) (x:Value->Heap->Prop):Prop:=
 IfB y2
 (Za M ⟨a,0,none⟩ (vI wI 0) fun r6=>
 Za r6 ⟨a,1,none⟩ (vI wI 0) fun s4=>
 Za s4 ⟨a,2,none⟩ (vI vU 0) fun s9=>
 Za s9 ⟨a,3,none⟩ (vI vU 0) fun t0=>
 Za t0 ⟨a,4,none⟩ (vI wI 0) fun t1=>
 Za t1 ⟨a,5,none⟩ (vI wI 0) fun t2=>
 Za t2 ⟨a,6,none⟩ (vI wI 0) fun t3=>
 Za t3 ⟨a,7,none⟩ (vI wI 0) fun t4=>
 Za t4 ⟨a,8,none⟩ (vS none 0 0) fun r=>
 ∃b5,r.cell ⟨a,0,none⟩=some (vI wI b5)∧∃c4,r.cell ⟨a,1,none⟩=some (vI wI c4)∧∃d3,r.cell ⟨a,2,none⟩=some (vI vU d3)∧∃e2,r.cell ⟨a,3,none⟩=some (vI vU e2)∧∃f1,r.cell ⟨a,4,none⟩=some (vI wI f1)∧∃g0,r.cell ⟨a,5,none⟩=some (vI wI g0)∧∃g9,r.cell ⟨a,6,none⟩=some (vI wI g9)∧∃h8,r.cell ⟨a,7,none⟩=some (vI wI h8)∧∃i7 k5 j6,r.cell ⟨a,8,none⟩=some (vS i7 k5 j6)∧x (vT ⟨[(vA ⟨[(vI wI b5),(vI wI c4),(vI vU d3),(vI vU e2),(vI wI f1),(vI wI g0),(vI wI g9),(vI wI h8),(vS i7 k5 j6)]⟩),(vI wI 110)]⟩) r)
 (InC (vW wI (4*(vW wI (Int.fdiv l4 (2^(min (4:Int).toNat (wB wU))))))) d fun l5=>
 InC 20 l5 fun D=>
 FnW wP Zxm ⟨[(vS (if d=D then c else vM (fun e=>Addr.add e (D*1)) c) (l5 - D) (d - D))]⟩ M fun y3 g=>
 ∃y,∃l6:Bool,y3=(vT ⟨[(vI wI y),(vB l6)]⟩)∧
 IfB (!l6)
 (Za g ⟨a,0,none⟩ (vI wI 0) fun t5=>
 Za t5 ⟨a,1,none⟩ (vI wI 0) fun t6=>
 Za t6 ⟨a,2,none⟩ (vI vU 0) fun t7=>
 Za t7 ⟨a,3,none⟩ (vI vU 0) fun t8=>
 Za t8 ⟨a,4,none⟩ (vI wI 0) fun t9=>
 Za t9 ⟨a,5,none⟩ (vI wI 0) fun u0=>
 Za u0 ⟨a,6,none⟩ (vI wI 0) fun u1=>
 Za u1 ⟨a,7,none⟩ (vI wI 0) fun u2=>
 Za u2 ⟨a,8,none⟩ (vS none 0 0) fun s=>
 ∃b6,s.cell ⟨a,0,none⟩=some (vI wI b6)∧∃c5,s.cell ⟨a,1,none⟩=some (vI wI c5)∧∃d4,s.cell ⟨a,2,none⟩=some (vI vU d4)∧∃e3,s.cell ⟨a,3,none⟩=some (vI vU e3)∧∃f2,s.cell ⟨a,4,none⟩=some (vI wI f2)∧∃g1,s.cell ⟨a,5,none⟩=some (vI wI g1)∧∃h0,s.cell ⟨a,6,none⟩=some (vI wI h0)∧∃h9,s.cell ⟨a,7,none⟩=some (vI wI h9)∧∃i8 k6 j7,s.cell ⟨a,8,none⟩=some (vS i8 k6 j7)∧x (vT ⟨[(vA ⟨[(vI wI b6),(vI wI c5),(vI vU d4),(vI vU e3),(vI wI f2),(vI wI g1),(vI wI h0),(vI wI h9),(vS i8 k6 j7)]⟩),(vI wI 110)]⟩) s)
 (∃h:List Nat,(∀b∈h,∃y1,g b=some y1)∧
 NilP c fun z9=>
 InB 13 f fun z8=>
 elemAt z9 z8 1 fun m7=>
 m7.block∈h∧∃z,g.cell m7=some (vI wU z)∧
 InC 2 f fun n=>
 InC 4 f fun m=>
 InC 8 f fun l=>
 InC 14 f fun k=>
 InC 18 f fun i=>
 InC (vW wI (4*(vW wI (Int.fdiv l4 (2^(min (4:Int).toNat (wB wU))))))) f fun j=>
 (NewW g (Obj.cells ⟨[]⟩ Zh) fun B3 u3=>
 FnW wP Zbu ⟨[(vS c f d)]⟩ u3 fun y4 R=>
 ∃l7,y4=vI wI l7∧
 Zb h g R∧FnW wP Zbu ⟨[(vS (if d=n then c else vM (fun e=>Addr.add e (n*1)) c) (f - n) (d - n))]⟩ R fun y6 S=>
 ∃l8,y6=vI wI l8∧
 Zb h g S∧FnW wP Zeb ⟨[(vS (if d=m then c else vM (fun e=>Addr.add e (m*1)) c) (f - m) (d - m))]⟩ S fun y9 T=>
 ∃m0,y9=vI vU m0∧
 Zb h g T∧FnW wP Zeb ⟨[(vS (if d=l then c else vM (fun e=>Addr.add e (l*1)) c) (f - l) (d - l))]⟩ T fun z3 U=>
 ∃m3,z3=vI vU m3∧
 Zb h g U∧FnW wP Zbu ⟨[(vS (if d=k then c else vM (fun e=>Addr.add e (k*1)) c) (f - k) (d - k))]⟩ U fun A0 V=>
 ∃m8,A0=vI wI m8∧
 Zb h g V∧FnW wP Zbu ⟨[(vS (if d=i then c else vM (fun e=>Addr.add e (i*1)) c) (f - i) (d - i))]⟩ V fun A6 W=>
 ∃n3,A6=vI wI n3∧
 Zb h g W∧AppW wP #[Zd,Zd] Zd [(vS (some ⟨B3,0,none⟩) 0 0),(vS (if d=j then c else vM (fun e=>Addr.add e (j*1)) c) (f - j) (d - j))] W fun C0 X=>
 ∃o0 p4 o7,C0=vS o0 p4 o7∧
 Zb h g X∧Za X ⟨a,0,none⟩ (vI wI l7) fun u4=>
 Za u4 ⟨a,1,none⟩ (vI wI l8) fun u5=>
 Za u5 ⟨a,2,none⟩ (vI vU m0) fun u6=>
 Za u6 ⟨a,3,none⟩ (vI vU m3) fun u7=>
 Za u7 ⟨a,4,none⟩ (vI wI (vW wI (Zbc wU z 63))) fun u9=>
 Za u9 ⟨a,5,none⟩ (vI wI m8) fun v0=>
 Za v0 ⟨a,6,none⟩ (vI wI n3) fun v1=>
 Za v1 ⟨a,7,none⟩ (vI wI y) fun v2=>
 Za v2 ⟨a,8,none⟩ (vS o0 p4 o7) fun t=>
 ∃b7,t.cell ⟨a,0,none⟩=some (vI wI b7)∧∃c6,t.cell ⟨a,1,none⟩=some (vI wI c6)∧∃d5,t.cell ⟨a,2,none⟩=some (vI vU d5)∧∃e4,t.cell ⟨a,3,none⟩=some (vI vU e4)∧∃f3,t.cell ⟨a,4,none⟩=some (vI wI f3)∧∃g2,t.cell ⟨a,5,none⟩=some (vI wI g2)∧∃h1,t.cell ⟨a,6,none⟩=some (vI wI h1)∧∃i0,t.cell ⟨a,7,none⟩=some (vI wI i0)∧∃i9 k7 j8,t.cell ⟨a,8,none⟩=some (vS i9 k7 j8)∧x (vT ⟨[(vA ⟨[(vI wI b7),(vI wI c6),(vI vU d5),(vI vU e4),(vI wI f3),(vI wI g2),(vI wI h1),(vI wI i0),(vS i9 k7 j8)]⟩),(vI wI 0)]⟩) t)∧
 (FnW wP Zbu ⟨[(vS c f d)]⟩ g fun y5 G=>
 ∃A,y5=vI wI A∧
 Zb h g G∧(NewW G (Obj.cells ⟨[]⟩ Zh) fun B4 v3=>
 FnW wP Zbu ⟨[(vS (if d=n then c else vM (fun e=>Addr.add e (n*1)) c) (f - n) (d - n))]⟩ v3 fun y7 Y=>
 ∃l9,y7=vI wI l9∧
 Zb h g Y∧FnW wP Zeb ⟨[(vS (if d=m then c else vM (fun e=>Addr.add e (m*1)) c) (f - m) (d - m))]⟩ Y fun z0 Z=>
 ∃m1,z0=vI vU m1∧
 Zb h g Z∧FnW wP Zeb ⟨[(vS (if d=l then c else vM (fun e=>Addr.add e (l*1)) c) (f - l) (d - l))]⟩ Z fun z4 a0=>
 ∃m4,z4=vI vU m4∧
 Zb h g a0∧FnW wP Zbu ⟨[(vS (if d=k then c else vM (fun e=>Addr.add e (k*1)) c) (f - k) (d - k))]⟩ a0 fun A1 a1=>
 ∃m9,A1=vI wI m9∧
 Zb h g a1∧FnW wP Zbu ⟨[(vS (if d=i then c else vM (fun e=>Addr.add e (i*1)) c) (f - i) (d - i))]⟩ a1 fun A7 a2=>
 ∃n4,A7=vI wI n4∧
 Zb h g a2∧AppW wP #[Zd,Zd] Zd [(vS (some ⟨B4,0,none⟩) 0 0),(vS (if d=j then c else vM (fun e=>Addr.add e (j*1)) c) (f - j) (d - j))] a2 fun C1 a3=>
 ∃o1 p5 o8,C1=vS o1 p5 o8∧
 Zb h g a3∧Za a3 ⟨a,0,none⟩ (vI wI A) fun v4=>
 Za v4 ⟨a,1,none⟩ (vI wI l9) fun v5=>
 Za v5 ⟨a,2,none⟩ (vI vU m1) fun v6=>
 Za v6 ⟨a,3,none⟩ (vI vU m4) fun v7=>
 Za v7 ⟨a,4,none⟩ (vI wI (vW wI (Zbc wU z 63))) fun v8=>
 Za v8 ⟨a,5,none⟩ (vI wI m9) fun v9=>
 Za v9 ⟨a,6,none⟩ (vI wI n4) fun w0=>
 Za w0 ⟨a,7,none⟩ (vI wI y) fun w1=>
 Za w1 ⟨a,8,none⟩ (vS o1 p5 o8) fun u=>
 ∃b8,u.cell ⟨a,0,none⟩=some (vI wI b8)∧∃c7,u.cell ⟨a,1,none⟩=some (vI wI c7)∧∃d6,u.cell ⟨a,2,none⟩=some (vI vU d6)∧∃e5,u.cell ⟨a,3,none⟩=some (vI vU e5)∧∃f4,u.cell ⟨a,4,none⟩=some (vI wI f4)∧∃g3,u.cell ⟨a,5,none⟩=some (vI wI g3)∧∃h2,u.cell ⟨a,6,none⟩=some (vI wI h2)∧∃i1,u.cell ⟨a,7,none⟩=some (vI wI i1)∧∃j0 k8 j9,u.cell ⟨a,8,none⟩=some (vS j0 k8 j9)∧x (vT ⟨[(vA ⟨[(vI wI b8),(vI wI c7),(vI vU d6),(vI vU e5),(vI wI f4),(vI wI g3),(vI wI h2),(vI wI i1),(vS j0 k8 j9)]⟩),(vI wI 0)]⟩) u)∧
 (FnW wP Zbu ⟨[(vS (if d=n then c else vM (fun e=>Addr.add e (n*1)) c) (f - n) (d - n))]⟩ G fun y8 H=>
 ∃B,y8=vI wI B∧
 Zb h g H∧(NewW H (Obj.cells ⟨[]⟩ Zh) fun B5 w2=>
 FnW wP Zeb ⟨[(vS (if d=m then c else vM (fun e=>Addr.add e (m*1)) c) (f - m) (d - m))]⟩ w2 fun z1 a4=>
 ∃m2,z1=vI vU m2∧
 Zb h g a4∧FnW wP Zeb ⟨[(vS (if d=l then c else vM (fun e=>Addr.add e (l*1)) c) (f - l) (d - l))]⟩ a4 fun z5 a5=>
 ∃m5,z5=vI vU m5∧
 Zb h g a5∧FnW wP Zbu ⟨[(vS (if d=k then c else vM (fun e=>Addr.add e (k*1)) c) (f - k) (d - k))]⟩ a5 fun A2 a6=>
 ∃n0,A2=vI wI n0∧
 Zb h g a6∧FnW wP Zbu ⟨[(vS (if d=i then c else vM (fun e=>Addr.add e (i*1)) c) (f - i) (d - i))]⟩ a6 fun A8 a7=>
 ∃n5,A8=vI wI n5∧
 Zb h g a7∧AppW wP #[Zd,Zd] Zd [(vS (some ⟨B5,0,none⟩) 0 0),(vS (if d=j then c else vM (fun e=>Addr.add e (j*1)) c) (f - j) (d - j))] a7 fun C2 a8=>
 ∃o2 p6 o9,C2=vS o2 p6 o9∧
 Zb h g a8∧Za a8 ⟨a,0,none⟩ (vI wI A) fun w3=>
 Za w3 ⟨a,1,none⟩ (vI wI B) fun w4=>
 Za w4 ⟨a,2,none⟩ (vI vU m2) fun w5=>
 Za w5 ⟨a,3,none⟩ (vI vU m5) fun w6=>
 Za w6 ⟨a,4,none⟩ (vI wI (vW wI (Zbc wU z 63))) fun w7=>
 Za w7 ⟨a,5,none⟩ (vI wI n0) fun w8=>
 Za w8 ⟨a,6,none⟩ (vI wI n5) fun w9=>
 Za w9 ⟨a,7,none⟩ (vI wI y) fun x0=>
 Za x0 ⟨a,8,none⟩ (vS o2 p6 o9) fun v=>
 ∃b9,v.cell ⟨a,0,none⟩=some (vI wI b9)∧∃c8,v.cell ⟨a,1,none⟩=some (vI wI c8)∧∃d7,v.cell ⟨a,2,none⟩=some (vI vU d7)∧∃e6,v.cell ⟨a,3,none⟩=some (vI vU e6)∧∃f5,v.cell ⟨a,4,none⟩=some (vI wI f5)∧∃g4,v.cell ⟨a,5,none⟩=some (vI wI g4)∧∃h3,v.cell ⟨a,6,none⟩=some (vI wI h3)∧∃i2,v.cell ⟨a,7,none⟩=some (vI wI i2)∧∃j1 k9 k0,v.cell ⟨a,8,none⟩=some (vS j1 k9 k0)∧x (vT ⟨[(vA ⟨[(vI wI b9),(vI wI c8),(vI vU d7),(vI vU e6),(vI wI f5),(vI wI g4),(vI wI h3),(vI wI i2),(vS j1 k9 k0)]⟩),(vI wI 0)]⟩) v)∧
 (FnW wP Zeb ⟨[(vS (if d=m then c else vM (fun e=>Addr.add e (m*1)) c) (f - m) (d - m))]⟩ H fun z2 I=>
 ∃C,z2=vI vU C∧
 Zb h g I∧(NewW I (Obj.cells ⟨[]⟩ Zh) fun B6 x1=>
 FnW wP Zeb ⟨[(vS (if d=l then c else vM (fun e=>Addr.add e (l*1)) c) (f - l) (d - l))]⟩ x1 fun z6 a9=>
 ∃m6,z6=vI vU m6∧
 Zb h g a9∧FnW wP Zbu ⟨[(vS (if d=k then c else vM (fun e=>Addr.add e (k*1)) c) (f - k) (d - k))]⟩ a9 fun A3 b0=>
 ∃n1,A3=vI wI n1∧
 Zb h g b0∧FnW wP Zbu ⟨[(vS (if d=i then c else vM (fun e=>Addr.add e (i*1)) c) (f - i) (d - i))]⟩ b0 fun A9 b1=>
 ∃n6,A9=vI wI n6∧
 Zb h g b1∧AppW wP #[Zd,Zd] Zd [(vS (some ⟨B6,0,none⟩) 0 0),(vS (if d=j then c else vM (fun e=>Addr.add e (j*1)) c) (f - j) (d - j))] b1 fun C3 b2=>
 ∃o3 p7 p0,C3=vS o3 p7 p0∧
 Zb h g b2∧Za b2 ⟨a,0,none⟩ (vI wI A) fun x2=>
 Za x2 ⟨a,1,none⟩ (vI wI B) fun x3=>
 Za x3 ⟨a,2,none⟩ (vI vU C) fun x4=>
 Za x4 ⟨a,3,none⟩ (vI vU m6) fun x5=>
 Za x5 ⟨a,4,none⟩ (vI wI (vW wI (Zbc wU z 63))) fun x6=>
 Za x6 ⟨a,5,none⟩ (vI wI n1) fun x7=>
 Za x7 ⟨a,6,none⟩ (vI wI n6) fun x8=>
 Za x8 ⟨a,7,none⟩ (vI wI y) fun x9=>
 Za x9 ⟨a,8,none⟩ (vS o3 p7 p0) fun w=>
 ∃c0,w.cell ⟨a,0,none⟩=some (vI wI c0)∧∃c9,w.cell ⟨a,1,none⟩=some (vI wI c9)∧∃d8,w.cell ⟨a,2,none⟩=some (vI vU d8)∧∃e7,w.cell ⟨a,3,none⟩=some (vI vU e7)∧∃f6,w.cell ⟨a,4,none⟩=some (vI wI f6)∧∃g5,w.cell ⟨a,5,none⟩=some (vI wI g5)∧∃h4,w.cell ⟨a,6,none⟩=some (vI wI h4)∧∃i3,w.cell ⟨a,7,none⟩=some (vI wI i3)∧∃j2 l0 k1,w.cell ⟨a,8,none⟩=some (vS j2 l0 k1)∧x (vT ⟨[(vA ⟨[(vI wI c0),(vI wI c9),(vI vU d8),(vI vU e7),(vI wI f6),(vI wI g5),(vI wI h4),(vI wI i3),(vS j2 l0 k1)]⟩),(vI wI 0)]⟩) w)∧
 (FnW wP Zeb ⟨[(vS (if d=l then c else vM (fun e=>Addr.add e (l*1)) c) (f - l) (d - l))]⟩ I fun z7 J=>
 ∃E,z7=vI vU E∧
 Zb h g J∧(NewW J (Obj.cells ⟨[]⟩ Zh) fun B7 y0=>
 FnW wP Zbu ⟨[(vS (if d=k then c else vM (fun e=>Addr.add e (k*1)) c) (f - k) (d - k))]⟩ y0 fun A4 b3=>
 ∃n2,A4=vI wI n2∧
 Zb h g b3∧FnW wP Zbu ⟨[(vS (if d=i then c else vM (fun e=>Addr.add e (i*1)) c) (f - i) (d - i))]⟩ b3 fun B0 b4=>
 ∃n7,B0=vI wI n7∧
 Zb h g b4∧AppW wP #[Zd,Zd] Zd [(vS (some ⟨B7,0,none⟩) 0 0),(vS (if d=j then c else vM (fun e=>Addr.add e (j*1)) c) (f - j) (d - j))] b4 fun C4 L=>
 ∃o4 p8 p1,C4=vS o4 p8 p1∧
 Zb h g L∧Za L ⟨a,0,none⟩ (vI wI A) fun q1=>
 Za q1 ⟨a,1,none⟩ (vI wI B) fun q2=>
 Za q2 ⟨a,2,none⟩ (vI vU C) fun q3=>
 Za q3 ⟨a,3,none⟩ (vI vU E) fun q4=>
 Za q4 ⟨a,4,none⟩ (vI wI (vW wI (Zbc wU z 63))) fun q5=>
 Za q5 ⟨a,5,none⟩ (vI wI n2) fun q6=>
 Za q6 ⟨a,6,none⟩ (vI wI n7) fun q7=>
 Za q7 ⟨a,7,none⟩ (vI wI y) fun q8=>
 Za q8 ⟨a,8,none⟩ (vS o4 p8 p1) fun o=>
 ∃c1,o.cell ⟨a,0,none⟩=some (vI wI c1)∧∃d0,o.cell ⟨a,1,none⟩=some (vI wI d0)∧∃d9,o.cell ⟨a,2,none⟩=some (vI vU d9)∧∃e8,o.cell ⟨a,3,none⟩=some (vI vU e8)∧∃f7,o.cell ⟨a,4,none⟩=some (vI wI f7)∧∃g6,o.cell ⟨a,5,none⟩=some (vI wI g6)∧∃h5,o.cell ⟨a,6,none⟩=some (vI wI h5)∧∃i4,o.cell ⟨a,7,none⟩=some (vI wI i4)∧∃j3 l1 k2,o.cell ⟨a,8,none⟩=some (vS j3 l1 k2)∧x (vT ⟨[(vA ⟨[(vI wI c1),(vI wI d0),(vI vU d9),(vI vU e8),(vI wI f7),(vI wI g6),(vI wI h5),(vI wI i4),(vS j3 l1 k2)]⟩),(vI wI 0)]⟩) o)∧
 (FnW wP Zbu ⟨[(vS (if d=k then c else vM (fun e=>Addr.add e (k*1)) c) (f - k) (d - k))]⟩ J fun A5 F=>
 ∃K,A5=vI wI K∧
 Zb h g F∧(NewW F (Obj.cells ⟨[]⟩ Zh) fun B8 q9=>
 FnW wP Zbu ⟨[(vS (if d=i then c else vM (fun e=>Addr.add e (i*1)) c) (f - i) (d - i))]⟩ q9 fun B1 N=>
 ∃n8,B1=vI wI n8∧
 Zb h g N∧AppW wP #[Zd,Zd] Zd [(vS (some ⟨B8,0,none⟩) 0 0),(vS (if d=j then c else vM (fun e=>Addr.add e (j*1)) c) (f - j) (d - j))] N fun C5 O=>
 ∃o5 p9 p2,C5=vS o5 p9 p2∧
 Zb h g O∧Za O ⟨a,0,none⟩ (vI wI A) fun r0=>
 Za r0 ⟨a,1,none⟩ (vI wI B) fun r1=>
 Za r1 ⟨a,2,none⟩ (vI vU C) fun r2=>
 Za r2 ⟨a,3,none⟩ (vI vU E) fun r3=>
 Za r3 ⟨a,4,none⟩ (vI wI (vW wI (Zbc wU z 63))) fun r4=>
 Za r4 ⟨a,5,none⟩ (vI wI K) fun r5=>
 Za r5 ⟨a,6,none⟩ (vI wI n8) fun r7=>
 Za r7 ⟨a,7,none⟩ (vI wI y) fun r8=>
 Za r8 ⟨a,8,none⟩ (vS o5 p9 p2) fun p=>
 ∃c2,p.cell ⟨a,0,none⟩=some (vI wI c2)∧∃d1,p.cell ⟨a,1,none⟩=some (vI wI d1)∧∃e0,p.cell ⟨a,2,none⟩=some (vI vU e0)∧∃e9,p.cell ⟨a,3,none⟩=some (vI vU e9)∧∃f8,p.cell ⟨a,4,none⟩=some (vI wI f8)∧∃g7,p.cell ⟨a,5,none⟩=some (vI wI g7)∧∃h6,p.cell ⟨a,6,none⟩=some (vI wI h6)∧∃i5,p.cell ⟨a,7,none⟩=some (vI wI i5)∧∃j4 l2 k3,p.cell ⟨a,8,none⟩=some (vS j4 l2 k3)∧x (vT ⟨[(vA ⟨[(vI wI c2),(vI wI d1),(vI vU e0),(vI vU e9),(vI wI f8),(vI wI g7),(vI wI h6),(vI wI i5),(vS j4 l2 k3)]⟩),(vI wI 0)]⟩) p)∧
 (FnW wP Zbu ⟨[(vS (if d=i then c else vM (fun e=>Addr.add e (i*1)) c) (f - i) (d - i))]⟩ F fun B2 P=>
 ∃n9,B2=vI wI n9∧
 Zb h g P∧NewW P (Obj.cells ⟨[]⟩ Zh) fun B9 r9=>
 AppW wP #[Zd,Zd] Zd [(vS (some ⟨B9,0,none⟩) 0 0),(vS (if d=j then c else vM (fun e=>Addr.add e (j*1)) c) (f - j) (d - j))] r9 fun C6 Q=>
 ∃o6 q0 p3,C6=vS o6 q0 p3∧
 Zb h g Q∧Za Q ⟨a,0,none⟩ (vI wI A) fun s0=>
 Za s0 ⟨a,1,none⟩ (vI wI B) fun s1=>
 Za s1 ⟨a,2,none⟩ (vI vU C) fun s2=>
 Za s2 ⟨a,3,none⟩ (vI vU E) fun s3=>
 Za s3 ⟨a,4,none⟩ (vI wI (vW wI (Zbc wU z 63))) fun s5=>
 Za s5 ⟨a,5,none⟩ (vI wI K) fun s6=>
 Za s6 ⟨a,6,none⟩ (vI wI n9) fun s7=>
 Za s7 ⟨a,7,none⟩ (vI wI y) fun s8=>
 Za s8 ⟨a,8,none⟩ (vS o6 q0 p3) fun q=>
 ∃c3,q.cell ⟨a,0,none⟩=some (vI wI c3)∧∃d2,q.cell ⟨a,1,none⟩=some (vI wI d2)∧∃e1,q.cell ⟨a,2,none⟩=some (vI vU e1)∧∃f0,q.cell ⟨a,3,none⟩=some (vI vU f0)∧∃f9,q.cell ⟨a,4,none⟩=some (vI wI f9)∧∃g8,q.cell ⟨a,5,none⟩=some (vI wI g8)∧∃h7,q.cell ⟨a,6,none⟩=some (vI wI h7)∧∃i6,q.cell ⟨a,7,none⟩=some (vI wI i6)∧∃j5 l3 k4,q.cell ⟨a,8,none⟩=some (vS j5 l3 k4)∧x (vT ⟨[(vA ⟨[(vI wI c3),(vI wI d2),(vI vU e1),(vI vU f0),(vI wI f9),(vI wI g8),(vI wI h7),(vI wI i6),(vS j5 l3 k4)]⟩),(vI wI 0)]⟩) q))))))))
def Zbpl (E F:Int) (f:Option Addr) (c h:Nat) (u:Heap) (g:Value->Heap->Prop):Prop:=
 NewW u (Obj.cells ⟨[(vI wI 0),(vI wI 0),(vI vU 0),(vI vU 0),(vI wI 0),(vI wI 0),(vI wI 0),(vI wI 0),(vS none 0 0)]⟩ Zm) fun a e=>
 IfB (decide (((c:Int):Int)<20))
 (Za e ⟨a,0,none⟩ (vI wI 0) fun w=>
 Za w ⟨a,1,none⟩ (vI wI 0) fun x=>
 Za x ⟨a,2,none⟩ (vI vU 0) fun y=>
 Za y ⟨a,3,none⟩ (vI vU 0) fun z=>
 Za z ⟨a,4,none⟩ (vI wI 0) fun A=>
 Za A ⟨a,5,none⟩ (vI wI 0) fun B=>
 Za B ⟨a,6,none⟩ (vI wI 0) fun C=>
 Za C ⟨a,7,none⟩ (vI wI 0) fun D=>
 Za D ⟨a,8,none⟩ (vS none 0 0) fun b=>
 ∃i,b.cell ⟨a,0,none⟩=some (vI wI i)∧∃j,b.cell ⟨a,1,none⟩=some (vI wI j)∧∃k,b.cell ⟨a,2,none⟩=some (vI vU k)∧∃l,b.cell ⟨a,3,none⟩=some (vI vU l)∧∃m,b.cell ⟨a,4,none⟩=some (vI wI m)∧∃n,b.cell ⟨a,5,none⟩=some (vI wI n)∧∃o,b.cell ⟨a,6,none⟩=some (vI wI o)∧∃p,b.cell ⟨a,7,none⟩=some (vI wI p)∧∃q s r,b.cell ⟨a,8,none⟩=some (vS q s r)∧g (vT ⟨[(vA ⟨[(vI wI i),(vI wI j),(vI vU k),(vI vU l),(vI wI m),(vI wI n),(vI wI o),(vI wI p),(vS q s r)]⟩),(vI wI 110)]⟩) b)
 (NilP f fun I=>
 InB 12 c fun G=>
 elemAt I G 1 fun H=>
 ∃d,e.cell H=some (vI wU d)∧
 (0:Int) <= 4∧
 IfB (decide (((vW wI (4*(vW wI (Int.fdiv d (2^(min (4:Int).toNat (wB wU))))))):Int)<20))
 (Znn f c h a d true e g)
 (IfB (decide (((vW wI (4*(vW wI (Int.fdiv d (2^(min (4:Int).toNat (wB wU))))))):Int)>(c:Int)))
 (Znn f c h a d true e g)
 (FnW wP Zmh ⟨[(vI vU E),(vI vU F),(vS f c h)]⟩ e fun J v=>
 ∃t,J=vI vU t∧
 Znn f c h a d (t !=65535) v g)))
theorem Zcje (g h:Int) (d:Option Addr) (f e:Nat) {a:Heap} {c:Value->Heap->Prop} (j:Zbpl g h d f e a fun k i=>∀b,Shut a i b->c k b):FnW wP Zmc ⟨[(vI vU g),(vI vU h),(vS d f e)]⟩ a c:=Zc Tryz.func26 ⟨[(7,[0,2,3,5,6,8,9,11,12,13,14,15,16,17,19,20,22,24,25,26,23,1,4,7,10,18,21,27,28,29,30],[57])],[],[],[(7,⟨23,[11,12,13],[0,2,3,5,6,8,9,14,15,16,17,19,20,22,24,25,26,1,4,7,10,18,21],[27],[28,29,30],[1,4,7,10,18,21]⟩)]⟩ (by kernel_rfl) (by kernel_rfl) j
def Zblk (c:Nat) (j:Heap) (b:Value->Heap->Prop):Prop:=
 FnW wP Zjj ⟨[(vP (some ⟨c,0,none⟩))]⟩ j fun o a=>
 ∃h,o=vB h∧
 IfB (!h)
 (b (vS none 0 0) a)
 (∃i:Value,a.cell ⟨c,4,none⟩=some i∧
 FnW wP Zbes ⟨[i]⟩ a fun m k=>
 ∃d:Value,m=d∧
 FnW wP Zwn ⟨[d]⟩ k fun n l=>
 ∃e g f,n=vS e g f∧
 b (vS e g f) l)
theorem Zcez (d:Nat) {a:Heap} {c:Value->Heap->Prop} (f:Zblk d a fun g e=>∀b,Shut a e b->c g b):FnW wP Zoq ⟨[(vP (some ⟨d,0,none⟩))]⟩ a c:=Zc Tryz.func27 ⟨[],[],[],[]⟩ (by kernel_rfl) (by kernel_rfl) f
def Zbln (c:Nat) (g:Int) (f:Heap) (b:Value->Heap->Prop):Prop:=
 FnW wP Zjj ⟨[(vP (some ⟨c,0,none⟩))]⟩ f fun h a=>
 ∃e,h=vB e∧
 IfB (!e)
 (b (vI wI 1) a)
 (∃d,a.cell ⟨c,6,none⟩=some (vI wI d)∧
 IfB (decide (g<d))
 (b (vI wI 2) a)
 (b (vI wI 0) a))
theorem Zcfc (e:Nat) (d:Int) {a:Heap} {c:Value->Heap->Prop} (g:Zbln e d a fun h f=>∀b,Shut a f b->c h b):FnW wP Zot ⟨[(vP (some ⟨e,0,none⟩)),(vI wI d)]⟩ a c:=Zc Tryz.func28 ⟨[],[],[],[]⟩ (by kernel_rfl) (by kernel_rfl) g
def Zbkv (c:Int) (a:Heap) (b:Value->Heap->Prop):Prop:=
 IfB (decide (c≥1))
 (b (vB (decide (c <= 65535))) a)
 (b (vB false) a)
theorem Zcej (d:Int) {a:Heap} {c:Value->Heap->Prop} (f:Zbkv d a fun g e=>∀b,Shut a e b->c g b):FnW wP Zlo ⟨[(vI wI d)]⟩ a c:=Zc Tryz.func29 ⟨[],[],[],[]⟩ (by kernel_rfl) (by kernel_rfl) f
def Zblo (b:Nat) (a:Heap) (g:Value->Heap->Prop):Prop:=
 ∃e,a.cell ⟨b,1,none⟩=some (vI vU e)∧
 ∃c,a.cell ⟨b,5,none⟩=some (vI wI c)∧
 FnW wP Zdl ⟨[(vI vU e),(vI wI (vW wI (64000*(vW wI (c+1)))))]⟩ a fun h f=>
 ∃d,h=vI vU d∧
 g (vI vU d) f
theorem Zcfd (d:Nat) {a:Heap} {c:Value->Heap->Prop} (f:Zblo d a fun g e=>∀b,Shut a e b->c g b):FnW wP Zou ⟨[(vP (some ⟨d,0,none⟩))]⟩ a c:=Zc Tryz.func31 ⟨[],[],[],[]⟩ (by kernel_rfl) (by kernel_rfl) f
def Zblp (d:Nat) (B C D:Int) (z A:Nat) (t:Heap) (y:Value->Heap->Prop):Prop:=
 NewW t (Obj.cells ⟨[(vI vU B),(vI wI C),(vI wI D)]⟩ Zeo) fun b h=>
 ∃i,h.cell ⟨d,5,none⟩=some (vI wI i)∧
 Za h ⟨d,5,none⟩ (vI wI (vW wI (i+1))) fun c=>
 ∃j,c.cell ⟨b,0,none⟩=some (vI vU j)∧∃k,c.cell ⟨b,1,none⟩=some (vI wI k)∧∃l,c.cell ⟨b,2,none⟩=some (vI wI l)∧∃m,c.cell ⟨d,5,none⟩=some (vI wI m)∧
 NewW c (Obj.cells ⟨[(vI vU j),(vI wI k),(vI wI l),(vI wI m),(vP (some ⟨z,A,none⟩))]⟩ Zve) fun e a=>
 ∃f:Value,a.cell ⟨d,3,none⟩=some f∧
 ∃n,a.cell ⟨b,0,none⟩=some (vI vU n)∧∃o,a.cell ⟨b,1,none⟩=some (vI wI o)∧∃p,a.cell ⟨b,2,none⟩=some (vI wI p)∧∃g:Value,a.cell ⟨d,4,none⟩=some g∧
 ∃q,a.cell ⟨e,3,none⟩=some (vI wI q)∧
 SemW wP (Instr.mapEntry Zfd f (vA ⟨[(vI vU n),(vI wI o),(vI wI p)]⟩)) a fun E u=>
 ∃(F:Value) (r:Int),E=vT ⟨[F,vI wI r]⟩∧
 EsW wP Zfd f (vI wI r) (vP (some ⟨e,0,none⟩)) u fun I v=>
 SemW wP (Instr.mapEntry Zdy g (vI wI q)) v fun G w=>
 ∃(H:Value) (s:Int),G=vT ⟨[H,vI wI s]⟩∧
 EsW wP Zdy g (vI wI s) (vP (some ⟨e,0,none⟩)) w fun J x=>
 y (vP (some ⟨e,0,none⟩)) x
theorem Zcfe (i:Nat) (f g h:Int) (d e:Nat) {a:Heap} {c:Value->Heap->Prop} (k:Zblp i f g h d e a fun l j=>∀b,Shut a j b->c l b):FnW wP Zov ⟨[(vP (some ⟨i,0,none⟩)),(vA ⟨[(vI vU f),(vI wI g),(vI wI h)]⟩),(vP (some ⟨d,e,none⟩))]⟩ a c:=Zc Tryz.func32 ⟨[],[],[],[]⟩ (by kernel_rfl) (by kernel_rfl) k
def Zbpm (a2:Nat) (j:Int) (a0:Option Addr) (f a9:Nat) (g:Option Addr) (i h:Nat) (e:Int) (c:Heap) (a1:((Option Addr×Nat×Nat)×Int×Unit)->Heap->Prop) (Z:Value->Heap->Prop):Prop:=
 IfB (decide (e<(f:Int)))
 (NilP a0 fun a4=>
 InB e f fun a3=>
 elemAt a4 a3 9 fun b=>
 ∃k,c.cell b=some (vI wI k)∧∃l,c.cell ⟨b.block,b.off+1,none⟩=some (vI wI l)∧∃m,c.cell ⟨b.block,b.off+2,none⟩=some (vI vU m)∧∃n,c.cell ⟨b.block,b.off+3,none⟩=some (vI vU n)∧∃o,c.cell ⟨b.block,b.off+4,none⟩=some (vI wI o)∧∃p,c.cell ⟨b.block,b.off+5,none⟩=some (vI wI p)∧∃q,c.cell ⟨b.block,b.off+6,none⟩=some (vI wI q)∧∃r,c.cell ⟨b.block,b.off+7,none⟩=some (vI wI r)∧∃s u t,c.cell ⟨b.block,b.off+8,none⟩=some (vS s u t)∧NewW c (Obj.cells ⟨[(vI wI 0),(vI wI 0),(vI vU 0),(vI vU 0),(vI wI 0),(vI wI 0),(vI wI 0),(vI wI 0),(vS none 0 0)]⟩ Zm) fun a R=>
 Za R ⟨a,0,none⟩ (vI wI k) fun S=>
 Za S ⟨a,1,none⟩ (vI wI l) fun T=>
 Za T ⟨a,2,none⟩ (vI vU m) fun U=>
 Za U ⟨a,3,none⟩ (vI vU n) fun V=>
 Za V ⟨a,4,none⟩ (vI wI o) fun W=>
 Za W ⟨a,5,none⟩ (vI wI p) fun X=>
 Za X ⟨a,6,none⟩ (vI wI q) fun Y=>
 Za Y ⟨a,7,none⟩ (vI wI r) fun N=>
 Za N ⟨a,8,none⟩ (vS s u t) fun d=>
 ∃v,d.cell ⟨a2,0,none⟩=some (vI vU v)∧
 ∃w,d.cell ⟨a,0,none⟩=some (vI wI w)∧∃x,d.cell ⟨a,1,none⟩=some (vI wI x)∧∃y,d.cell ⟨a,2,none⟩=some (vI vU y)∧∃z,d.cell ⟨a,3,none⟩=some (vI vU z)∧∃A,d.cell ⟨a,4,none⟩=some (vI wI A)∧∃B,d.cell ⟨a,5,none⟩=some (vI wI B)∧∃C,d.cell ⟨a,6,none⟩=some (vI wI C)∧∃D,d.cell ⟨a,7,none⟩=some (vI wI D)∧∃E G F,d.cell ⟨a,8,none⟩=some (vS E G F)∧FnW wP Zmi ⟨[(vI vU v),(vI vU j),(vA ⟨[(vI wI w),(vI wI x),(vI vU y),(vI vU z),(vI wI A),(vI wI B),(vI wI C),(vI wI D),(vS E G F)]⟩)]⟩ d fun a6 O=>
 ∃H J I,∃a5:Int,a6=(vT ⟨[(vS H J I),(vI wI a5)]⟩)∧
 NewW O (Obj.cells ⟨[(vI vU j),(vS H J I)]⟩ Zen) fun a7 P=>
 AppW wP #[Zjd,Zjd] Zjd [(vS g i h),(vS (some ⟨a7,0,none⟩) 1 1)] P fun a8 Q=>
 ∃K M L,a8=vS K M L∧
 a1 ((K,M,L),((vW wI (e+1)),())) Q)
 (Z (vS g i h) c)
def Zbpn (h:Nat) (i:Int) (d:Option Addr) (f e:Nat) (b:Heap) (c:Value->Heap->Prop):Prop:=
 Zbe ((Option Addr×Nat×Nat)×Int×Unit) ((none,0,0),(0,())) b fun a b g=>∀j:Env,Zbpm h i d f e a.1.1 a.1.2.1 a.1.2.2 a.2.1 b g c
theorem Zcjf (g:Nat) (h:Int) (d:Option Addr) (f e:Nat) {a:Heap} {c:Value->Heap->Prop} (j:Zbpn g h d f e a fun k i=>∀b,Shut a i b->c k b):FnW wP Zha ⟨[(vP (some ⟨g,0,none⟩)),(vI vU h),(vS d f e)]⟩ a c:=Zc Tryz.func33 ⟨[],[(3,[7,14],[.slice,.int wI],[0,1,12,13])],[],[]⟩ (by kernel_rfl) (by kernel_rfl) j
def Zblq (f:Nat) (n:Heap) (q:Value->Heap->Prop):Prop:=
 NewW n (Obj.cells ⟨[(vI wI 0),(vI wI 0)]⟩ Zff) fun c a=>
 ∃e:List Nat,(∀b∈e,∃r,a b=some r)∧
 ∃l,a.cell ⟨f,4,none⟩=some (vP l)∧
 f∈e∧∃j,a.cell ⟨f,4,none⟩=some (vP j)∧
 FnW wP Zox ⟨[(vP l)]⟩ a fun t g=>
 ∃m,t=vI wI m∧
 Zb e a g∧FnW wP Zwu ⟨[(vP j)]⟩ g fun s o=>
 ∃k,s=vI wI k∧
 Za o ⟨c,0,none⟩ (vI wI m) fun p=>
 Za p ⟨c,1,none⟩ (vI wI k) fun d=>
 ∃h,d.cell ⟨c,0,none⟩=some (vI wI h)∧∃i,d.cell ⟨c,1,none⟩=some (vI wI i)∧q (vA ⟨[(vI wI h),(vI wI i)]⟩) d
theorem Zcff (d:Nat) {a:Heap} {c:Value->Heap->Prop} (f:Zblq d a fun g e=>∀b,Shut a e b->c g b):FnW wP Zow ⟨[(vP (some ⟨d,0,none⟩))]⟩ a c:=Zc Tryz.func45 ⟨[(1,[0,1,2,3,5,6,7,8,4,9,10,11],[11])],[],[],[]⟩ (by kernel_rfl) (by kernel_rfl) f
def Zbqm (l m:Nat) (c:Option Addr) (e d:Nat) (n:Int) (a:Heap) (b:Value->Heap->Prop):Prop:=
 IfB (decide (n <= 5))
 (∃f,a.cell ⟨l,m+3,none⟩=some (vI wI f)∧
 NewW a (Obj.cells ⟨[(vI wI 3),(vI wI f)]⟩ Zbi) fun o j=>
 AppW wP #[Zcc,Zcc] Zcc [(vS c e d),(vS (some ⟨o,0,none⟩) 1 1)] j fun p k=>
 ∃g i h,p=vS g i h∧
 b (vS g i h) k)
 (b (vS c e d) a)
def Zbcn (j b c:Nat) (g:Option Addr) (i h:Nat) (w:Int) (a:Heap) (f:Value->Heap->Prop):Prop:=
 IfB (w==0)
 (∃k:Value,a.cell ⟨j,3,none⟩=some k∧
 ∃l,a.cell ⟨b,c,none⟩=some (vI vU l)∧∃m,a.cell ⟨b,c+1,none⟩=some (vI wI m)∧∃n,a.cell ⟨b,c+2,none⟩=some (vI wI n)∧SemW wP (Builtin.delete_ #[Zfd,Zeo] T_ ⟨[k,(vA ⟨[(vI vU l),(vI wI m),(vI wI n)]⟩)]⟩) a fun z d=>
 ∃o:Value,d.cell ⟨j,4,none⟩=some o∧
 ∃p,d.cell ⟨b,c+3,none⟩=some (vI wI p)∧
 SemW wP (Builtin.delete_ #[Zdy,Zl] T_ ⟨[o,(vI wI p)]⟩) d fun A e=>
 ∃q,e.cell ⟨b,c+3,none⟩=some (vI wI q)∧
 NewW e (Obj.cells ⟨[(vI wI 4),(vI wI q)]⟩ Zbi) fun x u=>
 AppW wP #[Zcc,Zcc] Zcc [(vS g i h),(vS (some ⟨x,0,none⟩) 1 1)] u fun y v=>
 ∃r t s,y=vS r t s∧
 f (vS r t s) v)
 (f (vS g i h) a)
def Znp (i f g j:Nat) (c:Option Addr) (e d:Nat) (k:Int) (l:Bool) (a:Heap) (b:Value->Heap->Prop):Prop:=
 IfB l
 (∃h,a.cell ⟨j,0,none⟩=some (vI wI h)∧
 Zbqm f g c e d h a b)
 (Zbcn i f g c e d k a b)
def Zui (i g h j k:Nat) (d:Option Addr) (f e:Nat) (b:Heap) (c:Value->Heap->Prop):Prop:=
 ∃a,b.cell ⟨k,0,none⟩=some (vI wI a)∧
 IfB (a==6)
 (Znp i g h j d f e a (a==6) b c)
 (IfB (a==7)
 (Znp i g h j d f e a (a==7) b c)
 (Znp i g h j d f e a (a==9) b c))
def Zuh (j c d e b:Nat) (g:Option Addr) (i h:Nat) (a:Heap) (f:Value->Heap->Prop):Prop:=
 ∃k,a.cell ⟨b,1,none⟩=some (vI wI k)∧
 ∃l,a.cell ⟨e,1,none⟩=some (vI wI l)∧
 IfB (decide (k>l))
 (∃m,a.cell ⟨c,d+3,none⟩=some (vI wI m)∧
 NewW a (Obj.cells ⟨[(vI wI 2),(vI wI m)]⟩ Zbi) fun s q=>
 AppW wP #[Zcc,Zcc] Zcc [(vS g i h),(vS (some ⟨s,0,none⟩) 1 1)] q fun t r=>
 ∃n p o,t=vS n p o∧
 Zui j c d e b n p o r f)
 (Zui j c d e b g i h a f)
def Zug (f b c g e:Nat) (n:Bool) (a:Heap) (d:Value->Heap->Prop):Prop:=
 IfB n
 (∃h,a.cell ⟨b,c+3,none⟩=some (vI wI h)∧
 NewW a (Obj.cells ⟨[(vI wI 1),(vI wI h)]⟩ Zbi) fun o l=>
 AppW wP #[Zcc,Zcc] Zcc [(vS none 0 0),(vS (some ⟨o,0,none⟩) 1 1)] l fun p m=>
 ∃i k j,p=vS i k j∧
 Zuh f b c g e i k j m d)
 (Zuh f b c g e none 0 0 a d)
def Zbqn (g c d:Nat) (q r:Int) (l:Heap) (f:Value->Heap->Prop):Prop:=
 NewW l (Obj.cells ⟨[(vI wI q),(vI wI r)]⟩ Zff) fun e m=>
 FnW wP Zow ⟨[(vP (some ⟨c,d,none⟩))]⟩ m fun s n=>
 ∃h,∃i:Int,s=(vA ⟨[(vI wI h),(vI wI i)]⟩)∧
 NewW n (Obj.cells ⟨[(vI wI 0),(vI wI 0)]⟩ Zff) fun a o=>
 Za o ⟨a,0,none⟩ (vI wI h) fun p=>
 Za p ⟨a,1,none⟩ (vI wI i) fun b=>
 ∃j,b.cell ⟨e,0,none⟩=some (vI wI j)∧
 IfB (decide (j<3))
 (∃k,b.cell ⟨a,0,none⟩=some (vI wI k)∧
 Zug g c d e a (decide (k≥3)) b f)
 (Zug g c d e a false b f)
theorem Zckb (f d e:Nat) (g h:Int) {a:Heap} {c:Value->Heap->Prop} (j:Zbqn f d e g h a fun k i=>∀b,Shut a i b->c k b):FnW wP Zyc ⟨[(vP (some ⟨f,0,none⟩)),(vP (some ⟨d,e,none⟩)),(vA ⟨[(vI wI g),(vI wI h)]⟩)]⟩ a c:=Zc Tryz.func47 ⟨[],[],[],[]⟩ (by kernel_rfl) (by kernel_rfl) j
def Zbmp (h:Nat) (f4 f5 f6 g2 g3 g4 g5 g6 g7 g8 g9:Int) (h0:Option Addr) (h2 h1:Nat) (d9:Heap) (j:Value->Heap->Prop):Prop:=
 NewW d9 (Obj.cells ⟨[(vI vU f4),(vI wI f5),(vI wI f6)]⟩ Zeo) fun l e0=>
 NewW e0 (Obj.cells ⟨[(vI wI g2),(vI wI g3),(vI vU g4),(vI vU g5),(vI wI g6),(vI wI g7),(vI wI g8),(vI wI g9),(vS h0 h2 h1)]⟩ Zm) fun a g=>
 ∃o,g.cell ⟨a,0,none⟩=some (vI wI o)∧∃p,g.cell ⟨a,1,none⟩=some (vI wI p)∧∃q,g.cell ⟨a,2,none⟩=some (vI vU q)∧∃r,g.cell ⟨a,3,none⟩=some (vI vU r)∧∃s,g.cell ⟨a,4,none⟩=some (vI wI s)∧∃t,g.cell ⟨a,5,none⟩=some (vI wI t)∧∃u,g.cell ⟨a,6,none⟩=some (vI wI u)∧∃v,g.cell ⟨a,7,none⟩=some (vI wI v)∧∃w y x,g.cell ⟨a,8,none⟩=some (vS w y x)∧FnW wP Zww ⟨[(vP (some ⟨h,0,none⟩)),(vA ⟨[(vI wI o),(vI wI p),(vI vU q),(vI vU r),(vI wI s),(vI wI t),(vI wI u),(vI wI v),(vS w y x)]⟩)]⟩ g fun f8 f=>
 ∃z,f8=vB z∧
 IfB (!z)
 (∃A,f.cell ⟨a,0,none⟩=some (vI wI A)∧∃B,f.cell ⟨a,1,none⟩=some (vI wI B)∧∃C,f.cell ⟨a,2,none⟩=some (vI vU C)∧∃D,f.cell ⟨a,3,none⟩=some (vI vU D)∧∃E,f.cell ⟨a,4,none⟩=some (vI wI E)∧∃F,f.cell ⟨a,5,none⟩=some (vI wI F)∧∃G,f.cell ⟨a,6,none⟩=some (vI wI G)∧∃H,f.cell ⟨a,7,none⟩=some (vI wI H)∧∃I K J,f.cell ⟨a,8,none⟩=some (vS I K J)∧FnW wP Zpx ⟨[(vA ⟨[(vI wI A),(vI wI B),(vI vU C),(vI vU D),(vI wI E),(vI wI F),(vI wI G),(vI wI H),(vS I K J)]⟩)]⟩ f fun f9 e8=>
 ∃L,∃M:Int,∃N:Int,∃O:Int,∃P:Int,∃Q:Int,∃R:Int,∃S:Int,∃(T:Option Addr) (V U:Nat),∃W:Bool,f9=(vT ⟨[(vA ⟨[(vI wI L),(vI wI M),(vI vU N),(vI vU O),(vI wI P),(vI wI Q),(vI wI R),(vI wI S),(vS T V U)]⟩),(vB W)]⟩)∧
 NewW e8 (Obj.cells ⟨[(vI wI 0),(vI wI 0),(vI vU 0),(vI vU 0),(vI wI 0),(vI wI 0),(vI wI 0),(vI wI 0),(vS none 0 0)]⟩ Zm) fun c e9=>
 Za e9 ⟨c,0,none⟩ (vI wI L) fun f0=>
 Za f0 ⟨c,1,none⟩ (vI wI M) fun f1=>
 Za f1 ⟨c,2,none⟩ (vI vU N) fun f2=>
 Za f2 ⟨c,3,none⟩ (vI vU O) fun f3=>
 Za f3 ⟨c,4,none⟩ (vI wI P) fun e1=>
 Za e1 ⟨c,5,none⟩ (vI wI Q) fun e2=>
 Za e2 ⟨c,6,none⟩ (vI wI R) fun e3=>
 Za e3 ⟨c,7,none⟩ (vI wI S) fun e4=>
 Za e4 ⟨c,8,none⟩ (vS T V U) fun e=>
 IfB (!W)
 (j (vS none 0 0) e)
 (∃X,e.cell ⟨l,0,none⟩=some (vI vU X)∧
 ∃Y,e.cell ⟨c,0,none⟩=some (vI wI Y)∧∃Z,e.cell ⟨c,1,none⟩=some (vI wI Z)∧∃a0,e.cell ⟨c,2,none⟩=some (vI vU a0)∧∃a1,e.cell ⟨c,3,none⟩=some (vI vU a1)∧∃a2,e.cell ⟨c,4,none⟩=some (vI wI a2)∧∃a3,e.cell ⟨c,5,none⟩=some (vI wI a3)∧∃a4,e.cell ⟨c,6,none⟩=some (vI wI a4)∧∃a5,e.cell ⟨c,7,none⟩=some (vI wI a5)∧∃a6 a8 a7,e.cell ⟨c,8,none⟩=some (vS a6 a8 a7)∧NewW e (Obj.cells ⟨[(vI wI Y),(vI wI Z),(vI vU a0),(vI vU a1),(vI wI a2),(vI wI a3),(vI wI a4),(vI wI a5),(vS a6 a8 a7)]⟩ Zm) fun g0 e5=>
 FnW wP Zha ⟨[(vP (some ⟨h,0,none⟩)),(vI vU X),(vS (some ⟨g0,0,none⟩) 1 1)]⟩ e5 fun g1 e6=>
 ∃a9 b1 b0,g1=vS a9 b1 b0∧
 j (vS a9 b1 b0) e6))
 (∃b2:Value,f.cell ⟨h,4,none⟩=some b2∧
 SemW wP (Builtin.len_ #[Zdy] Zl ⟨[b2]⟩) f fun h3 d=>
 ∃b3,h3=vI wI b3∧
 IfB (decide (b3≥16))
 (j (vS none 0 0) d)
 (∃k:List Nat,(∀b∈k,∃f7,d b=some f7)∧
 h∈k∧∃b4,d.cell ⟨h,6,none⟩=some (vI wI b4)∧
 a∈k∧∃b5,d.cell ⟨a,0,none⟩=some (vI wI b5)∧∃b6,d.cell ⟨a,1,none⟩=some (vI wI b6)∧∃b7,d.cell ⟨a,2,none⟩=some (vI vU b7)∧∃b8,d.cell ⟨a,3,none⟩=some (vI vU b8)∧∃b9,d.cell ⟨a,4,none⟩=some (vI wI b9)∧∃c0,d.cell ⟨a,5,none⟩=some (vI wI c0)∧∃c1,d.cell ⟨a,6,none⟩=some (vI wI c1)∧∃c2,d.cell ⟨a,7,none⟩=some (vI wI c2)∧∃c3 c5 c4,d.cell ⟨a,8,none⟩=some (vS c3 c5 c4)∧FnW wP Zou ⟨[(vP (some ⟨h,0,none⟩))]⟩ d fun h4 m=>
 ∃c6,h4=vI vU c6∧
 Zb k d m∧FnW wP Zxt ⟨[(vI wI b4),(vA ⟨[(vI wI b5),(vI wI b6),(vI vU b7),(vI vU b8),(vI wI b9),(vI wI c0),(vI wI c1),(vI wI c2),(vS c3 c5 c4)]⟩),(vI vU c6)]⟩ m fun h5 i=>
 ∃c7,∃(c8:Option Addr) (d0 c9:Nat),∃d1:Int,h5=(vT ⟨[(vP c7),(vS c8 d0 c9),(vI wI d1)]⟩)∧
 Zb k d i∧IfB (d1 !=0)
 (j (vS none 0 0) i)
 (∃d2,i.cell ⟨l,0,none⟩=some (vI vU d2)∧∃d3,i.cell ⟨l,1,none⟩=some (vI wI d3)∧∃d4,i.cell ⟨l,2,none⟩=some (vI wI d4)∧FnW wP Zov ⟨[(vP (some ⟨h,0,none⟩)),(vA ⟨[(vI vU d2),(vI wI d3),(vI wI d4)]⟩),(vP c7)]⟩ i fun h7 n=>
 ∃h6,h7=vP h6∧
 ∃d5,n.cell ⟨l,0,none⟩=some (vI vU d5)∧
 FnW wP Zha ⟨[(vP (some ⟨h,0,none⟩)),(vI vU d5),(vS c8 d0 c9)]⟩ n fun h8 e7=>
 ∃d6 d8 d7,h8=vS d6 d8 d7∧
 j (vS d6 d8 d7) e7)))
theorem Zcgq (g:Nat) (d e f h i j k l m n o:Int) (p:Option Addr) (r q:Nat) {a:Heap} {c:Value->Heap->Prop} (t:Zbmp g d e f h i j k l m n o p r q a fun u s=>∀b,Shut a s b->c u b):FnW wP Zwt ⟨[(vP (some ⟨g,0,none⟩)),(vA ⟨[(vI vU d),(vI wI e),(vI wI f)]⟩),(vA ⟨[(vI wI h),(vI wI i),(vI vU j),(vI vU k),(vI wI l),(vI wI m),(vI wI n),(vI wI o),(vS p r q)]⟩)]⟩ a c:=Zc Tryz.func48 ⟨[(8,[0,1,2,3,4,5,6,7,8,9,10,11,12,13,14],[39,40])],[],[],[]⟩ (by kernel_rfl) (by kernel_rfl) t
def Zbke (e:Nat) (a:Heap) (d:Value->Heap->Prop):Prop:=
 ∃b:Value,a.cell ⟨e,3,none⟩=some b∧
 BinW wP true .neq Zfd b (Value.map none) a fun f c=>
 d f c
theorem Zcdw (d:Nat) {a:Heap} {c:Value->Heap->Prop} (f:Zbke d a fun g e=>∀b,Shut a e b->c g b):FnW wP Zjj ⟨[(vP (some ⟨d,0,none⟩))]⟩ a c:=Zc Tryz.func59 ⟨[],[],[],[]⟩ (by kernel_rfl) (by kernel_rfl) f
def Zbls (e:Option Addr) (g f:Nat) (h:Int) (b:Heap) (d:Value->Heap->Prop):Prop:=
 FnW wP Zber ⟨[(vS e g f),(vI wI h)]⟩ b fun i c=>
 ∃a,i=vI wI a∧
 d (vB (decide (a≥0))) c
theorem Zcfl (d:Option Addr) (f e:Nat) (g:Int) {a:Heap} {c:Value->Heap->Prop} (i:Zbls d f e g a fun j h=>∀b,Shut a h b->c j b):FnW wP Zoy ⟨[(vS d f e),(vI wI g)]⟩ a c:=Zc Tryz.func65 ⟨[],[],[],[]⟩ (by kernel_rfl) (by kernel_rfl) i
def Zsq (b:Option Addr) (c e:Nat) (i:((Option Addr×Nat×Nat)×Int×Unit)->Heap->Prop) (h:Int) (d:Heap) (m:Value->Heap->Prop):Prop:=
 NilP b fun l=>
 InB 1 c fun j=>
 elemAt l j 1 fun k=>
 ∃f,d.cell k=some (vI wU f)∧
 InC f c fun a=>
 i (((if e=a then b else vM (fun g=>Addr.add g (a*1)) b),c - a,e - a),(h,())) d
def Znf (b:Option Addr) (c e:Nat) (m:Int) (g:((Option Addr×Nat×Nat)×Int×Unit)->Heap->Prop) (n:Bool) (a:Heap) (d:Value->Heap->Prop):Prop:=
 IfB n
 (d (vT ⟨[(vI wI 0),(vB false)]⟩) a)
 (NilP b fun q=>
 InB 0 c fun o=>
 elemAt q o 1 fun p=>
 ∃h,a.cell p=some (vI wU h)∧
 IfB (h==2)
 (NilP b fun t=>
 InB 1 c fun r=>
 elemAt t r 1 fun s=>
 ∃i,a.cell s=some (vI wU i)∧
 IfB (i !=4)
 (d (vT ⟨[(vI wI 0),(vB false)]⟩) a)
 (InC 2 c fun f=>
 FnW wP Zbu ⟨[(vS (if e=f then b else vM (fun l=>Addr.add l (f*1)) b) (c - f) (e - f))]⟩ a fun u k=>
 ∃j,u=vI wI j∧
 Zsq b c e g j k d))
 (Zsq b c e g m a d))
def Zsp (c:Option Addr) (a e:Nat) (d:Int) (g:((Option Addr×Nat×Nat)×Int×Unit)->Heap->Prop) (m:Bool) (b:Heap) (f:Value->Heap->Prop):Prop:=
 IfB m
 (f (vT ⟨[(vI wI d),(vB true)]⟩) b)
 (NilP c fun p=>
 InB 0 a fun n=>
 elemAt p n 1 fun o=>
 ∃i,b.cell o=some (vI wU i)∧
 IfB (i==1)
 (InC 1 a fun h=>
 g (((if e=h then c else vM (fun l=>Addr.add l (h*1)) c),a - h,e - h),(d,())) b)
 (IfB (decide (((a:Int):Int)<2))
 (Znf c a e d g true b f)
 (NilP c fun s=>
 InB 1 a fun q=>
 elemAt s q 1 fun r=>
 ∃j,b.cell r=some (vI wU j)∧
 IfB (decide (j<2))
 (Znf c a e d g true b f)
 (NilP c fun v=>
 InB 1 a fun t=>
 elemAt v t 1 fun u=>
 ∃k,b.cell u=some (vI wU k)∧
 Znf c a e d g (decide (((vW wI k):Int)>(a:Int))) b f))))
def Zbnp (c:Option Addr) (a g:Nat) (e:Int) (b:Heap) (f:((Option Addr×Nat×Nat)×Int×Unit)->Heap->Prop) (d:Value->Heap->Prop):Prop:=
 IfB (((a:Int):Int)==0)
 (Zsp c a g e f true b d)
 (NilP c fun k=>
 InB 0 a fun i=>
 elemAt k i 1 fun j=>
 ∃h,b.cell j=some (vI wU h)∧
 Zsp c a g e f (h==0) b d)
def Zbnq (e:Option Addr) (g f:Nat) (b:Heap) (c:Value->Heap->Prop):Prop:=
 Zbe ((Option Addr×Nat×Nat)×Int×Unit) ((e,g,f),(0,())) b fun a b d=>∀h:Env,Zbnp a.1.1 a.1.2.1 a.1.2.2 a.2.1 b d c
theorem Zchv (d:Option Addr) (f e:Nat) {a:Heap} {c:Value->Heap->Prop} (h:Zbnq d f e a fun i g=>∀b,Shut a g b->c i b):FnW wP Zxm ⟨[(vS d f e)]⟩ a c:=Zc Tryz.func67 ⟨[],[(2000000,[0,4],[.slice,.int wI],[])],[],[]⟩ (by kernel_rfl) (by kernel_rfl) h
def Zbmy (b:Option Addr) (c m:Nat) (a:Heap) (f:Value->Heap->Prop):Prop:=
 NilP b fun i=>
 InB 0 c fun g=>
 elemAt i g 1 fun h=>
 ∃e,a.cell h=some (vI wU e)∧
 (0:Int) <= 8∧
 NilP b fun l=>
 InB 1 c fun j=>
 elemAt l j 1 fun k=>
 ∃d,a.cell k=some (vI wU d)∧
 f (vI wI (Zea wI (vW wI ((vW wI e)*2^(min (8:Int).toNat (wB wI)))) (vW wI d))) a
theorem Zcgz (d:Option Addr) (f e:Nat) {a:Heap} {c:Value->Heap->Prop} (h:Zbmy d f e a fun i g=>∀b,Shut a g b->c i b):FnW wP Zbu ⟨[(vS d f e)]⟩ a c:=Zc Tryz.func68 ⟨[],[],[],[]⟩ (by kernel_rfl) (by kernel_rfl) h
def Zboy (b:Option Addr) (d c:Nat) (g:Heap) (j:Value->Heap->Prop):Prop:=
 InC 2 d fun a=>
 FnW wP Zbu ⟨[(vS b d c)]⟩ g fun l h=>
 ∃e,l=vI wI e∧
 (0:Int) <= 16∧
 FnW wP Zbu ⟨[(vS (if c=a then b else vM (fun k=>Addr.add k (a*1)) b) (d - a) (c - a))]⟩ h fun m i=>
 ∃f,m=vI wI f∧
 j (vI vU (Zea vU (vW vU ((vW vU e)*2^(min (16:Int).toNat (wB vU)))) (vW vU f))) i
theorem Zciv (d:Option Addr) (f e:Nat) {a:Heap} {c:Value->Heap->Prop} (h:Zboy d f e a fun i g=>∀b,Shut a g b->c i b):FnW wP Zeb ⟨[(vS d f e)]⟩ a c:=Zc Tryz.func69 ⟨[(1,[0,4,5,1,2,3,6,7,8,9],[])],[],[],[]⟩ (by kernel_rfl) (by kernel_rfl) h
def Zbms (B:Nat) (E F G H I J K L:Int) (M:Option Addr) (O N:Nat) (A:Heap) (c:Value->Heap->Prop):Prop:=
 NewW A (Obj.cells ⟨[(vI wI E),(vI wI F),(vI vU G),(vI vU H),(vI wI I),(vI wI J),(vI wI K),(vI wI L),(vS M O N)]⟩ Zm) fun a d=>
 ∃x z y,d.cell ⟨B,2,none⟩=some (vS x z y)∧
 ∃g,d.cell ⟨a,1,none⟩=some (vI wI g)∧
 FnW wP Zoy ⟨[(vS x z y),(vI wI g)]⟩ d fun C b=>
 ∃h,C=vB h∧
 IfB h
 (∃i,b.cell ⟨a,0,none⟩=some (vI wI i)∧∃j,b.cell ⟨a,1,none⟩=some (vI wI j)∧∃k,b.cell ⟨a,2,none⟩=some (vI vU k)∧∃l,b.cell ⟨a,3,none⟩=some (vI vU l)∧∃m,b.cell ⟨a,4,none⟩=some (vI wI m)∧∃n,b.cell ⟨a,5,none⟩=some (vI wI n)∧∃o,b.cell ⟨a,6,none⟩=some (vI wI o)∧∃p,b.cell ⟨a,7,none⟩=some (vI wI p)∧∃q s r,b.cell ⟨a,8,none⟩=some (vS q s r)∧FnW wP Zjt ⟨[(vA ⟨[(vI wI i),(vI wI j),(vI vU k),(vI vU l),(vI wI m),(vI wI n),(vI wI o),(vI wI p),(vS q s r)]⟩)]⟩ b fun D e=>
 ∃t,D=vI wI t∧
 IfB (t==1)
 (∃u,e.cell ⟨a,0,none⟩=some (vI wI u)∧
 FnW wP Zlo ⟨[(vI wI u)]⟩ e fun P f=>
 ∃v,P=vB v∧
 IfB v
 (∃w,f.cell ⟨a,4,none⟩=some (vI wI w)∧
 c (vB (((Zbc wI w 23):Int)==2)) f)
 (c (vB false) f))
 (c (vB false) e))
 (c (vB false) b)
theorem Zcgt (d:Nat) (e f g h i j k l:Int) (m:Option Addr) (o n:Nat) {a:Heap} {c:Value->Heap->Prop} (q:Zbms d e f g h i j k l m o n a fun r p=>∀b,Shut a p b->c r b):FnW wP Zww ⟨[(vP (some ⟨d,0,none⟩)),(vA ⟨[(vI wI e),(vI wI f),(vI vU g),(vI vU h),(vI wI i),(vI wI j),(vI wI k),(vI wI l),(vS m o n)]⟩)]⟩ a c:=Zc Tryz.func89 ⟨[],[],[],[]⟩ (by kernel_rfl) (by kernel_rfl) q
def Zbkz (g:Option Addr) (d l:Nat) (h b:Int) (a:Heap) (f:(Int×Unit)->Heap->Prop) (c:Value->Heap->Prop):Prop:=
 IfB (decide (b<(d:Int)))
 (NilP g fun k=>
 InB b d fun i=>
 elemAt k i 1 fun j=>
 ∃e,a.cell j=some (vI wI e)∧
 IfB (h==e)
 (c (vI wI b) a)
 (f ((vW wI (b+1)),()) a))
 (c (vI wI (-1)) a)
def Zbla (d:Option Addr) (f e:Nat) (g:Int) (a:Heap) (b:Value->Heap->Prop):Prop:=
 Zbe (Int×Unit) (0,()) a fun h a c=>∀i:Env,Zbkz d f e g h.1 a c b
theorem Zceo (d:Option Addr) (f e:Nat) (g:Int) {a:Heap} {c:Value->Heap->Prop} (i:Zbla d f e g a fun j h=>∀b,Shut a h b->c j b):FnW wP Zber ⟨[(vS d f e),(vI wI g)]⟩ a c:=Zc Tryz.func107 ⟨[],[(2,[8],[.int wI],[0,1,7])],[],[]⟩ (by kernel_rfl) (by kernel_rfl) i
end Go.Proofs.YtaljkjokbdpdoaaGreat
end
