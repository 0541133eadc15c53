/-
 EACH FUNCTION OVER PLAIN DATA:printed by a program of ours over this translation.
-/
import Derived.Test.YthhcfdpoiganhaaGreatBA
import Derived.Test.YthhcfdpoiganhaaGreatGA
set_option linter.all false
section
set_option maxRecDepth 100000
set_option maxHeartbeats 4000000
namespace Go.Proofs.YthhcfdpoiganhaaGreat
open Go.Sh
abbrev Ty1:=Int×List (Bool×List UInt32)×UInt32×Bool×UInt32×Bool×UInt32×Bool×Bool×UInt32×UInt32×List UInt32×List (Int×List UInt8)
abbrev Zdi:PPlan:=⟨[],[],[],[],[],[]⟩
abbrev Zbkf:List Kd:=[Kd.lst [Kd.int .u8]]
abbrev Zbux:List Kd:=[Kd.lst [Kd.int .u32]]
def Zcgy:PLoop:=⟨[(8,PK.int .i64)],[0,1,7],[]⟩
def Zczf:PPlan:=⟨[],[(2,Zcgy)],[],[],[],[]⟩
theorem Zcvw:Known Tryz.prog Zbdg Tryz.f119 Zczf.plan (Zg Tryz.f119):=by refine ⟨Tryz.func119,?_,?_,?_,?_,?_⟩<;>kernel_rfl
abbrev Zbay:List Pk:=[Pk.lst [Kd.int .u32],Pk.int .u32]
abbrev Zbbb:List Pk:=[Pk.int .i64]
def Zbpr (s0:List UInt32) (v1:Int) (x8:Int) (next2:(Int×Unit)->Prop) (K:Int->Prop):Prop:=
 IfB (decide ((x8:Int)<(s0.length:Int)))
 ((0:Int) <= x8∧AtN s0 x8.toNat fun x14=>
 WfT Zio x14->
 IfB ((v1:Int)==(x14.toNat:Int))
 (K x8)
 (next2 ((IntKind.wrap .i64 (x8+1)),())))
 (K (-1))
def Zbdo (s0:List UInt32) (v1:Int) (K:Int->Prop):Prop:=
 Zl (Int×Unit) ((0:Int),()) fun y next=>
 WfY Zcgy.kinds y->
 Zbpr s0 v1 y.1 next K
noncomputable def Zcmj:Tab:=⟨[],[]⟩
abbrev Zbwv (x:PkTs Zbay) (K:PkTs Zbbb->Prop):Prop:=Zbdo x.1 x.2.1 (fun r0=>K (r0,()))
theorem Zdaf:FnQ Tryz.prog Zbdg Zbay Zbbb Zbwv:=(Zm Zcvw (tab:=Zcmj) ⟨trivial,trivial⟩ rfl).of_eq (by kernel_rfl)
noncomputable def Zcar:Ct:=ctRd Zbay Zbbb Zbwv
theorem Zcpp:Zk Tryz.prog Zbdg Zcar:=Zbk Zdaf
theorem Zcpd:Known Tryz.prog Zbcd Tryz.f113 Zdi.plan (Zg Tryz.f113):=by refine ⟨Tryz.func113,?_,?_,?_,?_,?_⟩<;>kernel_rfl
abbrev Zbgn:List Pk:=[Pk.lst [Kd.int .u32],Pk.int .u32]
abbrev Zbhf:List Pk:=[Pk.bool]
def Zbey (s0:List UInt32) (v1:Int) (K:Bool->Prop):Prop:=
 (WfPs Zbay (s0,v1,())->
 Zbdo s0 v1 (fun x7=>
 WfPs Zbbb (x7,())->
 K (decide ((x7:Int)≥0))))
noncomputable def Zcmx:Tab:=⟨[(Zbdg,Zcar)],[]⟩
abbrev Zcgu (x:PkTs Zbgn) (K:PkTs Zbhf->Prop):Prop:=Zbey x.1 x.2.1 (fun r0=>K (r0,()))
theorem Zcyh:FnQ Tryz.prog Zbcd Zbgn Zbhf Zcgu:=(Zm Zcpd (tab:=Zcmx) ⟨⟨Zcpp,trivial⟩,trivial⟩ rfl).of_eq (by kernel_rfl)
noncomputable def Zcco:Ct:=ctRd Zbgn Zbhf Zcgu
theorem Zcmr:Zk Tryz.prog Zbcd Zcco:=Zbk Zcyh
theorem Zdbf:Known Tryz.prog Zbdm Tryz.f94 Zdi.plan (Zg Tryz.f94):=by refine ⟨Tryz.func94,?_,?_,?_,?_,?_⟩<;>kernel_rfl
abbrev Zbco:List Pk:=[Pk.agg [Kd.bool,Kd.lst [Kd.int .u32]]]
abbrev Zwu:List Pk:=[Pk.bool]
def Zxh (s0:Bool×List UInt32) (K:Bool->Prop):Prop:=
 IfB (decide (((s0.2.length:Int):Int)>0))
 (IfB (decide (((s0.2.length:Int):Int) <= 255))
 ((WfPs Zbgn (s0.2,(0:Int),())->
 Zbey s0.2 (0:Int) (fun x16=>
 WfPs Zbhf (x16,())->
 K (!x16))))
 (K false))
 (K false)
noncomputable def Zcru:Tab:=⟨[(Zbcd,Zcco)],[]⟩
abbrev Zcen (x:PkTs Zbco) (K:PkTs Zwu->Prop):Prop:=Zxh x.1 (fun r0=>K (r0,()))
theorem Zcre:FnQ Tryz.prog Zbdm Zbco Zwu Zcen:=(Zm Zdbf (tab:=Zcru) ⟨⟨Zcmr,trivial⟩,trivial⟩ rfl).of_eq (by kernel_rfl)
noncomputable def Zcfz:Ct:=ctRd Zbco Zwu Zcen
theorem Zdkz:Zk Tryz.prog Zbdm Zcfz:=Zbk Zcre
def Zbvq:PLoop:=⟨[(3,PK.int .i64),(8,PK.int .i64)],[6,7],[]⟩
def Zdfx:PPlan:=⟨[],[(3,Zbvq)],[],[],[],[]⟩
theorem Zcxf:Known Tryz.prog Zbbq Tryz.f95 Zdfx.plan (Zg Tryz.f95):=by refine ⟨Tryz.func95,?_,?_,?_,?_,?_⟩<;>kernel_rfl
abbrev Zvv:List Pk:=[Pk.lst [Kd.bool,Kd.lst [Kd.int .u32]]]
abbrev Zyk:List Pk:=[Pk.int .i64]
def Zbnd (p0:List (Bool×List UInt32)) (n3:Int) (x8:Int) (next3:(Int×Int×Unit)->Prop) (K:Int->Prop):Prop:=
 IfB (decide ((x8:Int)<(p0.length:Int)))
 ((0:Int) <= x8∧AtN p0 x8.toNat fun x10=>
 WfT Zdf x10->
 next3 ((IntKind.wrap .i64 (n3+(x10.2.length:Int))),(IntKind.wrap .i64 (x8+1)),()))
 (K n3)
def Zbhd (p0:List (Bool×List UInt32)) (K:Int->Prop):Prop:=
 Zl (Int×Int×Unit) ((0:Int),(0:Int),()) fun y next=>
 WfY Zbvq.kinds y->
 Zbnd p0 y.1 y.2.1 next K
noncomputable def Zdfw:Tab:=⟨[],[]⟩
abbrev Zchn (x:PkTs Zvv) (K:PkTs Zyk->Prop):Prop:=Zbhd x.1 (fun r0=>K (r0,()))
theorem Zcou:FnQ Tryz.prog Zbbq Zvv Zyk Zchn:=(Zm Zcxf (tab:=Zdfw) ⟨trivial,trivial⟩ rfl).of_eq (by kernel_rfl)
noncomputable def Zbwf:Ct:=ctRd Zvv Zyk Zchn
theorem Zdkb:Zk Tryz.prog Zbbq Zbwf:=Zbk Zcou
def Zchk:PLoop:=⟨[(7,PK.int .i64)],[0,5,6],[]⟩
def Zcpo:PPlan:=⟨[],[(2,Zchk)],[],[],[],[]⟩
theorem Zcns:Known Tryz.prog Zle Tryz.f63 Zcpo.plan (Zg Tryz.f63):=by refine ⟨Tryz.func63,?_,?_,?_,?_,?_⟩<;>kernel_rfl
abbrev Zox:List Pk:=[Pk.lst [Kd.bool,Kd.lst [Kd.int .u32]]]
abbrev Znq:List Pk:=[Pk.int .i64]
def Zbqy (p0:List (Bool×List UInt32)) (x7:Int) (next2:(Int×Unit)->Prop) (K:Int->Prop):Prop:=
 IfB (decide ((x7:Int)<(p0.length:Int)))
 ((0:Int) <= x7∧AtN p0 x7.toNat fun x9=>
 WfT Zdf x9->
 (WfPs Zbco (x9,())->
 Zxh x9 (fun x12=>
 WfPs Zwu (x12,())->
 IfB (!x12)
 (K 2)
 (next2 ((IntKind.wrap .i64 (x7+1)),())))))
 ((WfPs Zvv (p0,())->
 Zbhd p0 (fun x16=>
 WfPs Zyk (x16,())->
 IfB (decide ((x16:Int)>64))
 (K 2)
 (K 0))))
def Zop (p0:List (Bool×List UInt32)) (K:Int->Prop):Prop:=
 Zl (Int×Unit) ((0:Int),()) fun y next=>
 WfY Zchk.kinds y->
 Zbqy p0 y.1 next K
noncomputable def Zcsy:Tab:=⟨[(Zbdm,Zcfz),(Zbbq,Zbwf)],[]⟩
abbrev Zcgo (x:PkTs Zox) (K:PkTs Znq->Prop):Prop:=Zop x.1 (fun r0=>K (r0,()))
theorem Zcfn:FnQ Tryz.prog Zle Zox Znq Zcgo:=(Zm Zcns (tab:=Zcsy) ⟨⟨Zdkz,Zdkb,trivial⟩,trivial⟩ rfl).of_eq (by kernel_rfl)
noncomputable def Zwd:Ct:=ctRd Zox Znq Zcgo
theorem Zbqq:Zk Tryz.prog Zle Zwd:=Zbk Zcfn
theorem Zcnt:Known Tryz.prog Zoe Tryz.f64 Zdi.plan (Zg Tryz.f64):=by refine ⟨Tryz.func64,?_,?_,?_,?_,?_⟩<;>kernel_rfl
abbrev Zbbn:List Pk:=[Pk.int .u32]
abbrev Zbhx:List Pk:=[Pk.bool]
def Zbbw (a0:Int) (K:Bool->Prop):Prop:=
 IfB ((a0:Int) !=0)
 (K (decide ((a0:Int)<3758096384)))
 (K false)
noncomputable def Zcoo:Tab:=⟨[],[]⟩
abbrev Zbsw (x:PkTs Zbbn) (K:PkTs Zbhx->Prop):Prop:=Zbbw x.1 (fun r0=>K (r0,()))
theorem Zcae:FnQ Tryz.prog Zoe Zbbn Zbhx Zbsw:=(Zm Zcnt (tab:=Zcoo) ⟨trivial,trivial⟩ rfl).of_eq (by kernel_rfl)
noncomputable def Zclk:Ct:=ctRd Zbbn Zbhx Zbsw
theorem Zdgv:Zk Tryz.prog Zoe Zclk:=Zbk Zcae
theorem Zdho:Known Tryz.prog Zmc Tryz.f75 Zdi.plan (Zg Tryz.f75):=by refine ⟨Tryz.func75,?_,?_,?_,?_,?_⟩<;>kernel_rfl
abbrev Zta:List Pk:=[Pk.int .i64]
abbrev Zuo:List Pk:=[Pk.int .u8,Pk.bool]
def Zpi (j0:Bool) (K:Int->Bool->Prop):Prop:=
 IfB j0
 (K 192 true)
 (K 0 false)
def Zbxg (kind0:Int) (K:Int->Bool->Prop):Prop:=
 IfB ((kind0:Int)==4)
 (K 128 true)
 (IfB ((kind0:Int)==7)
 (Zpi ((kind0:Int)==7) K)
 (IfB ((kind0:Int)==8)
 (Zpi ((kind0:Int)==8) K)
 (IfB ((kind0:Int)==17)
 (Zpi ((kind0:Int)==17) K)
 (Zpi ((kind0:Int)==18) K))))
def Znk (kind0:Int) (j1:Bool) (K:Int->Bool->Prop):Prop:=
 IfB j1
 (K 64 true)
 (Zbxg kind0 K)
def Ztx (kind0:Int) (K:Int->Bool->Prop):Prop:=
 IfB ((kind0:Int)==1)
 (Znk kind0 ((kind0:Int)==1) K)
 (IfB ((kind0:Int)==2)
 (Znk kind0 ((kind0:Int)==2) K)
 (IfB ((kind0:Int)==3)
 (Znk kind0 ((kind0:Int)==3) K)
 (IfB ((kind0:Int)==5)
 (Znk kind0 ((kind0:Int)==5) K)
 (Znk kind0 ((kind0:Int)==6) K))))
noncomputable def Zdgh:Tab:=⟨[],[]⟩
abbrev Zbvj (x:PkTs Zta) (K:PkTs Zuo->Prop):Prop:=Ztx x.1 (fun r0 r1=>K (r0,r1,()))
theorem Zbxn:FnQ Tryz.prog Zmc Zta Zuo Zbvj:=(Zm Zdho (tab:=Zdgh) ⟨trivial,trivial⟩ rfl).of_eq (by kernel_rfl)
noncomputable def Zbks:Ct:=ctRd Zta Zuo Zbvj
theorem Zcka:Zk Tryz.prog Zmc Zbks:=Zbk Zbxn
def Zcfo:PLoop:=⟨[(3,PK.int .i64),(10,PK.int .i64)],[0,8,9],[]⟩
def Zcuh:PPlan:=⟨[],[(3,Zcfo)],[],[],[],[]⟩
theorem Zdbc:Known Tryz.prog Zwc Tryz.f65 Zcuh.plan (Zg Tryz.f65):=by refine ⟨Tryz.func65,?_,?_,?_,?_,?_⟩<;>kernel_rfl
abbrev Zbcy:List Pk:=[Pk.lst [Kd.int .i64,Kd.lst [Kd.int .u8]]]
abbrev Zbak:List Pk:=[Pk.bool]
def Zuy (l0:List (Int×List UInt8)) (x12:Int×List UInt8) (x10:Int) (next3:(Int×Int×Unit)->Prop) (j6:Bool) (K:Bool->Prop):Prop:=
 IfB j6
 (K false)
 (next3 (x12.1,(IntKind.wrap .i64 (x10+1)),()))
def Zbnz (l0:List (Int×List UInt8)) (last3:Int) (x10:Int) (next3:(Int×Int×Unit)->Prop) (K:Bool->Prop):Prop:=
 IfB (decide ((x10:Int)<(l0.length:Int)))
 ((0:Int) <= x10∧AtN l0 x10.toNat fun x12=>
 WfT Zgm x12->
 (WfPs Zta (x12.1,())->
 Ztx x12.1 (fun x17r0 x17r1=>
 WfPs Zuo (x17r0,x17r1,())->
 IfB x17r1
 (Zuy l0 x12 x10 next3 true K)
 (IfB (decide ((x12.1:Int) <= last3))
 (Zuy l0 x12 x10 next3 true K)
 (IfB (decide ((x12.1:Int)>255))
 (Zuy l0 x12 x10 next3 true K)
 (Zuy l0 x12 x10 next3 (decide (((x12.2.length:Int):Int)>255)) K))))))
 (K (decide (((l0.length:Int):Int) <= 8)))
def Zbcv (l0:List (Int×List UInt8)) (K:Bool->Prop):Prop:=
 Zl (Int×Int×Unit) (((-1):Int),(0:Int),()) fun y next=>
 WfY Zcfo.kinds y->
 Zbnz l0 y.1 y.2.1 next K
noncomputable def Zcnl:Tab:=⟨[(Zmc,Zbks)],[]⟩
abbrev Zbtg (x:PkTs Zbcy) (K:PkTs Zbak->Prop):Prop:=Zbcv x.1 (fun r0=>K (r0,()))
theorem Zdmv:FnQ Tryz.prog Zwc Zbcy Zbak Zbtg:=(Zm Zdbc (tab:=Zcnl) ⟨⟨Zcka,trivial⟩,trivial⟩ rfl).of_eq (by kernel_rfl)
noncomputable def Zcch:Ct:=ctRd Zbcy Zbak Zbtg
theorem Zdjo:Zk Tryz.prog Zwc Zcch:=Zbk Zdmv
theorem Zdim:Known Tryz.prog Zpt Tryz.f34 Zdi.plan (Zg Tryz.f34):=by refine ⟨Tryz.func34,?_,?_,?_,?_,?_⟩<;>kernel_rfl
abbrev Zqy:List Pk:=[Pk.agg [Kd.int .i64,Kd.lst [Kd.bool,Kd.lst [Kd.int .u32]],Kd.int .u32,Kd.bool,Kd.int .u32,Kd.bool,Kd.int .u32,Kd.bool,Kd.bool,Kd.int .u32,Kd.int .u32,Kd.lst [Kd.int .u32],Kd.lst [Kd.int .i64,Kd.lst [Kd.int .u8]]]]
abbrev Zsb:List Pk:=[Pk.int .i64]
def Zbnu (j0:Bool) (K:Int->Prop):Prop:=
 IfB j0
 (K 2)
 (K 0)
def Zos (a0:Ty1) (j13_1:Bool) (K:Int->Prop):Prop:=
 IfB j13_1
 (K 2)
 (IfB (decide (((a0.2.2.2.2.2.2.2.2.2.2.2.1.length:Int):Int)>32))
 (Zbnu true K)
 ((WfPs Zbcy (a0.2.2.2.2.2.2.2.2.2.2.2.2,())->
 Zbcv a0.2.2.2.2.2.2.2.2.2.2.2.2 (fun x40=>
 WfPs Zbak (x40,())->
 Zbnu (!x40) K))))
def Zbdy (a0:Ty1) (j13:Bool) (K:Int->Prop):Prop:=
 IfB j13
 (K 2)
 ((WfPs Zbbn ((a0.2.2.1.toNat:Int),())->
 Zbbw (a0.2.2.1.toNat:Int) (fun x21=>
 WfPs Zbhx (x21,())->
 IfB (!x21)
 (Zos a0 true K)
 (IfB a0.2.2.2.2.2.2.2.2.1
 (Zos a0 (((a0.2.2.2.2.2.2.2.2.2.1.toNat:Int):Int)==0) K)
 (Zos a0 false K)))))
def Zue (a0:Ty1) (K:Int->Prop):Prop:=
 IfB (decide ((a0.1:Int)<0))
 (Zbdy a0 true K)
 (IfB (decide ((a0.1:Int)>2))
 (Zbdy a0 true K)
 ((WfPs Zox (a0.2.1,())->
 Zop a0.2.1 (fun x15=>
 WfPs Znq (x15,())->
 Zbdy a0 ((x15:Int) !=0) K))))
noncomputable def Zddi:Tab:=⟨[(Zle,Zwd),(Zoe,Zclk),(Zwc,Zcch)],[]⟩
abbrev Zcgk (x:PkTs Zqy) (K:PkTs Zsb->Prop):Prop:=Zue x.1 (fun r0=>K (r0,()))
theorem Zdol:FnQ Tryz.prog Zpt Zqy Zsb Zcgk:=(Zm Zdim (tab:=Zddi) ⟨⟨Zbqq,Zdgv,Zdjo,trivial⟩,trivial⟩ rfl).of_eq (by kernel_rfl)
noncomputable def Zbkd:Ct:=ctRd Zqy Zsb Zcgk
theorem Zbuu:Zk Tryz.prog Zpt Zbkd:=Zbk Zdol
theorem Zdlq:Known Tryz.prog Zbch Tryz.f74 Zdi.plan (Zg Tryz.f74):=by refine ⟨Tryz.func74,?_,?_,?_,?_,?_⟩<;>kernel_rfl
abbrev Zbgt:List Pk:=[Pk.agg [Kd.bool,Kd.lst [Kd.int .u32]]]
abbrev Zzv:List Pk:=[Pk.int .u8]
def Zbga (s0:Bool×List UInt32) (K:Int->Prop):Prop:=
 IfB s0.1
 (K 1)
 (K 2)
noncomputable def Zczr:Tab:=⟨[],[]⟩
abbrev Zccp (x:PkTs Zbgt) (K:PkTs Zzv->Prop):Prop:=Zbga x.1 (fun r0=>K (r0,()))
theorem Zcvx:FnQ Tryz.prog Zbch Zbgt Zzv Zccp:=(Zm Zdlq (tab:=Zczr) ⟨trivial,trivial⟩ rfl).of_eq (by kernel_rfl)
noncomputable def Zbuc:Ct:=ctRd Zbgt Zzv Zccp
theorem Zdjl:Zk Tryz.prog Zbch Zbuc:=Zbk Zcvx
def Zbyr:PLoop:=⟨[(7,PK.row Zcf [Kd.int .u8]),(19,PK.int .i64)],[1,17,18],[]⟩
def Zcby:PLoop:=⟨[(7,PK.row Zcf [Kd.int .u8]),(35,PK.int .i64)],[1,17,18,19,33,34],[]⟩
def Zcqg:PPlan:=⟨[(8,[0,1,3,4,5,6,2,7,8,9],[27])],[(6,Zbyr),(10,Zcby)],[],[],[],[]⟩
theorem Zcnj:Known Tryz.prog Zzo Tryz.f40 Zcqg.plan (Zg Tryz.f40):=by refine ⟨Tryz.func40,?_,?_,?_,?_,?_⟩<;>kernel_rfl
abbrev Ztq:List Pk:=[Pk.lst [Kd.bool,Kd.lst [Kd.int .u32]],Pk.bool]
abbrev Zsi:List Pk:=[Pk.own Zcf [Kd.int .u8],Pk.int .i64]
def Zxl (four1:Bool) (j1:List UInt8) (j2:Int) (p0:List (Bool×List UInt32)) (x19:Int) (x21:Bool×List UInt32) (x35:Int) (next6:(List UInt8×Int×Unit)->Prop) (next10:(List UInt8×Int×Unit)->Prop) (K:List UInt8->Int->Prop):Prop:=
 next10 ((j1++([(ofI .u8 (IntKind.wrap .u8 (Int.fdiv j2 256))),(ofI .u8 (IntKind.wrap .u8 j2))]:List UInt8)),(IntKind.wrap .i64 (x35+1)),())
def Zbin (four1:Bool) (p0:List (Bool×List UInt32)) (x19:Int) (x21:Bool×List UInt32) (x35:Int) (next6:(List UInt8×Int×Unit)->Prop) (next10:(List UInt8×Int×Unit)->Prop) (j1:List UInt8) (j2:Int) (K:List UInt8->Int->Prop):Prop:=
 (0:Int) <= 8∧
 j1.length+([(ofI .u8 (IntKind.wrap .u8 (Int.fdiv j2 256))),(ofI .u8 (IntKind.wrap .u8 j2))]:List UInt8).length <= 140737488355232∧
 Zxl four1 j1 j2 p0 x19 x21 x35 next6 next10 K
def Zbil (four1:Bool) (p0:List (Bool×List UInt32)) (x19:Int) (x21:Bool×List UInt32) (next6:(List UInt8×Int×Unit)->Prop) (b7_1:List UInt8) (x35:Int) (next10:(List UInt8×Int×Unit)->Prop) (K:List UInt8->Int->Prop):Prop:=
 IfB (decide ((x35:Int)<(x21.2.length:Int)))
 ((0:Int) <= x35∧AtN x21.2 x35.toNat fun x37=>
 WfT Zio x37->
 IfB four1
 ((0:Int) <= 24∧
 (0:Int) <= 16∧
 b7_1.length+([(ofI .u8 (IntKind.wrap .u8 (Int.fdiv (x37.toNat:Int) 16777216))),(ofI .u8 (IntKind.wrap .u8 (Int.fdiv (x37.toNat:Int) 65536)))]:List UInt8).length <= 140737488355232∧
 Zbin four1 p0 x19 x21 x35 next6 next10 (b7_1++([(ofI .u8 (IntKind.wrap .u8 (Int.fdiv (x37.toNat:Int) 16777216))),(ofI .u8 (IntKind.wrap .u8 (Int.fdiv (x37.toNat:Int) 65536)))]:List UInt8)) (x37.toNat:Int) K)
 (IfB (decide (((x37.toNat:Int):Int)>65535))
 (Zbin four1 p0 x19 x21 x35 next6 next10 b7_1 23456 K)
 (Zbin four1 p0 x19 x21 x35 next6 next10 b7_1 (x37.toNat:Int) K)))
 (next6 (b7_1,(IntKind.wrap .i64 (x19+1)),()))
def Zbmu (four1:Bool) (p0:List (Bool×List UInt32)) (b7:List UInt8) (x19:Int) (next6:(List UInt8×Int×Unit)->Prop) (K:List UInt8->Int->Prop):Prop:=
 IfB (decide ((x19:Int)<(p0.length:Int)))
 ((0:Int) <= x19∧AtN p0 x19.toNat fun x21=>
 WfT Zdf x21->
 (WfPs Zbgt (x21,())->
 Zbga x21 (fun x25=>
 WfPs Zzv (x25,())->
 b7.length+([(ofI .u8 x25),(ofI .u8 (IntKind.wrap .u8 (x21.2.length:Int)))]:List UInt8).length <= 140737488355232∧
 Zl (List UInt8×Int×Unit) ((b7++([(ofI .u8 x25),(ofI .u8 (IntKind.wrap .u8 (x21.2.length:Int)))]:List UInt8)),(0:Int),()) fun y next=>
 WfY Zcby.kinds y->
 Zbil four1 p0 x19 x21 next6 y.1 y.2.1 next K)))
 (K b7 0)
def Zup (p0:List (Bool×List UInt32)) (four1:Bool) (K:List UInt8->Int->Prop):Prop:=
 (WfPs Zox (p0,())->
 Zop p0 (fun x13=>
 WfPs Znq (x13,())->
 IfB ((x13:Int) !=0)
 (K ([]:List UInt8) x13)
 (Zl (List UInt8×Int×Unit) (([]:List UInt8),(0:Int),()) fun y next=>
 WfY Zbyr.kinds y->
 Zbmu four1 p0 y.1 y.2.1 next K)))
noncomputable def Zdjd:Tab:=⟨[(Zle,Zwd),(Zbch,Zbuc)],[]⟩
abbrev Zcip (x:PkTs Ztq) (K:PkTs Zsi->Prop):Prop:=Zup x.1 x.2.1 (fun r0 r1=>K (r0,r1,()))
theorem Zcnd:FnQ Tryz.prog Zzo Ztq Zsi Zcip:=(Zm Zcnj (tab:=Zdjd) ⟨⟨Zbqq,Zdjl,trivial⟩,trivial⟩ rfl).of_eq (by kernel_rfl)
noncomputable def Zcjc:Ct:=Zbq Ztq Zsi Zcip
theorem Zdbb:Zk Tryz.prog Zzo Zcjc:=Zbt Zcnd
def Zdcy:PPlan:=⟨[],[],[25],[],[],[]⟩
theorem Zctf:Known Tryz.prog Zbfh Tryz.f46 Zdcy.plan (Zg Tryz.f46):=by refine ⟨Tryz.func46,?_,?_,?_,?_,?_⟩<;>kernel_rfl
abbrev Zbeb:List Pk:=[Pk.nil,Pk.int .i64]
abbrev Zzn:List Pk:=[Pk.own Zcf [Kd.int .u8]]
def Zbhh (n1:Int) (K:List UInt8->Prop):Prop:=
 IfB (decide ((n1:Int)<0))
 (False)
 (IfB (decide (((IntKind.wrap .i64 (n1 - (IntKind.wrap .i64 (0 - 0)))):Int)>0))
 ((0:Int) <= 0∧0 <= (0:Int)∧
 (0:Int)<(IntKind.wrap .i64 (n1 - (IntKind.wrap .i64 (0 - 0))))∧(IntKind.wrap .i64 (n1 - (IntKind.wrap .i64 (0 - 0)))) <= 1000000000∧
 (0:Int) <= 0∧0 <= ((List.replicate (IntKind.wrap .i64 (n1 - (IntKind.wrap .i64 (0 - 0)))).toNat ((ofI .u8 0):UInt8)).length:Int)∧
 K ((List.replicate (IntKind.wrap .i64 (n1 - (IntKind.wrap .i64 (0 - 0)))).toNat ((ofI .u8 0):UInt8)).take 0))
 (K ([]:List UInt8)))
noncomputable def Zcoi:Tab:=⟨[],[]⟩
abbrev Zbxq (x:PkTs Zbeb) (K:PkTs Zzn->Prop):Prop:=Zbhh x.2.1 (fun r0=>K (r0,()))
theorem Zdlx:FnQ Tryz.prog Zbfh Zbeb Zzn Zbxq:=(Zm Zctf (tab:=Zcoi) ⟨trivial,trivial⟩ rfl).of_eq (by kernel_rfl)
noncomputable def Zcbt:Ct:=Zbq Zbeb Zzn Zbxq
theorem Zdhp:Zk Tryz.prog Zbfh Zcbt:=Zbt Zdlx
def Zciw:PLoop:=⟨[(3,PK.int .i64),(11,PK.int .i64)],[0,9,10],[]⟩
def Zbzr:PLoop:=⟨[(6,PK.row Zcf [Kd.int .u8]),(27,PK.int .i64)],[25,26],[]⟩
def Zcoh:PPlan:=⟨[],[(3,Zciw),(11,Zbzr)],[],[],[],[]⟩
theorem Zdpg:Known Tryz.prog Zju Tryz.f22 Zcoh.plan (Zg Tryz.f22):=by refine ⟨Tryz.func22,?_,?_,?_,?_,?_⟩<;>kernel_rfl
abbrev Zlc:List Pk:=[Pk.lst [Kd.lst [Kd.int .u8]]]
abbrev Zkk:List Pk:=[Pk.own Zcf [Kd.int .u8]]
def Zbly (slices0:List (List UInt8)) (newslice6:List UInt8) (x27:Int) (next11:(List UInt8×Int×Unit)->Prop) (K:List UInt8->Prop):Prop:=
 IfB (decide ((x27:Int)<(slices0.length:Int)))
 ((0:Int) <= x27∧AtN slices0 x27.toNat fun x29=>
 WfT Zbkf x29->
 newslice6.length+x29.length <= 140737488355232∧
 next11 ((newslice6++x29),(IntKind.wrap .i64 (x27+1)),()))
 (K newslice6)
def Zbie (slices0:List (List UInt8)) (size3:Int) (x11:Int) (next3:(Int×Int×Unit)->Prop) (K:List UInt8->Prop):Prop:=
 IfB (decide ((x11:Int)<(slices0.length:Int)))
 ((0:Int) <= x11∧AtN slices0 x11.toNat fun x13=>
 WfT Zbkf x13->
 IfB (decide (((IntKind.wrap .i64 (size3+(x13.length:Int))):Int)<0))
 (False)
 (next3 ((IntKind.wrap .i64 (size3+(x13.length:Int))),(IntKind.wrap .i64 (x11+1)),())))
 ((WfPs Zbeb ((),size3,())->
 Zbhh size3 (fun x24=>
 WfPs Zzn (x24,())->
 Zl (List UInt8×Int×Unit) (x24,(0:Int),()) fun y next=>
 WfY Zbzr.kinds y->
 Zbly slices0 y.1 y.2.1 next K)))
def Zka (slices0:List (List UInt8)) (K:List UInt8->Prop):Prop:=
 Zl (Int×Int×Unit) ((0:Int),(0:Int),()) fun y next=>
 WfY Zciw.kinds y->
 Zbie slices0 y.1 y.2.1 next K
noncomputable def Zcuz:Tab:=⟨[(Zbfh,Zcbt)],[]⟩
abbrev Zchf (x:PkTs Zlc) (K:PkTs Zkk->Prop):Prop:=Zka x.1 (fun r0=>K (r0,()))
theorem Zdgw:FnQ Tryz.prog Zju Zlc Zkk Zchf:=(Zm Zdpg (tab:=Zcuz) ⟨⟨Zdhp,trivial⟩,trivial⟩ rfl).of_eq (by kernel_rfl)
noncomputable def Zne:Ct:=Zbq Zlc Zkk Zchf
theorem Ztc:Zk Tryz.prog Zju Zne:=Zbt Zdgw
theorem Zdaw:Known Tryz.prog Zut Tryz.f45 Zdi.plan (Zg Tryz.f45):=by refine ⟨Tryz.func45,?_,?_,?_,?_,?_⟩<;>kernel_rfl
abbrev Zbfe:List Pk:=[Pk.int .u8,Pk.int .i64,Pk.lst [Kd.lst [Kd.int .u8]]]
abbrev Zxn:List Pk:=[]
abbrev Zog:List PK:=[PK.row Zcf [Kd.int .u8]]
def Zbzk (x11:List UInt8) (j0:List UInt8) (K:List UInt8->Prop):Prop:=
 j0.length+x11.length <= 140737488355232∧
 K (j0++x11)
def Zoa (c0:List UInt8) (flags1:Int) (kind2:Int) (parts3:List (List UInt8)) (K:List UInt8->Prop):Prop:=
 (WfPs Zlc (parts3,())->
 Zka parts3 (fun x11=>
 WfPs Zkk (x11,())->
 IfB (decide (((x11.length:Int):Int)>255))
 ((0:Int) <= 8∧
 c0.length+([(ofI .u8 (Zbz .u8 flags1 16)),(ofI .u8 (IntKind.wrap .u8 kind2)),(ofI .u8 (IntKind.wrap .u8 (Int.fdiv (x11.length:Int) 256))),(ofI .u8 (IntKind.wrap .u8 (x11.length:Int)))]:List UInt8).length <= 140737488355232∧
 Zbzk x11 (c0++([(ofI .u8 (Zbz .u8 flags1 16)),(ofI .u8 (IntKind.wrap .u8 kind2)),(ofI .u8 (IntKind.wrap .u8 (Int.fdiv (x11.length:Int) 256))),(ofI .u8 (IntKind.wrap .u8 (x11.length:Int)))]:List UInt8)) K)
 (c0.length+([(ofI .u8 flags1),(ofI .u8 (IntKind.wrap .u8 kind2)),(ofI .u8 (IntKind.wrap .u8 (x11.length:Int)))]:List UInt8).length <= 140737488355232∧
 Zbzk x11 (c0++([(ofI .u8 flags1),(ofI .u8 (IntKind.wrap .u8 kind2)),(ofI .u8 (IntKind.wrap .u8 (x11.length:Int)))]:List UInt8)) K)))
noncomputable def Zdez:Tab:=⟨[(Zju,Zne)],[]⟩
theorem Zcst:FnO Tryz.prog Zut Zpa Zog Zbfe Zxn (fun o x K=>Zoa o.1 x.1 x.2.1 x.2.2.1 (fun o0=>K (o0,()) (()))):=(Zbfg Zdaw (tab:=Zdez) ⟨⟨Ztc,trivial⟩,trivial⟩ rfl).of_eq (by kernel_rfl)
noncomputable def Zbqo:Ct:=Znl Zpa Zog Zbfe Zxn (fun o x K=>Zoa o.1 x.1 x.2.1 x.2.2.1 (fun o0=>K (o0,()) (())))
theorem Zcho:Zk Tryz.prog Zut Zbqo:=Zbed Zcst
theorem Zdja:Known Tryz.prog Zvf Tryz.f41 Zdi.plan (Zg Tryz.f41):=by refine ⟨Tryz.func41,?_,?_,?_,?_,?_⟩<;>kernel_rfl
abbrev Zhl:List Pk:=[Pk.int .i64,Pk.lst [Kd.lst [Kd.int .u8]]]
abbrev Zhx:List Pk:=[]
abbrev Zeb:List PK:=[PK.row Zcf [Kd.int .u8]]
def Zgb (c0:List UInt8) (kind1:Int) (parts2:List (List UInt8)) (K:List UInt8->Prop):Prop:=
 (WfPs Zta (kind1,())->
 Ztx kind1 (fun x10r0 x10r1=>
 WfPs Zuo (x10r0,x10r1,())->
 (WfY Zog (c0,())->
 WfPs Zbfe (x10r0,kind1,parts2,())->
 Zoa c0 x10r0 kind1 parts2 (fun ox170=>
 WfY Zog (ox170,())->
 WfPs Zxn ()->
 K ox170))))
noncomputable def Zcti:Tab:=⟨[(Zut,Zbqo),(Zmc,Zbks)],[]⟩
theorem Zdiw:FnO Tryz.prog Zvf Zpa Zeb Zhl Zhx (fun o x K=>Zgb o.1 x.1 x.2.1 (fun o0=>K (o0,()) (()))):=(Zbfg Zdja (tab:=Zcti) ⟨⟨Zcho,Zcka,trivial⟩,trivial⟩ rfl).of_eq (by kernel_rfl)
noncomputable def Zblq:Ct:=Znl Zpa Zeb Zhl Zhx (fun o x K=>Zgb o.1 x.1 x.2.1 (fun o0=>K (o0,()) (())))
theorem Zccm:Zk Tryz.prog Zvf Zblq:=Zbed Zdiw
theorem Zdky:Known Tryz.prog Znp Tryz.f42 Zdi.plan (Zg Tryz.f42):=by refine ⟨Tryz.func42,?_,?_,?_,?_,?_⟩<;>kernel_rfl
abbrev Zhk:List Pk:=[Pk.int .u32]
abbrev Zhh:List Pk:=[Pk.own Zcf [Kd.int .u8]]
def Zhp (n0:Int) (K:List UInt8->Prop):Prop:=
 (0:Int) <= 24∧
 (0:Int) <= 16∧
 (0:Int) <= 8∧
 K ([(ofI .u8 (IntKind.wrap .u8 (Int.fdiv n0 16777216))),(ofI .u8 (IntKind.wrap .u8 (Int.fdiv n0 65536))),(ofI .u8 (IntKind.wrap .u8 (Int.fdiv n0 256))),(ofI .u8 (IntKind.wrap .u8 n0))]:List UInt8)
noncomputable def Zdhh:Tab:=⟨[],[]⟩
abbrev Zchg (x:PkTs Zhk) (K:PkTs Zhh->Prop):Prop:=Zhp x.1 (fun r0=>K (r0,()))
theorem Zdli:FnQ Tryz.prog Znp Zhk Zhh Zchg:=(Zm Zdky (tab:=Zdhh) ⟨trivial,trivial⟩ rfl).of_eq (by kernel_rfl)
noncomputable def Zbde:Ct:=Zbq Zhk Zhh Zchg
theorem Zblh:Zk Tryz.prog Znp Zbde:=Zbt Zdli
theorem Zdmq:Known Tryz.prog Zbfn Tryz.f76 Zdi.plan (Zg Tryz.f76):=by refine ⟨Tryz.func76,?_,?_,?_,?_,?_⟩<;>kernel_rfl
abbrev Zwn:List Pk:=[Pk.int .u32,Pk.bool]
abbrev Zzt:List Pk:=[Pk.lst [Kd.int .u8]]
def Zbdt (j0:Int) (K:List UInt8->Prop):Prop:=
 (WfPs Zhk (j0,())->
 Zhp j0 (fun x13=>
 WfPs Zhh (x13,())->
 (0:Int) <= 2∧2 <= (x13.length:Int)∧
 K (x13.drop 2)))
def Zbgu (as0:Int) (four1:Bool) (K:List UInt8->Prop):Prop:=
 IfB four1
 ((WfPs Zhk (as0,())->
 Zhp as0 (fun x8=>
 WfPs Zhh (x8,())->
 K x8)))
 (IfB (decide ((as0:Int)>65535))
 (Zbdt 23456 K)
 (Zbdt as0 K))
noncomputable def Zdhv:Tab:=⟨[(Znp,Zbde)],[]⟩
abbrev Zckw (x:PkTs Zwn) (K:PkTs Zzt->Prop):Prop:=Zbgu x.1 x.2.1 (fun r0=>K (r0,()))
theorem Zdig:FnQ Tryz.prog Zbfn Zwn Zzt Zckw:=(Zm Zdmq (tab:=Zdhv) ⟨⟨Zblh,trivial⟩,trivial⟩ rfl).of_eq (by kernel_rfl)
noncomputable def Zbtf:Ct:=Zbq Zwn Zzt Zckw
theorem Zdav:Zk Tryz.prog Zbfn Zbtf:=Zbt Zdig
def Zcem:PLoop:=⟨[(6,PK.row Zmn [Kd.lst [Kd.int .u8]]),(40,PK.int .i64)],[0,38,39],[]⟩
def Zdha:PPlan:=⟨[(6,[0,1,2,3,5,6,4,7,8,9],[29])],[(10,Zcem)],[],[],[],[]⟩
theorem Zdjr:Known Tryz.prog Zbbz Tryz.f43 Zdha.plan (Zg Tryz.f43):=by refine ⟨Tryz.func43,?_,?_,?_,?_,?_⟩<;>kernel_rfl
abbrev Zbkr:List Pk:=[Pk.agg [Kd.int .i64,Kd.lst [Kd.bool,Kd.lst [Kd.int .u32]],Kd.int .u32,Kd.bool,Kd.int .u32,Kd.bool,Kd.int .u32,Kd.bool,Kd.bool,Kd.int .u32,Kd.int .u32,Kd.lst [Kd.int .u32],Kd.lst [Kd.int .i64,Kd.lst [Kd.int .u8]]],Pk.bool]
abbrev Zbnc:List Pk:=[]
abbrev Zbci:List PK:=[PK.row Zcf [Kd.int .u8]]
def Zbqz (j0_2:List UInt8) (a1:Ty1) (l6:List (List UInt8)) (x40:Int) (next10:(List (List UInt8)×Int×Unit)->Prop) (K:List UInt8->Prop):Prop:=
 IfB (decide ((x40:Int)<(a1.2.2.2.2.2.2.2.2.2.2.2.1.length:Int)))
 ((0:Int) <= x40∧AtN a1.2.2.2.2.2.2.2.2.2.2.2.1 x40.toNat fun x42=>
 WfT Zio x42->
 (WfPs Zhk ((x42.toNat:Int),())->
 Zhp (x42.toNat:Int) (fun x46=>
 WfPs Zhh (x46,())->
 l6.length+([x46]:List (List UInt8)).length <= 5864062014709∧
 next10 ((l6++([x46]:List (List UInt8))),(IntKind.wrap .i64 (x40+1)),()))))
 ((WfY Zeb (j0_2,())->
 WfPs Zhl ((8:Int),l6,())->
 Zgb j0_2 (8:Int) l6 (fun ox520=>
 WfY Zeb (ox520,())->
 WfPs Zhx ()->
 K ox520)))
def Zbgi (a1:Ty1) (j0_2:List UInt8) (K:List UInt8->Prop):Prop:=
 IfB (decide (((a1.2.2.2.2.2.2.2.2.2.2.2.1.length:Int):Int)>0))
 (Zl (List (List UInt8)×Int×Unit) (([]:List (List UInt8)),(0:Int),()) fun y next=>
 WfY Zcem.kinds y->
 Zbqz j0_2 a1 y.1 y.2.1 next K)
 (K j0_2)
def Zbhn (four2:Bool) (a1:Ty1) (j0_1:List UInt8) (K:List UInt8->Prop):Prop:=
 IfB a1.2.2.2.2.2.2.2.2.1
 ((WfPs Zwn ((a1.2.2.2.2.2.2.2.2.2.1.toNat:Int),four2,())->
 Zbgu (a1.2.2.2.2.2.2.2.2.2.1.toNat:Int) four2 (fun x27=>
 WfPs Zzt (x27,())->
 (WfPs Zhk ((a1.2.2.2.2.2.2.2.2.2.2.1.toNat:Int),())->
 Zhp (a1.2.2.2.2.2.2.2.2.2.2.1.toNat:Int) (fun x30=>
 WfPs Zhh (x30,())->
 (WfY Zeb (j0_1,())->
 WfPs Zhl ((7:Int),([x27,x30]:List (List UInt8)),())->
 Zgb j0_1 (7:Int) ([x27,x30]:List (List UInt8)) (fun ox320=>
 WfY Zeb (ox320,())->
 WfPs Zhx ()->
 Zbgi a1 ox320 K)))))))
 (Zbgi a1 j0_1 K)
def Zbfc (four2:Bool) (a1:Ty1) (j0:List UInt8) (K:List UInt8->Prop):Prop:=
 IfB a1.2.2.2.2.2.2.2.1
 ((WfY Zeb (j0,())->
 WfPs Zhl ((6:Int),([]:List (List UInt8)),())->
 Zgb j0 (6:Int) ([]:List (List UInt8)) (fun ox200=>
 WfY Zeb (ox200,())->
 WfPs Zhx ()->
 Zbhn four2 a1 ox200 K)))
 (Zbhn four2 a1 j0 K)
def Zuu (c0:List UInt8) (a1:Ty1) (four2:Bool) (K:List UInt8->Prop):Prop:=
 IfB a1.2.2.2.1
 ((WfPs Zhk ((a1.2.2.2.2.1.toNat:Int),())->
 Zhp (a1.2.2.2.2.1.toNat:Int) (fun x14=>
 WfPs Zhh (x14,())->
 (WfY Zeb (c0,())->
 WfPs Zhl ((4:Int),([x14]:List (List UInt8)),())->
 Zgb c0 (4:Int) ([x14]:List (List UInt8)) (fun ox160=>
 WfY Zeb (ox160,())->
 WfPs Zhx ()->
 Zbfc four2 a1 ox160 K)))))
 (Zbfc four2 a1 c0 K)
noncomputable def Zcwh:Tab:=⟨[(Zvf,Zblq),(Znp,Zbde),(Zbfn,Zbtf)],[]⟩
theorem Zcng:FnO Tryz.prog Zbbz Zpa Zbci Zbkr Zbnc (fun o x K=>Zuu o.1 x.1 x.2.1 (fun o0=>K (o0,()) (()))):=(Zbfg Zdjr (tab:=Zcwh) ⟨⟨Zccm,Zblh,Zdav,trivial⟩,trivial⟩ rfl).of_eq (by kernel_rfl)
noncomputable def Zcjl:Ct:=Znl Zpa Zbci Zbkr Zbnc (fun o x K=>Zuu o.1 x.1 x.2.1 (fun o0=>K (o0,()) (())))
theorem Zddd:Zk Tryz.prog Zbbz Zcjl:=Zbed Zcng
theorem Zdjq:Known Tryz.prog Znn Tryz.f80 Zdi.plan (Zg Tryz.f80):=by refine ⟨Tryz.func80,?_,?_,?_,?_,?_⟩<;>kernel_rfl
abbrev Zbho:List Pk:=[Pk.int .u32]
abbrev Zbfp:List Pk:=[Pk.bool]
def Zbkk (as0:Int) (K:Bool->Prop):Prop:=
 K (decide ((as0:Int)>65535))
noncomputable def Zdah:Tab:=⟨[],[]⟩
abbrev Zbzt (x:PkTs Zbho) (K:PkTs Zbfp->Prop):Prop:=Zbkk x.1 (fun r0=>K (r0,()))
theorem Zctx:FnQ Tryz.prog Znn Zbho Zbfp Zbzt:=(Zm Zdjq (tab:=Zdah) ⟨trivial,trivial⟩ rfl).of_eq (by kernel_rfl)
noncomputable def Zbvo:Ct:=ctRd Zbho Zbfp Zbzt
theorem Zdjb:Zk Tryz.prog Znn Zbvo:=Zbk Zctx
def Zccu:PLoop:=⟨[(8,PK.int .i64)],[0,1,7],[]⟩
def Zcwm:PPlan:=⟨[],[(2,Zccu)],[],[],[],[]⟩
theorem Zdnz:Known Tryz.prog Zbaw Tryz.f99 Zcwm.plan (Zg Tryz.f99):=by refine ⟨Tryz.func99,?_,?_,?_,?_,?_⟩<;>kernel_rfl
abbrev Zzy:List Pk:=[Pk.lst [Kd.int .u32],Pk.fn 80]
abbrev Zbdb:List Pk:=[Pk.int .i64]
def Zbol (s0:List UInt32) (x8:Int) (next2:(Int×Unit)->Prop) (K:Int->Prop):Prop:=
 IfB (decide ((x8:Int)<(s0.length:Int)))
 ((0:Int) <= x8∧AtN s0 x8.toNat fun x14=>
 WfT Zio x14->
 (WfPs Zbho ((x14.toNat:Int),())->
 Zbkk (x14.toNat:Int) (fun x16=>
 WfPs Zbfp (x16,())->
 IfB x16
 (K x8)
 (next2 ((IntKind.wrap .i64 (x8+1)),())))))
 (K (-1))
def Zwt (s0:List UInt32) (K:Int->Prop):Prop:=
 Zl (Int×Unit) ((0:Int),()) fun y next=>
 WfY Zccu.kinds y->
 Zbol s0 y.1 next K
noncomputable def Zdpn:Tab:=⟨[(Znn,Zbvo)],[]⟩
abbrev Zbwo (x:PkTs Zzy) (K:PkTs Zbdb->Prop):Prop:=Zwt x.1 (fun r0=>K (r0,()))
theorem Zdpb:FnQ Tryz.prog Zbaw Zzy Zbdb Zbwo:=(Zm Zdnz (tab:=Zdpn) ⟨⟨Zdjb,trivial⟩,trivial⟩ rfl).of_eq (by kernel_rfl)
noncomputable def Zckn:Ct:=ctRd Zzy Zbdb Zbwo
theorem Zdmu:Zk Tryz.prog Zbaw Zckn:=Zbk Zdpb
theorem Zdil:Known Tryz.prog Zbck Tryz.f79 Zdi.plan (Zg Tryz.f79):=by refine ⟨Tryz.func79,?_,?_,?_,?_,?_⟩<;>kernel_rfl
abbrev Zxg:List Pk:=[Pk.lst [Kd.int .u32],Pk.fn 80]
abbrev Zyz:List Pk:=[Pk.bool]
def Zbrf (s0:List UInt32) (K:Bool->Prop):Prop:=
 (WfPs Zzy (s0,(),())->
 Zwt s0 (fun x7=>
 WfPs Zbdb (x7,())->
 K (decide ((x7:Int)≥0))))
noncomputable def Zdis:Tab:=⟨[(Zbaw,Zis 1 [(Znn,Zckn)])],[]⟩
abbrev Zccf (x:PkTs Zxg) (K:PkTs Zyz->Prop):Prop:=Zbrf x.1 (fun r0=>K (r0,()))
theorem Zcwk:FnQ Tryz.prog Zbck Zxg Zyz Zccf:=(Zm Zdil (tab:=Zdis) ⟨⟨Zlg ⟨Zdmu,trivial⟩,trivial⟩,trivial⟩ rfl).of_eq (by kernel_rfl)
noncomputable def Zcbn:Ct:=ctRd Zxg Zyz Zccf
theorem Zcvg:Zk Tryz.prog Zbck Zcbn:=Zbk Zcwk
theorem Zcxo:Known Tryz.prog Znf Tryz.f78 Zdi.plan (Zg Tryz.f78):=by refine ⟨Tryz.func78,?_,?_,?_,?_,?_⟩<;>kernel_rfl
abbrev Zxi:List Pk:=[Pk.agg [Kd.bool,Kd.lst [Kd.int .u32]]]
abbrev Zbcl:List Pk:=[Pk.bool]
def Zyy (s0:Bool×List UInt32) (K:Bool->Prop):Prop:=
 (WfPs Zxg (s0.2,(),())->
 Zbrf s0.2 (fun x5=>
 WfPs Zyz (x5,())->
 K x5))
noncomputable def Zdam:Tab:=⟨[(Zbck,Zis 1 [(Znn,Zcbn)])],[]⟩
abbrev Zchd (x:PkTs Zxi) (K:PkTs Zbcl->Prop):Prop:=Zyy x.1 (fun r0=>K (r0,()))
theorem Zcui:FnQ Tryz.prog Znf Zxi Zbcl Zchd:=(Zm Zcxo (tab:=Zdam) ⟨⟨Zlg ⟨Zcvg,trivial⟩,trivial⟩,trivial⟩ rfl).of_eq (by kernel_rfl)
noncomputable def Zcfy:Ct:=ctRd Zxi Zbcl Zchd
theorem Zctt:Zk Tryz.prog Znf Zcfy:=Zbk Zcui
def Zccx:PLoop:=⟨[(8,PK.int .i64)],[0,1,7],[]⟩
def Zdll:PPlan:=⟨[],[(2,Zccx)],[],[],[],[]⟩
theorem Zcuq:Known Tryz.prog Zbax Tryz.f98 Zdll.plan (Zg Tryz.f98):=by refine ⟨Tryz.func98,?_,?_,?_,?_,?_⟩<;>kernel_rfl
abbrev Zbcs:List Pk:=[Pk.lst [Kd.bool,Kd.lst [Kd.int .u32]],Pk.fn 78]
abbrev Zyn:List Pk:=[Pk.int .i64]
def Zbrk (s0:List (Bool×List UInt32)) (x8:Int) (next2:(Int×Unit)->Prop) (K:Int->Prop):Prop:=
 IfB (decide ((x8:Int)<(s0.length:Int)))
 ((0:Int) <= x8∧AtN s0 x8.toNat fun x14=>
 WfT Zdf x14->
 (WfPs Zxi (x14,())->
 Zyy x14 (fun x16=>
 WfPs Zbcl (x16,())->
 IfB x16
 (K x8)
 (next2 ((IntKind.wrap .i64 (x8+1)),())))))
 (K (-1))
def Zxt (s0:List (Bool×List UInt32)) (K:Int->Prop):Prop:=
 Zl (Int×Unit) ((0:Int),()) fun y next=>
 WfY Zccx.kinds y->
 Zbrk s0 y.1 next K
noncomputable def Zdfv:Tab:=⟨[(Znf,Zcfy)],[]⟩
abbrev Zbrv (x:PkTs Zbcs) (K:PkTs Zyn->Prop):Prop:=Zxt x.1 (fun r0=>K (r0,()))
theorem Zczk:FnQ Tryz.prog Zbax Zbcs Zyn Zbrv:=(Zm Zcuq (tab:=Zdfv) ⟨⟨Zctt,trivial⟩,trivial⟩ rfl).of_eq (by kernel_rfl)
noncomputable def Zcek:Ct:=ctRd Zbcs Zyn Zbrv
theorem Zdba:Zk Tryz.prog Zbax Zcek:=Zbk Zczk
theorem Zctw:Known Tryz.prog Zbds Tryz.f77 Zdi.plan (Zg Tryz.f77):=by refine ⟨Tryz.func77,?_,?_,?_,?_,?_⟩<;>kernel_rfl
abbrev Zxk:List Pk:=[Pk.lst [Kd.bool,Kd.lst [Kd.int .u32]],Pk.fn 78]
abbrev Zys:List Pk:=[Pk.bool]
def Zbqs (s0:List (Bool×List UInt32)) (K:Bool->Prop):Prop:=
 (WfPs Zbcs (s0,(),())->
 Zxt s0 (fun x7=>
 WfPs Zyn (x7,())->
 K (decide ((x7:Int)≥0))))
noncomputable def Zcml:Tab:=⟨[(Zbax,Zis 1 [(Znf,Zcek)])],[]⟩
abbrev Zbwp (x:PkTs Zxk) (K:PkTs Zys->Prop):Prop:=Zbqs x.1 (fun r0=>K (r0,()))
theorem Zcmv:FnQ Tryz.prog Zbds Zxk Zys Zbwp:=(Zm Zctw (tab:=Zcml) ⟨⟨Zlg ⟨Zdba,trivial⟩,trivial⟩,trivial⟩ rfl).of_eq (by kernel_rfl)
noncomputable def Zclr:Ct:=ctRd Zxk Zys Zbwp
theorem Zcsm:Zk Tryz.prog Zbds Zclr:=Zbk Zcmv
theorem Zdhd:Known Tryz.prog Zbea Tryz.f44 Zdi.plan (Zg Tryz.f44):=by refine ⟨Tryz.func44,?_,?_,?_,?_,?_⟩<;>kernel_rfl
abbrev Zbhp:List Pk:=[Pk.lst [Kd.bool,Kd.lst [Kd.int .u32]]]
abbrev Zbft:List Pk:=[Pk.bool]
def Zbgd (p0:List (Bool×List UInt32)) (K:Bool->Prop):Prop:=
 (WfPs Zxk (p0,(),())->
 Zbqs p0 (fun x4=>
 WfPs Zys (x4,())->
 K x4))
noncomputable def Zdjg:Tab:=⟨[(Zbds,Zis 1 [(Znf,Zclr)])],[]⟩
abbrev Zchu (x:PkTs Zbhp) (K:PkTs Zbft->Prop):Prop:=Zbgd x.1 (fun r0=>K (r0,()))
theorem Zczc:FnQ Tryz.prog Zbea Zbhp Zbft Zchu:=(Zm Zdhd (tab:=Zdjg) ⟨⟨Zlg ⟨Zcsm,trivial⟩,trivial⟩,trivial⟩ rfl).of_eq (by kernel_rfl)
noncomputable def Zcim:Ct:=ctRd Zbhp Zbft Zchu
theorem Zdde:Zk Tryz.prog Zbea Zcim:=Zbk Zczc
def Zcad:PLoop:=⟨[(87,PK.int .i64)],[7,85,86],[(7,[PK.row Zcf [Kd.int .u8]])]⟩
def Zdoh:PPlan:=⟨[(14,[0,1,2,4,5,3,6,7,8],[80])],[(16,Zcad)],[],[],[],[]⟩
theorem Zdfi:Known Tryz.prog Zrz Tryz.f21 Zdoh.plan (Zg Tryz.f21):=by refine ⟨Tryz.func21,?_,?_,?_,?_,?_⟩<;>kernel_rfl
abbrev Zvm:List Pk:=[Pk.agg [Kd.int .i64,Kd.lst [Kd.bool,Kd.lst [Kd.int .u32]],Kd.int .u32,Kd.bool,Kd.int .u32,Kd.bool,Kd.int .u32,Kd.bool,Kd.bool,Kd.int .u32,Kd.int .u32,Kd.lst [Kd.int .u32],Kd.lst [Kd.int .i64,Kd.lst [Kd.int .u8]]],Pk.bool]
abbrev Zqc:List Pk:=[Pk.own Zcf [Kd.int .u8],Pk.int .i64]
def Zblm (a0:Ty1) (x87:Int) (c0:List UInt8) (next16:(Int×List UInt8×Unit)->Prop) (K:List UInt8->Int->Prop):Prop:=
 IfB (decide ((x87:Int)<(a0.2.2.2.2.2.2.2.2.2.2.2.2.length:Int)))
 ((0:Int) <= x87∧AtN a0.2.2.2.2.2.2.2.2.2.2.2.2 x87.toNat fun x89=>
 WfT Zgm x89->
 (WfY Zog (c0,())->
 WfPs Zbfe ((224:Int),x89.1,([x89.2]:List (List UInt8)),())->
 Zoa c0 (224:Int) x89.1 ([x89.2]:List (List UInt8)) (fun ox970=>
 WfY Zog (ox970,())->
 WfPs Zxn ()->
 next16 ((IntKind.wrap .i64 (x87+1)),ox970,()))))
 (K c0 0)
def Zbva (j13:List UInt8) (a0:Ty1) (K:List UInt8->Int->Prop):Prop:=
 Zl (Int×List UInt8×Unit) ((0:Int),j13,()) fun y next=>
 WfY Zcad.kinds y->
 Zblm a0 y.1 y.2.1 next K
def Zbhy (a0:Ty1) (j13:List UInt8) (K:List UInt8->Int->Prop):Prop:=
 Zbva j13 a0 K
def Zpv (a0:Ty1) (j14:List UInt8) (j14_1:Bool) (K:List UInt8->Int->Prop):Prop:=
 IfB j14_1
 ((WfPs Zhk ((a0.2.2.2.2.2.2.2.2.2.1.toNat:Int),())->
 Zhp (a0.2.2.2.2.2.2.2.2.2.1.toNat:Int) (fun x78=>
 WfPs Zhh (x78,())->
 (WfPs Zhk ((a0.2.2.2.2.2.2.2.2.2.2.1.toNat:Int),())->
 Zhp (a0.2.2.2.2.2.2.2.2.2.2.1.toNat:Int) (fun x81=>
 WfPs Zhh (x81,())->
 (WfY Zeb (j14,())->
 WfPs Zhl ((18:Int),([x78,x81]:List (List UInt8)),())->
 Zgb j14 (18:Int) ([x78,x81]:List (List UInt8)) (fun ox830=>
 WfY Zeb (ox830,())->
 WfPs Zhx ()->
 Zbhy a0 ox830 K)))))))
 (Zbhy a0 j14 K)
def Zbee (four1:Bool) (a0:Ty1) (j14:List UInt8) (K:List UInt8->Int->Prop):Prop:=
 IfB (!four1)
 (IfB a0.2.2.2.2.2.2.2.2.1
 (Zpv a0 j14 (decide (((a0.2.2.2.2.2.2.2.2.2.1.toNat:Int):Int)>65535)) K)
 (Zpv a0 j14 false K))
 (Zpv a0 j14 false K)
def Zxj (four1:Bool) (a0:Ty1) (ox460:List UInt8) (j15:Bool) (K:List UInt8->Int->Prop):Prop:=
 IfB j15
 ((WfPs Ztq (a0.2.1,true,())->
 Zup a0.2.1 true (fun x57r0 x57r1=>
 WfPs Zsi (x57r0,x57r1,())->
 (WfY Zeb (ox460,())->
 WfPs Zhl ((17:Int),([x57r0]:List (List UInt8)),())->
 Zgb ox460 (17:Int) ([x57r0]:List (List UInt8)) (fun ox630=>
 WfY Zeb (ox630,())->
 WfPs Zhx ()->
 Zbee four1 a0 ox630 K)))))
 (Zbee four1 a0 ox460 K)
def Zrt (a0:Ty1) (four1:Bool) (K:List UInt8->Int->Prop):Prop:=
 (WfPs Zqy (((a0.1,a0.2.1,(ofI .u32 (a0.2.2.1.toNat:Int)),a0.2.2.2.1,(ofI .u32 (a0.2.2.2.2.1.toNat:Int)),a0.2.2.2.2.2.1,(ofI .u32 (a0.2.2.2.2.2.2.1.toNat:Int)),a0.2.2.2.2.2.2.2.1,a0.2.2.2.2.2.2.2.2.1,(ofI .u32 (a0.2.2.2.2.2.2.2.2.2.1.toNat:Int)),(ofI .u32 (a0.2.2.2.2.2.2.2.2.2.2.1.toNat:Int)),a0.2.2.2.2.2.2.2.2.2.2.2.1,a0.2.2.2.2.2.2.2.2.2.2.2.2):Ty1),())->
 Zue ((a0.1,a0.2.1,(ofI .u32 (a0.2.2.1.toNat:Int)),a0.2.2.2.1,(ofI .u32 (a0.2.2.2.2.1.toNat:Int)),a0.2.2.2.2.2.1,(ofI .u32 (a0.2.2.2.2.2.2.1.toNat:Int)),a0.2.2.2.2.2.2.2.1,a0.2.2.2.2.2.2.2.2.1,(ofI .u32 (a0.2.2.2.2.2.2.2.2.2.1.toNat:Int)),(ofI .u32 (a0.2.2.2.2.2.2.2.2.2.2.1.toNat:Int)),a0.2.2.2.2.2.2.2.2.2.2.2.1,a0.2.2.2.2.2.2.2.2.2.2.2.2):Ty1) (fun x13=>
 WfPs Zsb (x13,())->
 IfB ((x13:Int) !=0)
 (K ([]:List UInt8) x13)
 ((WfPs Ztq (a0.2.1,four1,())->
 Zup a0.2.1 four1 (fun x23r0 x23r1=>
 WfPs Zsi (x23r0,x23r1,())->
 (WfY Zeb (([]:List UInt8),())->
 WfPs Zhl ((1:Int),([([(ofI .u8 (IntKind.wrap .u8 a0.1))]:List UInt8)]:List (List UInt8)),())->
 Zgb ([]:List UInt8) (1:Int) ([([(ofI .u8 (IntKind.wrap .u8 a0.1))]:List UInt8)]:List (List UInt8)) (fun ox320=>
 WfY Zeb (ox320,())->
 WfPs Zhx ()->
 (WfY Zeb (ox320,())->
 WfPs Zhl ((2:Int),([x23r0]:List (List UInt8)),())->
 Zgb ox320 (2:Int) ([x23r0]:List (List UInt8)) (fun ox360=>
 WfY Zeb (ox360,())->
 WfPs Zhx ()->
 (WfPs Zhk ((a0.2.2.1.toNat:Int),())->
 Zhp (a0.2.2.1.toNat:Int) (fun x40=>
 WfPs Zhh (x40,())->
 (WfY Zeb (ox360,())->
 WfPs Zhl ((3:Int),([x40]:List (List UInt8)),())->
 Zgb ox360 (3:Int) ([x40]:List (List UInt8)) (fun ox420=>
 WfY Zeb (ox420,())->
 WfPs Zhx ()->
 (WfY Zbci (ox420,())->
 WfPs Zbkr (((a0.1,a0.2.1,(ofI .u32 (a0.2.2.1.toNat:Int)),a0.2.2.2.1,(ofI .u32 (a0.2.2.2.2.1.toNat:Int)),a0.2.2.2.2.2.1,(ofI .u32 (a0.2.2.2.2.2.2.1.toNat:Int)),a0.2.2.2.2.2.2.2.1,a0.2.2.2.2.2.2.2.2.1,(ofI .u32 (a0.2.2.2.2.2.2.2.2.2.1.toNat:Int)),(ofI .u32 (a0.2.2.2.2.2.2.2.2.2.2.1.toNat:Int)),a0.2.2.2.2.2.2.2.2.2.2.2.1,a0.2.2.2.2.2.2.2.2.2.2.2.2):Ty1),four1,())->
 Zuu ox420 ((a0.1,a0.2.1,(ofI .u32 (a0.2.2.1.toNat:Int)),a0.2.2.2.1,(ofI .u32 (a0.2.2.2.2.1.toNat:Int)),a0.2.2.2.2.2.1,(ofI .u32 (a0.2.2.2.2.2.2.1.toNat:Int)),a0.2.2.2.2.2.2.2.1,a0.2.2.2.2.2.2.2.2.1,(ofI .u32 (a0.2.2.2.2.2.2.2.2.2.1.toNat:Int)),(ofI .u32 (a0.2.2.2.2.2.2.2.2.2.2.1.toNat:Int)),a0.2.2.2.2.2.2.2.2.2.2.2.1,a0.2.2.2.2.2.2.2.2.2.2.2.2):Ty1) four1 (fun ox460=>
 WfY Zbci (ox460,())->
 WfPs Zbnc ()->
 IfB (!four1)
 ((WfPs Zbhp (a0.2.1,())->
 Zbgd a0.2.1 (fun x52=>
 WfPs Zbft (x52,())->
 Zxj four1 a0 ox460 x52 K)))
 (Zxj four1 a0 ox460 false K))))))))))))))))
noncomputable def Zdih:Tab:=⟨[(Zpt,Zbkd),(Zzo,Zcjc),(Zvf,Zblq),(Znp,Zbde),(Zbbz,Zcjl),(Zbea,Zcim),(Zut,Zbqo)],[]⟩
abbrev Zcgd (x:PkTs Zvm) (K:PkTs Zqc->Prop):Prop:=Zrt x.1 x.2.1 (fun r0 r1=>K (r0,r1,()))
theorem Zcrd:FnQ Tryz.prog Zrz Zvm Zqc Zcgd:=(Zm Zdfi (tab:=Zdih) ⟨⟨Zbuu,Zdbb,Zccm,Zblh,Zddd,Zdde,Zcho,trivial⟩,trivial⟩ rfl).of_eq (by kernel_rfl)
noncomputable def Zbjt:Ct:=Zbq Zvm Zqc Zcgd
theorem Zbry:Zk Tryz.prog Zrz Zbjt:=Zbt Zcrd
theorem Zcpj:Known Tryz.prog Znx Tryz.f116 Zdi.plan (Zg Tryz.f116):=by refine ⟨Tryz.func116,?_,?_,?_,?_,?_⟩<;>kernel_rfl
noncomputable def Zcmo:Tab:=⟨[],[]⟩
noncomputable def Zckt:Ct:=Zlu Tryz.prog Zcmo Zdi (Zg Tryz.f116) Tryz.f116.ntmps Tryz.f116.results.toList
theorem Zcum:Zk Tryz.prog Znx Zckt:=Zuw Zcpj ⟨trivial,trivial⟩
def Zbzl:PLoop:=⟨[(0,PK.lst [Kd.int .u8]),(7,PK.row Ziq [Kd.bool,Kd.lst [Kd.int .u32]])],[6],[]⟩
def Zbwc:PLoop:=⟨[(11,PK.int .u32),(65,PK.int .i64)],[8,63,64],[(8,[PK.bool,PK.row Zdm [Kd.int .u32]])]⟩
def Zbmd:PLoop:=⟨[],[0,6,7,8,9],[(8,[PK.bool,PK.row Zdm [Kd.int .u32]])]⟩
def Zcty:PPlan:=⟨[(18,[0,1,4,5,6,2,3,7,8],[])],[(5,Zbzl),(13,Zbwc),(4000010,Zbmd)],[],[],[],[]⟩
theorem Zcqu:Known Tryz.prog Zun Tryz.f104 Zcty.plan (Zg Tryz.f104):=by refine ⟨Tryz.func104,?_,?_,?_,?_,?_⟩<;>kernel_rfl
abbrev Zbxk:List Pk:=[Pk.lst [Kd.int .u8],Pk.bool]
abbrev Zcgr:List Pk:=[Pk.lst [Kd.bool,Kd.lst [Kd.int .u32]],Pk.int .i64]
def Zdkq (K:List (Bool×List UInt32)->Int->Prop):Prop:=
 K ([]:List (Bool×List UInt32)) 7
def Zcew (b0_1:List UInt8) (j1:Int) (p7:List (Bool×List UInt32)) (x46:UInt8) (x51:UInt8) (next5:(List UInt8×List (Bool×List UInt32)×Unit)->Prop) (c0:Bool) (c1:List UInt32) (K:List (Bool×List UInt32)->Int->Prop):Prop:=
 (0:Int) <= (IntKind.wrap .i64 (2+(IntKind.wrap .i64 ((IntKind.wrap .i64 (x51.toNat:Int))*j1))))∧(IntKind.wrap .i64 (2+(IntKind.wrap .i64 ((IntKind.wrap .i64 (x51.toNat:Int))*j1)))) <= (b0_1.length:Int)∧
 p7.length+([(c0,c1)]:List (Bool×List UInt32)).length <= 4398046511008∧
 next5 ((b0_1.drop ((IntKind.wrap .i64 (2+(IntKind.wrap .i64 ((IntKind.wrap .i64 (x51.toNat:Int))*j1)))).toNat)),(p7++([(c0,c1)]:List (Bool×List UInt32))),())
def Zbrl (c0_1:Bool) (x62:List UInt8) (next5:(List UInt8×List (Bool×List UInt32)×Unit)->Prop) (next4000010:(Bool×List UInt32×Unit)->Prop) (as11:Int) (x65:Int) (c0_2:Bool) (c1_2:List UInt32) (next13:(Int×Int×Bool×List UInt32×Unit)->Prop) (K:List (Bool×List UInt32)->Int->Prop):Prop:=
 IfB (decide ((x65:Int)<(x62.length:Int)))
 ((0:Int) <= x65∧AtN x62 x65.toNat fun x67=>
 WfT Zcw x67->
 (0:Int) <= 8∧
 next13 ((Zbz .u32 (IntKind.wrap .u32 (as11*256)) (IntKind.wrap .u32 (x67.toNat:Int))),(IntKind.wrap .i64 (x65+1)),c0_2,c1_2,()))
 (c1_2.length+([(ofI .u32 as11)]:List UInt32).length <= 35184372088736∧
 next4000010 (c0_2,(c1_2++([(ofI .u32 as11)]:List UInt32)),()))
def Zcla (b0_1:List UInt8) (j1:Int) (p7:List (Bool×List UInt32)) (x46:UInt8) (x51:UInt8) (next5:(List UInt8×List (Bool×List UInt32)×Unit)->Prop) (c0_1:Bool) (c1_1:List UInt32) (x62:List UInt8) (next4000010:(Bool×List UInt32×Unit)->Prop) (K:List (Bool×List UInt32)->Int->Prop):Prop:=
 Zl (Int×Int×Bool×List UInt32×Unit) ((0:Int),(0:Int),c0_1,c1_1,()) fun y next=>
 WfY Zbwc.kinds y->
 Zbrl c0_1 x62 next5 next4000010 y.1 y.2.1 y.2.2.1 y.2.2.2.1 next K
def Zjd (b0_1:List UInt8) (j1:Int) (p7:List (Bool×List UInt32)) (next5:(List UInt8×List (Bool×List UInt32)×Unit)->Prop) (j3:Bool) (K:List (Bool×List UInt32)->Int->Prop):Prop:=
 IfB j3
 (Zdkq K)
 ((0:Int) <= 0∧AtN b0_1 0 fun x46=>
 WfT Zcw x46->
 (0:Int) <= 1∧AtN b0_1 1 fun x51=>
 WfT Zcw x51->
 (0:Int) <= (IntKind.wrap .i64 (2+(IntKind.wrap .i64 ((IntKind.wrap .i64 (x51.toNat:Int))*j1))))∧(IntKind.wrap .i64 (2+(IntKind.wrap .i64 ((IntKind.wrap .i64 (x51.toNat:Int))*j1)))) <= (b0_1.length:Int)∧
 (0:Int) <= 2∧2 <= ((IntKind.wrap .i64 (2+(IntKind.wrap .i64 ((IntKind.wrap .i64 (x51.toNat:Int))*j1)))).toNat:Int)∧
 IfB (decide ((j1:Int)<1))
 (False)
 (Zmk.pre (((b0_1.take ((IntKind.wrap .i64 (2+(IntKind.wrap .i64 ((IntKind.wrap .i64 (x51.toNat:Int))*j1)))).toNat)).drop 2),j1,())∧
 Zdv (fun (y:(Bool×List UInt32×Unit))=>WfY Zbmd.kinds y->Zcew b0_1 j1 p7 x46 x51 next5 y.1 y.2.1 K)
 (fun (y:(Bool×List UInt32×Unit)) (x:(List UInt8×Unit)) (next:(Bool×List UInt32×Unit)->Prop)=>WfY Zbmd.kinds y->WfPs Zmk.ps x->Zcla b0_1 j1 p7 x46 x51 next5 y.1 y.2.1 x.1 next K) (Zmk.xs (((b0_1.take ((IntKind.wrap .i64 (2+(IntKind.wrap .i64 ((IntKind.wrap .i64 (x51.toNat:Int))*j1)))).toNat)).drop 2),j1,())) ((((x46.toNat:Int):Int)==1),([]:List UInt32),())))
def Zbyx (j1:Int) (b0_1:List UInt8) (p7:List (Bool×List UInt32)) (next5:(List UInt8×List (Bool×List UInt32)×Unit)->Prop) (K:List (Bool×List UInt32)->Int->Prop):Prop:=
 IfB (decide (((b0_1.length:Int):Int)>0))
 (IfB (decide (((b0_1.length:Int):Int)<2))
 (Zjd b0_1 j1 p7 next5 true K)
 ((0:Int) <= 0∧AtN b0_1 0 fun x23=>
 WfT Zcw x23->
 IfB (((x23.toNat:Int):Int) !=1)
 ((0:Int) <= 0∧AtN b0_1 0 fun x28=>
 WfT Zcw x28->
 IfB (((x28.toNat:Int):Int) !=2)
 (Zjd b0_1 j1 p7 next5 true K)
 ((0:Int) <= 1∧AtN b0_1 1 fun x35=>
 WfT Zcw x35->
 Zjd b0_1 j1 p7 next5 (decide (((IntKind.wrap .i64 ((IntKind.wrap .i64 (x35.toNat:Int))*j1)):Int)>(IntKind.wrap .i64 ((b0_1.length:Int) - 2)))) K))
 ((0:Int) <= 1∧AtN b0_1 1 fun x35_1=>
 WfT Zcw x35_1->
 Zjd b0_1 j1 p7 next5 (decide (((IntKind.wrap .i64 ((IntKind.wrap .i64 (x35_1.toNat:Int))*j1)):Int)>(IntKind.wrap .i64 ((b0_1.length:Int) - 2)))) K)))
 ((WfPs Zox (p7,())->
 Zop p7 (fun x89=>
 WfPs Znq (x89,())->
 IfB ((x89:Int)==0)
 (K p7 0)
 (K ([]:List (Bool×List UInt32)) 7))))
def Zwv (b0:List UInt8) (j1:Int) (K:List (Bool×List UInt32)->Int->Prop):Prop:=
 Zl (List UInt8×List (Bool×List UInt32)×Unit) (b0,([]:List (Bool×List UInt32)),()) fun y next=>
 WfY Zbzl.kinds y->
 Zbyx j1 y.1 y.2.1 next K
def Zblx (b0:List UInt8) (four1:Bool) (K:List (Bool×List UInt32)->Int->Prop):Prop:=
 IfB four1
 (Zwv b0 4 K)
 (Zwv b0 2 K)
noncomputable def Zcno:Tab:=⟨[(Zle,Zwd),(Znx,Zckt)],[(Zid,Zmk)]⟩
abbrev Zcxc (x:PkTs Zbxk) (K:PkTs Zcgr->Prop):Prop:=Zblx x.1 x.2.1 (fun r0 r1=>K (r0,r1,()))
theorem Zdin:FnQ Tryz.prog Zun Zbxk Zcgr Zcxc:=(Zm Zcqu (tab:=Zcno) ⟨⟨Zbqq,Zcum,trivial⟩,⟨Zcdv,trivial⟩⟩ rfl).of_eq (by kernel_rfl)
def Zbyp:PLoop:=⟨[(3,PK.int .i64),(8,PK.int .i64)],[6,7],[]⟩
def Zdaq:PPlan:=⟨[],[(3,Zbyp)],[],[],[],[]⟩
theorem Zdbe:Known Tryz.prog Zbcr Tryz.f106 Zdaq.plan (Zg Tryz.f106):=by refine ⟨Tryz.func106,?_,?_,?_,?_,?_⟩<;>kernel_rfl
abbrev Zuq:List Pk:=[Pk.lst [Kd.bool,Kd.lst [Kd.int .u32]]]
abbrev Zsq:List Pk:=[Pk.int .i64]
def Zbqc (p0:List (Bool×List UInt32)) (x8:Int) (next3:(Int×Int×Unit)->Prop) (j0:Int) (K:Int->Prop):Prop:=
 next3 (j0,(IntKind.wrap .i64 (x8+1)),())
def Zblr (p0:List (Bool×List UInt32)) (n3:Int) (x8:Int) (next3:(Int×Int×Unit)->Prop) (K:Int->Prop):Prop:=
 IfB (decide ((x8:Int)<(p0.length:Int)))
 ((0:Int) <= x8∧AtN p0 x8.toNat fun x10=>
 WfT Zdf x10->
 IfB x10.1
 (Zbqc p0 x8 next3 (IntKind.wrap .i64 (n3+1)) K)
 (Zbqc p0 x8 next3 (IntKind.wrap .i64 (n3+(x10.2.length:Int))) K))
 (K n3)
def Zti (p0:List (Bool×List UInt32)) (K:Int->Prop):Prop:=
 Zl (Int×Int×Unit) ((0:Int),(0:Int),()) fun y next=>
 WfY Zbyp.kinds y->
 Zblr p0 y.1 y.2.1 next K
noncomputable def Zcxd:Tab:=⟨[],[]⟩
abbrev Zbvb (x:PkTs Zuq) (K:PkTs Zsq->Prop):Prop:=Zti x.1 (fun r0=>K (r0,()))
theorem Zcxp:FnQ Tryz.prog Zbcr Zuq Zsq Zbvb:=(Zm Zdbe (tab:=Zcxd) ⟨trivial,trivial⟩ rfl).of_eq (by kernel_rfl)
noncomputable def Zckp:Ct:=ctRd Zuq Zsq Zbvb
theorem Zdhg:Zk Tryz.prog Zbcr Zckp:=Zbk Zcxp
theorem Zcxk:Known Tryz.prog Zxf Tryz.f117 Zdi.plan (Zg Tryz.f117):=by refine ⟨Tryz.func117,?_,?_,?_,?_,?_⟩<;>kernel_rfl
abbrev Zbaz:List Pk:=[Pk.lst [Kd.int .u32]]
abbrev Zbgq:List Pk:=[Pk.own Zdm [Kd.int .u32]]
def Zbix (s0:List UInt32) (K:List UInt32->Prop):Prop:=
 ∀isnil:Bool,(isnil=true->s0.length=0)->
 IfB isnil
 (K ([]:List UInt32))
 (([]:List UInt32).length+s0.length <= 35184372088736∧
 K (([]:List UInt32)++s0))
noncomputable def Zdcj:Tab:=⟨[],[]⟩
abbrev Zbrx (x:PkTs Zbaz) (K:PkTs Zbgq->Prop):Prop:=Zbix x.1 (fun r0=>K (r0,()))
theorem Zdac:FnQ Tryz.prog Zxf Zbaz Zbgq Zbrx:=(Zm Zcxk (tab:=Zdcj) ⟨trivial,trivial⟩ rfl).of_eq (by kernel_rfl)
noncomputable def Zces:Ct:=Zbq Zbaz Zbgq Zbrx
theorem Zdpa:Zk Tryz.prog Zxf Zces:=Zbt Zdac
def Zclg:PLoop:=⟨[(3,PK.row Ziq [Kd.bool,Kd.lst [Kd.int .u32]]),(11,PK.int .i64)],[9,10],[]⟩
def Zcnh:PPlan:=⟨[(5,[0,1,2,3,4,5,6,7,8,9],[17])],[(3,Zclg)],[],[],[],[]⟩
theorem Zcvs:Known Tryz.prog Zro Tryz.f107 Zcnh.plan (Zg Tryz.f107):=by refine ⟨Tryz.func107,?_,?_,?_,?_,?_⟩<;>kernel_rfl
abbrev Znz:List Pk:=[Pk.lst [Kd.bool,Kd.lst [Kd.int .u32]]]
abbrev Zom:List Pk:=[Pk.own Ziq [Kd.bool,Kd.lst [Kd.int .u32]]]
def Zbrb (p0:List (Bool×List UInt32)) (out3:List (Bool×List UInt32)) (x11:Int) (next3:(List (Bool×List UInt32)×Int×Unit)->Prop) (K:List (Bool×List UInt32)->Prop):Prop:=
 IfB (decide ((x11:Int)<(p0.length:Int)))
 ((0:Int) <= x11∧AtN p0 x11.toNat fun x13=>
 WfT Zdf x13->
 (WfPs Zbaz (x13.2,())->
 Zbix x13.2 (fun x20=>
 WfPs Zbgq (x20,())->
 out3.length+([(x13.1,x20)]:List (Bool×List UInt32)).length <= 4398046511008∧
 next3 ((out3++([(x13.1,x20)]:List (Bool×List UInt32))),(IntKind.wrap .i64 (x11+1)),()))))
 (K out3)
def Zpg (p0:List (Bool×List UInt32)) (K:List (Bool×List UInt32)->Prop):Prop:=
 (0:Int) <= 0∧(0:Int) <= (p0.length:Int)∧((p0.length:Int):Int) <= 1000000000∧
 Zl (List (Bool×List UInt32)×Int×Unit) ((List.replicate 0 ((false,([]:List UInt32)):Bool×List UInt32)),(0:Int),()) fun y next=>
 WfY Zclg.kinds y->
 Zbrb p0 y.1 y.2.1 next K
noncomputable def Zdgx:Tab:=⟨[(Zxf,Zces)],[]⟩
abbrev Zcih (x:PkTs Znz) (K:PkTs Zom->Prop):Prop:=Zpg x.1 (fun r0=>K (r0,()))
theorem Zcrf:FnQ Tryz.prog Zro Znz Zom Zcih:=(Zm Zcvs (tab:=Zdgx) ⟨⟨Zdpa,trivial⟩,trivial⟩ rfl).of_eq (by kernel_rfl)
noncomputable def Zbpd:Ct:=Zbq Znz Zom Zcih
theorem Zbsa:Zk Tryz.prog Zro Zbpd:=Zbt Zcrf
def Zckf:PLoop:=⟨[(1,PK.int .i64),(5,PK.row Ziq [Kd.bool,Kd.lst [Kd.int .u32]]),(11,PK.int .i64)],[9,10],[]⟩
def Zdbo:PPlan:=⟨[],[(3,Zckf)],[],[],[],[]⟩
theorem Zdml:Known Tryz.prog Zbfa Tryz.f108 Zdbo.plan (Zg Tryz.f108):=by refine ⟨Tryz.func108,?_,?_,?_,?_,?_⟩<;>kernel_rfl
abbrev Zbdj:List Pk:=[Pk.lst [Kd.bool,Kd.lst [Kd.int .u32]],Pk.int .i64]
abbrev Zbaq:List Pk:=[Pk.own Ziq [Kd.bool,Kd.lst [Kd.int .u32]]]
def Zbfq (out5:List (Bool×List UInt32)) (x14:Bool×List UInt32) (x9:List (Bool×List UInt32)) (x11:Int) (next3:(Int×List (Bool×List UInt32)×Int×Unit)->Prop) (j0:Int) (j3:List UInt32) (K:List (Bool×List UInt32)->Prop):Prop:=
 out5.length+([(x14.1,j3)]:List (Bool×List UInt32)).length <= 4398046511008∧
 next3 (j0,(out5++([(x14.1,j3)]:List (Bool×List UInt32))),(IntKind.wrap .i64 (x11+1)),())
def Zbsf (x9:List (Bool×List UInt32)) (n1_1:Int) (out5:List (Bool×List UInt32)) (x11:Int) (next3:(Int×List (Bool×List UInt32)×Int×Unit)->Prop) (K:List (Bool×List UInt32)->Prop):Prop:=
 IfB (decide ((x11:Int)<(x9.length:Int)))
 ((0:Int) <= x11∧x11<(x9.length:Int)∧
 AtN x9 x11.toNat fun x14=>
 WfT Zdf x14->
 IfB (decide ((n1_1:Int) <= 0))
 (K out5)
 (IfB x14.1
 (Zbfq out5 x14 x9 x11 next3 (IntKind.wrap .i64 (n1_1 - 1)) x14.2 K)
 ((0:Int) <= (min n1_1 (x14.2.length:Int))∧(min n1_1 (x14.2.length:Int)) <= (x14.2.length:Int)∧
 Zbfq out5 x14 x9 x11 next3 (IntKind.wrap .i64 (n1_1 - ((x14.2.take ((min n1_1 (x14.2.length:Int)).toNat)).length:Int))) (x14.2.take ((min n1_1 (x14.2.length:Int)).toNat)) K)))
 (K out5)
def Zbbh (p0:List (Bool×List UInt32)) (n1:Int) (K:List (Bool×List UInt32)->Prop):Prop:=
 (WfPs Znz (p0,())->
 Zpg p0 (fun x9=>
 WfPs Zom (x9,())->
 Zl (Int×List (Bool×List UInt32)×Int×Unit) (n1,([]:List (Bool×List UInt32)),(0:Int),()) fun y next=>
 WfY Zckf.kinds y->
 Zbsf x9 y.1 y.2.1 y.2.2.1 next K))
noncomputable def Zczm:Tab:=⟨[(Zro,Zbpd)],[]⟩
abbrev Zbtr (x:PkTs Zbdj) (K:PkTs Zbaq->Prop):Prop:=Zbbh x.1 x.2.1 (fun r0=>K (r0,()))
theorem Zdpe:FnQ Tryz.prog Zbfa Zbdj Zbaq Zbtr:=(Zm Zdml (tab:=Zczm) ⟨⟨Zbsa,trivial⟩,trivial⟩ rfl).of_eq (by kernel_rfl)
noncomputable def Zbxx:Ct:=Zbq Zbdj Zbaq Zbtr
theorem Zcub:Zk Tryz.prog Zbfa Zbxx:=Zbt Zdpe
def Zcrn:PPlan:=⟨[],[],[25],[],[],[]⟩
theorem Zddr:Known Tryz.prog Zbcc Tryz.f118 Zcrn.plan (Zg Tryz.f118):=by refine ⟨Tryz.func118,?_,?_,?_,?_,?_⟩<;>kernel_rfl
abbrev Zzu:List Pk:=[Pk.nil,Pk.int .i64]
abbrev Zym:List Pk:=[Pk.own Zdm [Kd.int .u32]]
def Zyf (n1:Int) (K:List UInt32->Prop):Prop:=
 IfB (decide ((n1:Int)<0))
 (False)
 (IfB (decide (((IntKind.wrap .i64 (n1 - (IntKind.wrap .i64 (0 - 0)))):Int)>0))
 ((0:Int) <= 0∧0 <= (0:Int)∧
 (0:Int)<(IntKind.wrap .i64 (n1 - (IntKind.wrap .i64 (0 - 0))))∧(IntKind.wrap .i64 (n1 - (IntKind.wrap .i64 (0 - 0)))) <= 1000000000∧
 (0:Int) <= 0∧0 <= ((List.replicate (IntKind.wrap .i64 (n1 - (IntKind.wrap .i64 (0 - 0)))).toNat ((ofI .u32 0):UInt32)).length:Int)∧
 K ((List.replicate (IntKind.wrap .i64 (n1 - (IntKind.wrap .i64 (0 - 0)))).toNat ((ofI .u32 0):UInt32)).take 0))
 (K ([]:List UInt32)))
noncomputable def Zcuk:Tab:=⟨[],[]⟩
abbrev Zbvv (x:PkTs Zzu) (K:PkTs Zym->Prop):Prop:=Zyf x.2.1 (fun r0=>K (r0,()))
theorem Zdgb:FnQ Tryz.prog Zbcc Zzu Zym Zbvv:=(Zm Zddr (tab:=Zcuk) ⟨trivial,trivial⟩ rfl).of_eq (by kernel_rfl)
noncomputable def Zchz:Ct:=Zbq Zzu Zym Zbvv
theorem Zdld:Zk Tryz.prog Zbcc Zchz:=Zbt Zdgb
def Zcai:PLoop:=⟨[(3,PK.int .i64),(11,PK.int .i64)],[0,9,10],[]⟩
def Zccc:PLoop:=⟨[(6,PK.row Zdm [Kd.int .u32]),(27,PK.int .i64)],[25,26],[]⟩
def Zcta:PPlan:=⟨[],[(3,Zcai),(11,Zccc)],[],[],[],[]⟩
theorem Zdgo:Known Tryz.prog Zbfo Tryz.f109 Zcta.plan (Zg Tryz.f109):=by refine ⟨Tryz.func109,?_,?_,?_,?_,?_⟩<;>kernel_rfl
abbrev Zwz:List Pk:=[Pk.lst [Kd.lst [Kd.int .u32]]]
abbrev Zbgj:List Pk:=[Pk.own Zdm [Kd.int .u32]]
def Zbpv (slices0:List (List UInt32)) (newslice6:List UInt32) (x27:Int) (next11:(List UInt32×Int×Unit)->Prop) (K:List UInt32->Prop):Prop:=
 IfB (decide ((x27:Int)<(slices0.length:Int)))
 ((0:Int) <= x27∧AtN slices0 x27.toNat fun x29=>
 WfT Zbux x29->
 newslice6.length+x29.length <= 35184372088736∧
 next11 ((newslice6++x29),(IntKind.wrap .i64 (x27+1)),()))
 (K newslice6)
def Zboy (slices0:List (List UInt32)) (size3:Int) (x11:Int) (next3:(Int×Int×Unit)->Prop) (K:List UInt32->Prop):Prop:=
 IfB (decide ((x11:Int)<(slices0.length:Int)))
 ((0:Int) <= x11∧AtN slices0 x11.toNat fun x13=>
 WfT Zbux x13->
 IfB (decide (((IntKind.wrap .i64 (size3+(x13.length:Int))):Int)<0))
 (False)
 (next3 ((IntKind.wrap .i64 (size3+(x13.length:Int))),(IntKind.wrap .i64 (x11+1)),())))
 ((WfPs Zzu ((),size3,())->
 Zyf size3 (fun x24=>
 WfPs Zym (x24,())->
 Zl (List UInt32×Int×Unit) (x24,(0:Int),()) fun y next=>
 WfY Zccc.kinds y->
 Zbpv slices0 y.1 y.2.1 next K)))
def Zbgx (slices0:List (List UInt32)) (K:List UInt32->Prop):Prop:=
 Zl (Int×Int×Unit) ((0:Int),(0:Int),()) fun y next=>
 WfY Zcai.kinds y->
 Zboy slices0 y.1 y.2.1 next K
noncomputable def Zdfm:Tab:=⟨[(Zbcc,Zchz)],[]⟩
abbrev Zccj (x:PkTs Zwz) (K:PkTs Zbgj->Prop):Prop:=Zbgx x.1 (fun r0=>K (r0,()))
theorem Zdbw:FnQ Tryz.prog Zbfo Zwz Zbgj Zccj:=(Zm Zdgo (tab:=Zdfm) ⟨⟨Zdld,trivial⟩,trivial⟩ rfl).of_eq (by kernel_rfl)
noncomputable def Zbul:Ct:=Zbq Zwz Zbgj Zccj
theorem Zdor:Zk Tryz.prog Zbfo Zbul:=Zbt Zdbw
theorem Zddp:Known Tryz.prog Zbge Tryz.f85 Zdi.plan (Zg Tryz.f85):=by refine ⟨Tryz.func85,?_,?_,?_,?_,?_⟩<;>kernel_rfl
abbrev Zcdy:List Pk:=[Pk.lst [Kd.bool,Kd.lst [Kd.int .u32]],Pk.lst [Kd.bool,Kd.lst [Kd.int .u32]]]
abbrev Zcaz:List Pk:=[Pk.lst [Kd.bool,Kd.lst [Kd.int .u32]]]
def Zyl (j0:List (Bool×List UInt32)) (j1:List (Bool×List UInt32)) (K:List (Bool×List UInt32)->Prop):Prop:=
 j0.length+j1.length <= 4398046511008∧
 K (j0++j1)
def Zlw (x20:List (Bool×List UInt32)) (x22:List (Bool×List UInt32)) (j3:Bool) (K:List (Bool×List UInt32)->Prop):Prop:=
 IfB j3
 ((0:Int) <= (IntKind.wrap .i64 ((x20.length:Int) - 1))∧(IntKind.wrap .i64 ((x20.length:Int) - 1))<(x20.length:Int)∧
 AtN x20 ((IntKind.wrap .i64 ((x20.length:Int) - 1)).toNat) fun x54=>
 WfT Zdf x54->
 (0:Int) <= 0∧0<(x22.length:Int)∧
 AtN x22 0 fun x58=>
 WfT Zdf x58->
 (WfPs Zwz (([x54.2,x58.2]:List (List UInt32)),())->
 Zbgx ([x54.2,x58.2]:List (List UInt32)) (fun x60=>
 WfPs Zbgj (x60,())->
 (0:Int) <= (IntKind.wrap .i64 ((x20.length:Int) - 1))∧(IntKind.wrap .i64 ((x20.length:Int) - 1))<(x20.length:Int)∧
 AtN x20 ((IntKind.wrap .i64 ((x20.length:Int) - 1)).toNat) fun el=>
 WfT Zdf el->
 (0:Int) <= 1∧1 <= (x22.length:Int)∧
 Zyl (x20.set ((IntKind.wrap .i64 ((x20.length:Int) - 1)).toNat) (el.1,x60)) (x22.drop 1) K)))
 (Zyl x20 x22 K)
def Zbmt (two0:List (Bool×List UInt32)) (four1:List (Bool×List UInt32)) (K:List (Bool×List UInt32)->Prop):Prop:=
 (WfPs Zuq (two0,())->
 Zti two0 (fun x10=>
 WfPs Zsq (x10,())->
 (WfPs Zuq (four1,())->
 Zti four1 (fun x12=>
 WfPs Zsq (x12,())->
 IfB (decide (((IntKind.wrap .i64 (x10 - x12)):Int)<0))
 ((WfPs Znz (two0,())->
 Zpg two0 (fun x17=>
 WfPs Zom (x17,())->
 K x17)))
 ((WfPs Zbdj (two0,(IntKind.wrap .i64 (x10 - x12)),())->
 Zbbh two0 (IntKind.wrap .i64 (x10 - x12)) (fun x20=>
 WfPs Zbaq (x20,())->
 (WfPs Znz (four1,())->
 Zpg four1 (fun x22=>
 WfPs Zom (x22,())->
 IfB (decide (((IntKind.wrap .i64 ((x20.length:Int) - 1)):Int)≥0))
 (IfB (decide (((x22.length:Int):Int)>0))
 ((0:Int) <= (IntKind.wrap .i64 ((x20.length:Int) - 1))∧(IntKind.wrap .i64 ((x20.length:Int) - 1))<(x20.length:Int)∧
 AtN x20 ((IntKind.wrap .i64 ((x20.length:Int) - 1)).toNat) fun x38=>
 WfT Zdf x38->
 IfB (!x38.1)
 ((0:Int) <= 0∧0<(x22.length:Int)∧
 AtN x22 0 fun x45=>
 WfT Zdf x45->
 Zlw x20 x22 (!x45.1) K)
 (Zlw x20 x22 false K))
 (Zlw x20 x22 false K))
 (Zlw x20 x22 false K))))))))))
noncomputable def Zdgs:Tab:=⟨[(Zbcr,Zckp),(Zro,Zbpd),(Zbfa,Zbxx),(Zbfo,Zbul)],[]⟩
abbrev Zdmf (x:PkTs Zcdy) (K:PkTs Zcaz->Prop):Prop:=Zbmt x.1 x.2.1 (fun r0=>K (r0,()))
theorem Zcte:FnQ Tryz.prog Zbge Zcdy Zcaz Zdmf:=(Zm Zddp (tab:=Zdgs) ⟨⟨Zdhg,Zbsa,Zcub,Zdor,trivial⟩,trivial⟩ rfl).of_eq (by kernel_rfl)
theorem Zcnm:Known Tryz.prog Zbbd Tryz.f53 Zdi.plan (Zg Tryz.f53):=by refine ⟨Tryz.func53,?_,?_,?_,?_,?_⟩<;>kernel_rfl
abbrev Zcin:List Pk:=[Pk.lst [Kd.int .u8]]
abbrev Zbxd:List Pk:=[Pk.agg [Kd.int .u8,Kd.int .i64,Kd.lst [Kd.int .u8],Kd.int .i64],Pk.bool]
def Zcey (K:(UInt8×Int×List UInt8×Int)->Bool->Prop):Prop:=
 K ((ofI .u8 0),0,([]:List UInt8),0) false
def Zcaa (K:(UInt8×Int×List UInt8×Int)->Bool->Prop):Prop:=
 Zcey K
def Zbev (b0:List UInt8) (j5:Int) (j6:Int) (K:(UInt8×Int×List UInt8×Int)->Bool->Prop):Prop:=
 IfB (decide ((j6:Int) <= (IntKind.wrap .i64 ((b0.length:Int) - j5))))
 ((0:Int) <= 0∧AtN b0 0 fun x37=>
 WfT Zcw x37->
 (0:Int) <= 1∧AtN b0 1 fun x41=>
 WfT Zcw x41->
 (0:Int) <= (IntKind.wrap .i64 (j5+j6))∧(IntKind.wrap .i64 (j5+j6)) <= (b0.length:Int)∧
 (0:Int) <= j5∧j5 <= ((IntKind.wrap .i64 (j5+j6)).toNat:Int)∧
 K ((ofI .u8 (Zhq .u8 (x37.toNat:Int) 192)),(IntKind.wrap .i64 (x41.toNat:Int)),((b0.take ((IntKind.wrap .i64 (j5+j6)).toNat)).drop j5.toNat),(IntKind.wrap .i64 (j5+j6))) true)
 (Zcey K)
def Zbnq (b0:List UInt8) (K:(UInt8×Int×List UInt8×Int)->Bool->Prop):Prop:=
 IfB (decide (((b0.length:Int):Int)<3))
 (Zcaa K)
 ((0:Int) <= 2∧AtN b0 2 fun x11=>
 WfT Zcw x11->
 (0:Int) <= 0∧AtN b0 0 fun x15=>
 WfT Zcw x15->
 IfB (((Zhq .u8 (x15.toNat:Int) 16):Int) !=0)
 (IfB (decide (((b0.length:Int):Int)<4))
 (Zcaa K)
 ((0:Int) <= 8∧
 (0:Int) <= 3∧AtN b0 3 fun x26=>
 WfT Zcw x26->
 Zbev b0 4 (Zbz .i64 (IntKind.wrap .i64 ((IntKind.wrap .i64 (x11.toNat:Int))*256)) (IntKind.wrap .i64 (x26.toNat:Int))) K))
 (Zbev b0 3 (IntKind.wrap .i64 (x11.toNat:Int)) K))
noncomputable def Zdkw:Tab:=⟨[],[]⟩
abbrev Zcxy (x:PkTs Zcin) (K:PkTs Zbxd->Prop):Prop:=Zbnq x.1 (fun r0 r1=>K (r0,r1,()))
theorem Zcsx:FnQ Tryz.prog Zbbd Zcin Zbxd Zcxy:=(Zm Zcnm (tab:=Zdkw) ⟨trivial,trivial⟩ rfl).of_eq (by kernel_rfl)
theorem Zdhq:Known Tryz.prog Zhc Tryz.f84 Zdi.plan (Zg Tryz.f84):=by refine ⟨Tryz.func84,?_,?_,?_,?_,?_⟩<;>kernel_rfl
abbrev Zbxp:List Pk:=[Pk.lst [Kd.int .u8]]
abbrev Zcfx:List Pk:=[Pk.int .u32]
def Zbir (b0:List UInt8) (K:Int->Prop):Prop:=
 (0:Int) <= 0∧AtN b0 0 fun x4=>
 WfT Zcw x4->
 (0:Int) <= 24∧
 (0:Int) <= 1∧AtN b0 1 fun x9=>
 WfT Zcw x9->
 (0:Int) <= 16∧
 (0:Int) <= 2∧AtN b0 2 fun x15=>
 WfT Zcw x15->
 (0:Int) <= 8∧
 (0:Int) <= 3∧AtN b0 3 fun x21=>
 WfT Zcw x21->
 K (Zbz .u32 (Zbz .u32 (Zbz .u32 (IntKind.wrap .u32 ((IntKind.wrap .u32 (x4.toNat:Int))*16777216)) (IntKind.wrap .u32 ((IntKind.wrap .u32 (x9.toNat:Int))*65536))) (IntKind.wrap .u32 ((IntKind.wrap .u32 (x15.toNat:Int))*256))) (IntKind.wrap .u32 (x21.toNat:Int)))
noncomputable def Zdco:Tab:=⟨[],[]⟩
abbrev Zcrv (x:PkTs Zbxp) (K:PkTs Zcfx->Prop):Prop:=Zbir x.1 (fun r0=>K (r0,()))
theorem Zcoj:FnQ Tryz.prog Zhc Zbxp Zcfx Zcrv:=(Zm Zdhq (tab:=Zdco) ⟨trivial,trivial⟩ rfl).of_eq (by kernel_rfl)
theorem Zcph:Known Tryz.prog Zlp Tryz.f51 Zdi.plan (Zg Tryz.f51):=by refine ⟨Tryz.func51,?_,?_,?_,?_,?_⟩<;>kernel_rfl
abbrev Zud:List Pk:=[Pk.lst [Kd.int .u8]]
abbrev Zqj:List Pk:=[Pk.lst [Kd.int .u8]]
def Zvy (s0:List UInt8) (K:List UInt8->Prop):Prop:=
 ∀isnil:Bool,(isnil=true->s0.length=0)->
 IfB isnil
 (K ([]:List UInt8))
 (([]:List UInt8).length+s0.length <= 140737488355232∧
 K (([]:List UInt8)++s0))
noncomputable def Zcwy:Tab:=⟨[],[]⟩
abbrev Zcfw (x:PkTs Zud) (K:PkTs Zqj->Prop):Prop:=Zvy x.1 (fun r0=>K (r0,()))
theorem Zcfk:FnQ Tryz.prog Zlp Zud Zqj Zcfw:=(Zm Zcph (tab:=Zcwy) ⟨trivial,trivial⟩ rfl).of_eq (by kernel_rfl)
noncomputable def Zbsx:Ct:=Zbq Zud Zqj Zcfw
theorem Zdjn:Zk Tryz.prog Zlp Zbsx:=Zbt Zcfk
end Go.Proofs.YthhcfdpoiganhaaGreat
end
