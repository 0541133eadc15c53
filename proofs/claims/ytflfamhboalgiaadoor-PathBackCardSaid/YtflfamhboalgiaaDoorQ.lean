/-
  EACH FUNCTION OVER PLAIN DATA: printed by a program of ours over this translation.
-/
import Derived.Test.YtflfamhboalgiaaDoorBA
import Derived.Test.YtflfamhboalgiaaDoorSG
set_option linter.all false
set_option maxRecDepth 100000
set_option maxHeartbeats 4000000
namespace Go.Proofs.YtflfamhboalgiaaDoor
open Go.Sh
abbrev Zbcf : PPlan := ⟨[], [], [], [], [], []⟩
theorem Zcge : Known Tryd.prog Zit Tryd.f14 Zbcf.plan (Zd Tryd.f14) := by refine ⟨Tryd.func14, ?_, ?_, ?_, ?_, ?_⟩ <;> kernel_rfl
abbrev Zjx : List Pk := []
abbrev Ziy : List Pk := [Pk.bool]
def Zjp  (K : Bool -> Prop) : Prop :=
 (WfPs Zok (([54, 53, 48, 48, 49, 32, 54, 53, 48, 48, 50, 32, 123, 49, 32, 50, 125] : List UInt8), ()) ->
 Zkb ([54, 53, 48, 48, 49, 32, 54, 53, 48, 48, 50, 32, 123, 49, 32, 50, 125] : List UInt8) (fun x8r0 x8r1 =>
 WfPs Zmk (x8r0, x8r1, ()) ->
 (WfPs Zrc (x8r0, (7 : Int), (2 : Int), ()) ->
 Zpk x8r0 (7 : Int) (2 : Int) (fun x13r0 x13r1 =>
 WfPs Zpp (x13r0, x13r1, ()) ->
 (WfPs Zkp (x13r0, ()) ->
 Zme x13r0 (fun x18r0 x18r1 =>
 WfPs Zkz (x18r0, x18r1, ()) ->
 IfB ((x8r1 : Int) == 0)
 ((WfPs Zfi (x8r0, ()) ->
 Zgb x8r0 (fun x25 =>
 WfPs Zfp (x25, ()) ->
 IfB ((x25 : Int) == 3)
 (IfB ((x13r1 : Int) == 0)
 (IfB ((x18r1 : Int) == 0)
 (K (x18r0 == ([55, 32, 55, 32, 54, 53, 48, 48, 49, 32, 54, 53, 48, 48, 50, 32, 123, 49, 32, 50, 125] : List UInt8)))
 (K false))
 (K false))
 (K false))))
 (K false)))))))
noncomputable def Zcdd : Tab := ⟨[(Zlq, Zva), (Zke, Zue), (Zjw, Zvs), (Zml, Ztw)], []⟩
abbrev Zbqn (x : PkTs Zjx) (K : PkTs Ziy -> Prop) : Prop := Zjp  (fun r0 => K (r0, ()))
theorem Zcts : FnQ Tryd.prog Zit Zjx Ziy Zbqn := (Zbd Zcge (tab := Zcdd) ⟨⟨Zbik, Zzx, Zbfo, Zzv, trivial⟩, trivial⟩ rfl).of_eq (by kernel_rfl)
noncomputable def Znz : Ct := ctRd Zjx Ziy Zbqn
theorem Zsh : Zz Tryd.prog Zit Znz := Zcv Zcts
def Zchi : PPlan := ⟨[(1, [0, 2, 3, 4, 5, 6, 1, 7, 8], [])], [], [], [], [], []⟩
theorem Zcms : Known Tryd.prog Zbpg Tryd.f5 Zchi.plan (Zd Tryd.f5) := by refine ⟨Tryd.func5, ?_, ?_, ?_, ?_, ?_⟩ <;> kernel_rfl
abbrev Zbiq : List Pk := [Pk.lst [Kd.bool, Kd.lst [Kd.int .u32]], Pk.lst [Kd.int .u8], Pk.bool]
abbrev Zbtz : List Pk := [Pk.bool]
def Zbgg (p0 : List (Bool × List UInt32)) (b1 : List UInt8) (four2 : Bool) (K : Bool -> Prop) : Prop :=
 (0 : Int) <= (min (b1.length : Int) 400) ∧ (min (b1.length : Int) 400) <= (b1.length : Int) ∧
 (WfPs Zdy (p0, ()) ->
 Zeh p0 (fun x16 =>
 WfPs Zec (x16, ()) ->
 (WfPs Zdy (x16, ()) ->
 Zeh x16 (fun x24 =>
 WfPs Zec (x24, ()) ->
 (WfPs Zla (x24, four2, ()) ->
 Znw x24 four2 (fun x26r0 x26r1 =>
 WfPs Zle (x26r0, x26r1, ()) ->
 (WfPs Zpq (x16, four2, ()) ->
 Zub x16 four2 (fun x32r0 x32r1 =>
 WfPs Zrj (x32r0, x32r1, ()) ->
 (WfPs Zqz ((b1.take ((min (b1.length : Int) 400).toNat)), ()) ->
 Zbbu (b1.take ((min (b1.length : Int) 400).toNat)) (fun x37 =>
 WfPs Ztg (x37, ()) ->
 (WfPs Zkq (x37, four2, ()) ->
 Zmc x37 four2 (fun x39r0 x39r1 =>
 WfPs Zkv (x39r0, x39r1, ()) ->
 (WfPs Zrx ((b1.take ((min (b1.length : Int) 400).toNat)), four2, ()) ->
 Zvy (b1.take ((min (b1.length : Int) 400).toNat)) four2 (fun x45r0 x45r1 =>
 WfPs Zte (x45r0, x45r1, ()) ->
 (WfPs Zdy (x16, ()) ->
 Zeh x16 (fun x49 =>
 WfPs Zec (x49, ()) ->
 (WfPs Zib (x49, ()) ->
 Zjc x49 (fun x50 =>
 WfPs Zig (x50, ()) ->
 (WfPs Zin (x16, ()) ->
 Zjv x16 (fun x52 =>
 WfPs Zhu (x52, ()) ->
 IfB ((x50 : Int) == x52)
 ((WfPs Znt (x26r0, x32r0, ()) ->
 Zsz x26r0 x32r0 (fun x57 =>
 WfPs Zmx (x57, ()) ->
 IfB x57
 (IfB ((x26r1 : Int) == x32r1)
 ((WfPs Zhj (x39r0, x45r0, ()) ->
 Zhc x39r0 x45r0 (fun x67 =>
 WfPs Zhn (x67, ()) ->
 IfB x67
 (IfB ((x39r1 : Int) == x45r1)
 ((WfPs Zjx (()) ->
 Zjp  (fun x75 =>
 WfPs Ziy (x75, ()) ->
 K x75)))
 (K false))
 (K false))))
 (K false))
 (K false))))
 (K false)))))))))))))))))))))
noncomputable def Zcph : Tab := ⟨[(Zjo, Zmu), (Zkn, Zqg), (Zit, Znz), (Zth, Zbhv), (Zvh, Zbol), (Zrf, Zbjb), (Zwg, Zbpo), (Zww, Zboc), (Zgv, Zof), (Zht, Zlx), (Zsq, Zbao)], []⟩
abbrev Zchk (x : PkTs Zbiq) (K : PkTs Zbtz -> Prop) : Prop := Zbgg x.1 x.2.1 x.2.2.1 (fun r0 => K (r0, ()))
theorem Zclt : FnQ Tryd.prog Zbpg Zbiq Zbtz Zchk := (Zbd Zcms (tab := Zcph) ⟨⟨Zou, Zwb, Zsh, Zbql, Zchy, Zbvo, Zchw, Zcra, Zsx, Ztd, Zbnl, trivial⟩, trivial⟩ rfl).of_eq (by kernel_rfl)
theorem Zcuk : Known Tryd.prog Zbmz Tryd.f4 Zbcf.plan (Zd Tryd.f4) := by refine ⟨Tryd.func4, ?_, ?_, ?_, ?_, ?_⟩ <;> kernel_rfl
abbrev Zps : List Pk := [Pk.lst [Kd.bool, Kd.lst [Kd.int .u32]], Pk.lst [Kd.bool, Kd.lst [Kd.int .u32]], Pk.int .u32, Pk.int .i64]
abbrev Zbye : List Pk := [Pk.bool]
def Zws (p0 : List (Bool × List UInt32)) (q1 : List (Bool × List UInt32)) (as2 : Int) (n3 : Int) (K : Bool -> Prop) : Prop :=
 (WfPs Zdy (p0, ()) ->
 Zeh p0 (fun x14 =>
 WfPs Zec (x14, ()) ->
 (WfPs Zdy (q1, ()) ->
 Zeh q1 (fun x16 =>
 WfPs Zec (x16, ()) ->
 (WfPs Zdy (x14, ()) ->
 Zeh x14 (fun x19 =>
 WfPs Zec (x19, ()) ->
 (WfPs Zrc (x19, as2, n3, ()) ->
 Zpk x19 as2 n3 (fun x22r0 x22r1 =>
 WfPs Zpp (x22r0, x22r1, ()) ->
 (WfPs Zsa (x14, as2, n3, ()) ->
 Zuq x14 as2 n3 (fun x29r0 x29r1 =>
 WfPs Zqm (x29r0, x29r1, ()) ->
 (WfPs Zhj (x22r0, x29r0, ()) ->
 Zhc x22r0 x29r0 (fun x34 =>
 WfPs Zhn (x34, ()) ->
 IfB x34
 (IfB ((x22r1 : Int) == x29r1)
 ((WfPs Zdy (x14, ()) ->
 Zeh x14 (fun x42 =>
 WfPs Zec (x42, ()) ->
 (WfPs Zdy (x16, ()) ->
 Zeh x16 (fun x44 =>
 WfPs Zec (x44, ()) ->
 (WfPs Zni (x42, x44, ()) ->
 Zsf x42 x44 (fun x45 =>
 WfPs Zog (x45, ()) ->
 (WfPs Zbch (x14, x16, ()) ->
 Zbew x14 x16 (fun x48 =>
 WfPs Zbcc (x48, ()) ->
 (WfPs Zhj (x45, x48, ()) ->
 Zhc x45 x48 (fun x49 =>
 WfPs Zhn (x49, ()) ->
 IfB x49
 ((WfPs Zjx (()) ->
 Zjp  (fun x52 =>
 WfPs Ziy (x52, ()) ->
 K x52)))
 (K false))))))))))))
 (K false))
 (K false)))))))))))))
noncomputable def Zcis : Tab := ⟨[(Zjo, Zmu), (Zkn, Zqg), (Zit, Znz), (Zjw, Zvs), (Zyd, Zbsq), (Zrk, Zbda), (Znx, Zbuv)], []⟩
abbrev Zchc (x : PkTs Zps) (K : PkTs Zbye -> Prop) : Prop := Zws x.1 x.2.1 x.2.2.1 x.2.2.2.1 (fun r0 => K (r0, ()))
theorem Zcea : FnQ Tryd.prog Zbmz Zps Zbye Zchc := (Zbd Zcuk (tab := Zcis) ⟨⟨Zou, Zwb, Zsh, Zbfo, Zcaf, Zbzo, Zcjl, trivial⟩, trivial⟩ rfl).of_eq (by kernel_rfl)
theorem Zckf : Known Tryd.prog Zbva Tryd.f7 Zbcf.plan (Zd Tryd.f7) := by refine ⟨Tryd.func7, ?_, ?_, ?_, ?_, ?_⟩ <;> kernel_rfl
abbrev Ztk : List Pk := [Pk.lst [Kd.bool, Kd.lst [Kd.int .u32]], Pk.lst [Kd.bool, Kd.lst [Kd.int .u32]], Pk.int .u32, Pk.int .i64]
abbrev Zbpq : List Pk := [Pk.bool]
def Zxa (x20 : List (Bool × List UInt32)) (x22 : List (Bool × List UInt32)) (K : Bool -> Prop) : Prop :=
 (WfPs Zfi (x20, ()) ->
 Zgb x20 (fun x88 =>
 WfPs Zfp (x88, ()) ->
 (WfPs Zfi (x22, ()) ->
 Zgb x22 (fun x90 =>
 WfPs Zfp (x90, ()) ->
 IfB (decide ((x88 : Int) < x90))
 (K true)
 ((WfPs Zni (x20, x22, ()) ->
 Zsf x20 x22 (fun x95 =>
 WfPs Zog (x95, ()) ->
 (WfPs Zfi (x95, ()) ->
 Zgb x95 (fun x96 =>
 WfPs Zfp (x96, ()) ->
 (WfPs Zfi (x20, ()) ->
 Zgb x20 (fun x98 =>
 WfPs Zfp (x98, ()) ->
 K ((x96 : Int) == x98))))))))))))
def Zem (x20 : List (Bool × List UInt32)) (x22 : List (Bool × List UInt32)) (j2 : Bool) (K : Bool -> Prop) : Prop :=
 IfB j2
 (K false)
 (Zxa x20 x22 K)
def Zvg (p0 : List (Bool × List UInt32)) (q1 : List (Bool × List UInt32)) (as2 : Int) (n3 : Int) (K : Bool -> Prop) : Prop :=
 (WfPs Zjx (()) ->
 Zjp  (fun x17 =>
 WfPs Ziy (x17, ()) ->
 IfB (!x17)
 (K false)
 ((WfPs Zdy (p0, ()) ->
 Zeh p0 (fun x20 =>
 WfPs Zec (x20, ()) ->
 (WfPs Zdy (q1, ()) ->
 Zeh q1 (fun x22 =>
 WfPs Zec (x22, ()) ->
 (WfPs Zpr (n3, (40 : Int), ()) ->
 Zuu n3 (40 : Int) (fun x24 =>
 WfPs Zpo (x24, ()) ->
 (WfPs Zrc (x20, as2, x24, ()) ->
 Zpk x20 as2 x24 (fun x29r0 x29r1 =>
 WfPs Zpp (x29r0, x29r1, ()) ->
 IfB ((x29r1 : Int) == 0)
 ((WfPs Zox (x29r0, ()) ->
 Zpc x29r0 (fun x36r0 x36r1 =>
 WfPs Zqn (x36r0, x36r1, ()) ->
 (WfPs Zmf (x20, ()) ->
 Zlt x20 (fun x41r0 x41r1 =>
 WfPs Znp (x41r0, x41r1, ()) ->
 (WfPs Zmf (x29r0, ()) ->
 Zlt x29r0 (fun x46r0 x46r1 =>
 WfPs Znp (x46r0, x46r1, ()) ->
 (WfPs Zfi (x29r0, ()) ->
 Zgb x29r0 (fun x50 =>
 WfPs Zfp (x50, ()) ->
 (WfPs Zfi (x20, ()) ->
 Zgb x20 (fun x52 =>
 WfPs Zfp (x52, ()) ->
 IfB ((x50 : Int) != (IntKind.wrap .i64 (x52 + x24)))
 (Zem x20 x22 true K)
 (IfB (decide ((x24 : Int) > 0))
 (IfB (!x36r1)
 (Zem x20 x22 true K)
 (IfB ((x36r0 : Int) != as2)
 (Zem x20 x22 true K)
 ((WfPs Zbil (x29r0, as2, ()) ->
 Zbem x29r0 as2 (fun x70 =>
 WfPs Zbeo (x70, ()) ->
 IfB (!x70)
 (Zem x20 x22 true K)
 (IfB x41r1
 (IfB (!x46r1)
 (Zem x20 x22 true K)
 (Zem x20 x22 ((x41r0 : Int) != x46r0) K))
 (Zem x20 x22 false K)))))))
 (IfB x41r1
 (IfB (!x46r1)
 (Zem x20 x22 true K)
 (Zem x20 x22 ((x41r0 : Int) != x46r0) K))
 (Zem x20 x22 false K))))))))))))))
 (Zxa x20 x22 K))))))))))))
noncomputable def Zcgc : Tab := ⟨[(Zjo, Zmu), (Zit, Znz), (Zjw, Zvs), (Zrk, Zbda), (Zye, Zbpu), (Zyi, Zbmf), (Zwa, Zble), (Zml, Ztw), (Znv, Zbve)], []⟩
abbrev Zbzy (x : PkTs Ztk) (K : PkTs Zbpq -> Prop) : Prop := Zvg x.1 x.2.1 x.2.2.1 x.2.2.2.1 (fun r0 => K (r0, ()))
theorem Zclc : FnQ Tryd.prog Zbva Ztk Zbpq Zbzy := (Zbd Zckf (tab := Zcgc) ⟨⟨Zou, Zsh, Zbfo, Zbzo, Zcmx, Zcnv, Zceq, Zzv, Zccl, trivial⟩, trivial⟩ rfl).of_eq (by kernel_rfl)
def Zcko : PPlan := ⟨[(1, [0, 2, 3, 4, 5, 6, 1, 7, 8], [])], [], [], [], [], []⟩
theorem Zcle : Known Tryd.prog Zbyk Tryd.f3 Zcko.plan (Zd Tryd.f3) := by refine ⟨Tryd.func3, ?_, ?_, ?_, ?_, ?_⟩ <;> kernel_rfl
abbrev Zbdb : List Pk := [Pk.lst [Kd.bool, Kd.lst [Kd.int .u32]], Pk.str]
abbrev Zbnk : List Pk := [Pk.bool]
def Zbcx (p0 : List (Bool × List UInt32)) (s1 : List UInt8) (K : Bool -> Prop) : Prop :=
 (0 : Int) <= (min (s1.length : Int) 200) ∧ (min (s1.length : Int) 200) <= (s1.length : Int) ∧
 (WfPs Zdy (p0, ()) ->
 Zeh p0 (fun x14 =>
 WfPs Zec (x14, ()) ->
 (WfPs Zdy (x14, ()) ->
 Zeh x14 (fun x22 =>
 WfPs Zec (x22, ()) ->
 (WfPs Zkp (x22, ()) ->
 Zme x22 (fun x23r0 x23r1 =>
 WfPs Zkz (x23r0, x23r1, ()) ->
 (WfPs Zrn (x14, ()) ->
 Zxj x14 (fun x28r0 x28r1 =>
 WfPs Ztl (x28r0, x28r1, ()) ->
 (WfPs Zok ((s1.take ((min (s1.length : Int) 200).toNat)), ()) ->
 Zkb (s1.take ((min (s1.length : Int) 200).toNat)) (fun x33r0 x33r1 =>
 WfPs Zmk (x33r0, x33r1, ()) ->
 (WfPs Zbir ((s1.take ((min (s1.length : Int) 200).toNat)), ()) ->
 Zbat (s1.take ((min (s1.length : Int) 200).toNat)) (fun x38r0 x38r1 =>
 WfPs Zbii (x38r0, x38r1, ()) ->
 IfB (x23r0 == x28r0)
 (IfB ((x23r1 : Int) == x28r1)
 ((WfPs Zhj (x33r0, x38r0, ()) ->
 Zhc x33r0 x38r0 (fun x52 =>
 WfPs Zhn (x52, ()) ->
 IfB x52
 (IfB ((x33r1 : Int) == x38r1)
 ((WfPs Zjx (()) ->
 Zjp  (fun x60 =>
 WfPs Ziy (x60, ()) ->
 K x60)))
 (K false))
 (K false))))
 (K false))
 (K false)))))))))))))
noncomputable def Zcni : Tab := ⟨[(Zjo, Zmu), (Zlq, Zva), (Zvl, Zbjf), (Zke, Zue), (Zmd, Zbyj), (Zkn, Zqg), (Zit, Znz)], []⟩
abbrev Zcbo (x : PkTs Zbdb) (K : PkTs Zbnk -> Prop) : Prop := Zbcx x.1 x.2.1 (fun r0 => K (r0, ()))
theorem Zctk : FnQ Tryd.prog Zbyk Zbdb Zbnk Zcbo := (Zbd Zcle (tab := Zcni) ⟨⟨Zou, Zbik, Zcom, Zzx, Zcar, Zwb, Zsh, trivial⟩, trivial⟩ rfl).of_eq (by kernel_rfl)
def Zblj : PLoop := ⟨[(15, PK.bool), (16, PK.int .i64)], [0, 1, 2, 9, 10, 13, 14], []⟩
def Zccf : PPlan := ⟨[(3, [0, 2, 3, 4, 5, 6, 1, 7, 8], [])], [(11, Zblj)], [], [], [], []⟩
theorem Zcdg : Known Tryd.prog Zbrs Tryd.f6 Zccf.plan (Zd Tryd.f6) := by refine ⟨Tryd.func6, ?_, ?_, ?_, ?_, ?_⟩ <;> kernel_rfl
abbrev Zbet : List Pk := [Pk.lst [Kd.bool, Kd.lst [Kd.int .u32]], Pk.lst [Kd.int .u8], Pk.bool]
abbrev Zbkx : List Pk := [Pk.bool]
def Zsj (x24 : List (Bool × List UInt32)) (b1 : List UInt8) (four2 : Bool) (x40r0 : List (Bool × List UInt32)) (x40r1 : Int) (x50r0 : List (Bool × List UInt32)) (x50r1 : Int) (i16 : Int) (next11 : (Bool × Int × Unit) -> Prop) (j7 : Bool) (K : Bool -> Prop) : Prop :=
 next11 (j7, (IntKind.wrap .i64 (i16 + 1)), ())
def Zyt (b1 : List UInt8) (four2 : Bool) (K : Bool -> Prop) : Prop :=
 (WfPs Zkq ((b1.take ((min (b1.length : Int) 400).toNat)), four2, ()) ->
 Zmc (b1.take ((min (b1.length : Int) 400).toNat)) four2 (fun x102r0 x102r1 =>
 WfPs Zkv (x102r0, x102r1, ()) ->
 (WfPs Zla (x102r0, four2, ()) ->
 Znw x102r0 four2 (fun x108r0 x108r1 =>
 WfPs Zle (x108r0, x108r1, ()) ->
 IfB ((x102r1 : Int) != 0)
 (K true)
 (IfB ((x108r1 : Int) == 0)
 ((WfPs Znt (x108r0, (b1.take ((min (b1.length : Int) 400).toNat)), ()) ->
 Zsz x108r0 (b1.take ((min (b1.length : Int) 400).toNat)) (fun x119 =>
 WfPs Zmx (x119, ()) ->
 K x119)))
 (K false))))))
def Zkr (b1 : List UInt8) (four2 : Bool) (j2 : Bool) (K : Bool -> Prop) : Prop :=
 IfB j2
 (K false)
 (Zyt b1 four2 K)
def Zblw (x24 : List (Bool × List UInt32)) (b1 : List UInt8) (four2 : Bool) (x40r0 : List (Bool × List UInt32)) (x40r1 : Int) (x50r0 : List (Bool × List UInt32)) (x50r1 : Int) (beside15 : Bool) (i16 : Int) (next11 : (Bool × Int × Unit) -> Prop) (K : Bool -> Prop) : Prop :=
 IfB (decide ((i16 : Int) < (x24.length : Int)))
 (IfB beside15
 (Zsj x24 b1 four2 x40r0 x40r1 x50r0 x50r1 i16 next11 true K)
 ((0 : Int) <= (IntKind.wrap .i64 (i16 - 1)) ∧ AtN x24 (IntKind.wrap .i64 (i16 - 1)).toNat fun x64 =>
 WfT Zy x64 ->
 IfB (!x64.1)
 ((0 : Int) <= i16 ∧ AtN x24 i16.toNat fun x71 =>
 WfT Zy x71 ->
 Zsj x24 b1 four2 x40r0 x40r1 x50r0 x50r1 i16 next11 (!x71.1) K)
 (Zsj x24 b1 four2 x40r0 x40r1 x50r0 x50r1 i16 next11 false K)))
 (IfB ((x40r1 : Int) != 0)
 (Zkr b1 four2 true K)
 (IfB ((x50r1 : Int) != 0)
 (Zkr b1 four2 true K)
 ((WfPs Zhj (x40r0, x24, ()) ->
 Zhc x40r0 x24 (fun x86 =>
 WfPs Zhn (x86, ()) ->
 IfB (!x86)
 (Zkr b1 four2 true K)
 (IfB (!beside15)
 ((WfPs Zhj (x50r0, x24, ()) ->
 Zhc x50r0 x24 (fun x95 =>
 WfPs Zhn (x95, ()) ->
 Zkr b1 four2 (!x95) K)))
 (Zkr b1 four2 false K)))))))
def Zbhf (p0 : List (Bool × List UInt32)) (b1 : List UInt8) (four2 : Bool) (K : Bool -> Prop) : Prop :=
 (WfPs Zjx (()) ->
 Zjp  (fun x21 =>
 WfPs Ziy (x21, ()) ->
 IfB (!x21)
 (K false)
 ((0 : Int) <= (min (b1.length : Int) 400) ∧ (min (b1.length : Int) 400) <= (b1.length : Int) ∧
 (WfPs Zdy (p0, ()) ->
 Zeh p0 (fun x24 =>
 WfPs Zec (x24, ()) ->
 (WfPs Zib (x24, ()) ->
 Zjc x24 (fun x31 =>
 WfPs Zig (x31, ()) ->
 IfB ((x31 : Int) == 0)
 ((WfPs Zla (x24, true, ()) ->
 Znw x24 true (fun x35r0 x35r1 =>
 WfPs Zle (x35r0, x35r1, ()) ->
 (WfPs Zkq (x35r0, true, ()) ->
 Zmc x35r0 true (fun x40r0 x40r1 =>
 WfPs Zkv (x40r0, x40r1, ()) ->
 (WfPs Zkp (x24, ()) ->
 Zme x24 (fun x45r0 x45r1 =>
 WfPs Zkz (x45r0, x45r1, ()) ->
 (WfPs Zok (x45r0, ()) ->
 Zkb x45r0 (fun x50r0 x50r1 =>
 WfPs Zmk (x50r0, x50r1, ()) ->
 Zj (Bool × Int × Unit) (false, (1 : Int), ()) fun y next =>
 WfY Zblj.kinds y ->
 Zblw x24 b1 four2 x40r0 x40r1 x50r0 x50r1 y.1 y.2.1 next K)))))))))
 (Zyt b1 four2 K))))))))
noncomputable def Zcss : Tab := ⟨[(Zjo, Zmu), (Zlq, Zva), (Zke, Zue), (Zkn, Zqg), (Zit, Znz), (Zth, Zbhv), (Zrf, Zbjb), (Zgv, Zof), (Zsq, Zbao)], []⟩
abbrev Zcdm (x : PkTs Zbet) (K : PkTs Zbkx -> Prop) : Prop := Zbhf x.1 x.2.1 x.2.2.1 (fun r0 => K (r0, ()))
theorem Zcie : FnQ Tryd.prog Zbrs Zbet Zbkx Zcdm := (Zbd Zcdg (tab := Zcss) ⟨⟨Zou, Zbik, Zzx, Zwb, Zsh, Zbql, Zbvo, Zsx, Zbnl, trivial⟩, trivial⟩ rfl).of_eq (by kernel_rfl)
end Go.Proofs.YtflfamhboalgiaaDoor
