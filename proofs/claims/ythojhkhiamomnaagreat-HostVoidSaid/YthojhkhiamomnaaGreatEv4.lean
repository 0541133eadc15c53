/-
  Operations that reckon; new rows; stores; append, copy, make.
-/
import Derived.Test.YthojhkhiamomnaaGreatEv3
noncomputable section
set_option linter.all false
namespace Go.Ev
variable [Sym]
open Go.Sh

/-! ### Numbers, strings, equality -/
def cInt (op : BinOp) (k : IntKind) (a b : Int) : Option CV := match op with
  | .add => some (.int k (k.wrap (a + b)))
  | .sub => some (.int k (k.wrap (a - b)))
  | .mul => some (.int k (k.wrap (a * b)))
  | .and => some (.int k (bitsAnd k a b))
  | .or => some (.int k (bitsOr k a b))
  | .xor => some (.int k (bitsXor k a b))
  | .andNot => some (.int k (bitsAndNot k a b))
  | .eql => some (.bool (a == b))
  | .neq => some (.bool (a != b))
  | .lss => some (.bool (decide (a < b)))
  | .leq => some (.bool (decide (a ≤ b)))
  | .gtr => some (.bool (decide (a > b)))
  | .geq => some (.bool (decide (a ≥ b)))
  | _ => none
def cBinInt (op : BinOp) (k k' : IntKind) (a b : Int) : Option CV := match isShift op with
  | true => (match b with
    | .ofNat m => some (.int k (match op with | .shl => k.wrap (a * 2 ^ (min m k.bits)) | _ => a.fdiv (2 ^ (min m k.bits))))
    | .negSucc _ => none)
  | false => match decide (k = k') with
    | false => none
    | true => match isDiv op with
      | true => (match decide (b = 0) with
        | true => none
        | false => some (.int k (match op with | .quo => k.wrap (a.tdiv b) | _ => a.tmod b)))
      | false => cInt op k a b

def strEq : List UInt8 → List UInt8 → Bool
  | [], [] => true
  | a :: as, b :: bs => match Nat.beq a.toNat b.toNat with
    | true => strEq as bs
    | false => false
  | _, _ => false
theorem strEq_eq : ∀ (a b : List UInt8), strEq a b = (a == b)
  | [], [] => rfl
  | [], _ :: _ => rfl
  | _ :: _, [] => rfl
  | a :: as, b :: bs => by
    simp only [strEq]
    split
    · rename_i h
      have : a = b := UInt8.toNat_inj.1 (beq_true h)
      subst this
      rw [strEq_eq as bs]; simp
    · rename_i h
      have : a ≠ b := fun e => beq_false h (by rw [e])
      simp [this]
def cStr (op : BinOp) (a b : List UInt8) : Option CV := match op with
  | .add => (match Nat.ble (a.length + b.length) 4611686018427387904 with
    | true => some (.str (a ++ b))
    | false => none)
  | .eql => some (.bool (strEq a b))
  | .neq => some (.bool (!strEq a b))
  | .lss => some (.bool (Op.bytesLess a b))
  | .leq => some (.bool (Op.bytesLess a b || strEq a b))
  | .gtr => some (.bool (!(Op.bytesLess a b || strEq a b)))
  | .geq => some (.bool (!Op.bytesLess a b))
  | _ => none

/-- Values that name no memory. -/
def toV : CV → Option Value
  | .bool b => some (.bool b)
  | .int k n => some (.int k n)
  | .str s => some (.string (bstr s))
  | .nilp => some (.pointer none)
  | .nils => some (.slice none 0 0)
  | .nilm => some (.map none)
  | .nilf => some .nilFunc
  | .nili => some .nilIface
  | .opq v => some v
  | _ => none
theorem toV.ok {r : List RB} {x : CV} {v w : Value} (h : toV x = some w) (hv : VR r x v) : v = w := by
  unfold toV at h
  split at h <;> first | (cases h; done) | (cases h; simpa only [VR] using hv)
def toVs : List CV → Option (List Value)
  | [] => some []
  | x :: xs => match toV x, toVs xs with
    | some v, some vs => some (v :: vs)
    | _, _ => none
theorem toVs.ok {r : List RB} : ∀ {xs : List CV} {vs ws : List Value}, toVs xs = some ws → VRs r xs vs → vs = ws
  | [], _, _, h, hv => by cases h; simpa only [VRs] using hv
  | x :: xs, _, _, h, hv => by
    simp only [toVs] at h
    split at h
    · rename_i w ws h1 h2
      cases h
      simp only [VRs] at hv
      obtain ⟨v, us, rfl, h3, h4⟩ := hv
      rw [toV.ok h1 h3, toVs.ok h2 h4]
    · cases h

def cEq (P : Program) (t : TypeId) (x y : CV) : Option Bool := match x, y with
  | .bool a, .bool b => (match P.underlying t with
    | some .bool => some (a == b)
    | _ => none)
  | .ptr _ _, .nilp => (match P.underlying t with
    | some (.pointer _) => some false
    | _ => none)
  | .nilp, .ptr _ _ => (match P.underlying t with
    | some (.pointer _) => some false
    | _ => none)
  | .nilp, .nilp => (match P.underlying t with
    | some (.pointer _) => some true
    | _ => none)
  | .sl _ _ _ _ _, .nils => (match P.underlying t with
    | some (.slice _) => some false
    | _ => none)
  | .nils, .nils => (match P.underlying t with
    | some (.slice _) => some true
    | _ => none)
  | .agg xs, .agg ys => (match toVs xs, toVs ys with
    | some vs, some us => eqPure P 6 t (.agg ⟨vs⟩) (.agg ⟨us⟩)
    | _, _ => none)
  | .mp _, .nilm => (match P.underlying t with
    | some (.map _ _) => some false
    | _ => none)
  | .nilm, .nilm => (match P.underlying t with
    | some (.map _ _) => some true
    | _ => none)
  | .fn _ _, .nilf => (match P.underlying t with
    | some (.func _ _ _) => some false
    | _ => none)
  | .nilf, .nilf => (match P.underlying t with
    | some (.func _ _ _) => some true
    | _ => none)
  | _, _ => none
theorem cEq.ok {P : Program} {r : List RB} {t : TypeId} {x y : CV} {v u : Value} {b : Bool} (h : cEq P t x y = some b) (hv : VR r x v) (hu : VR r y u) : eqPure P 6 t v u = some b := by
  unfold cEq at h
  split at h <;> (try simp only [VR] at hv hu)
  · subst hv hu
    split at h
    · rename_i ht; cases h; unfold eqPure; rw [ht]
    · cases h
  · obtain ⟨_, _, rfl⟩ := hv; subst hu
    split at h
    · rename_i ht; cases h; unfold eqPure; rw [ht]; rfl
    · cases h
  · obtain ⟨_, _, rfl⟩ := hu; subst hv
    split at h
    · rename_i ht; cases h; unfold eqPure; rw [ht]; rfl
    · cases h
  · subst hv hu
    split at h
    · rename_i ht; cases h; unfold eqPure; rw [ht]; rfl
    · cases h
  · obtain ⟨_, _, rfl⟩ := hv; subst hu
    split at h
    · rename_i ht; cases h; unfold eqPure; rw [ht]; rfl
    · cases h
  · subst hv hu
    split at h
    · rename_i ht; cases h; unfold eqPure; rw [ht]; rfl
    · cases h
  · obtain ⟨vs, rfl, h1⟩ := hv
    obtain ⟨us, rfl, h2⟩ := hu
    split at h
    · rename_i ws zs h3 h4
      rw [toVs.ok h3 h1, toVs.ok h4 h2]; exact h
    · cases h
  · obtain ⟨_, _, rfl⟩ := hv; subst hu
    split at h
    · rename_i ht; cases h; unfold eqPure; rw [ht]; rfl
    · cases h
  · subst hv hu
    split at h
    · rename_i ht; cases h; unfold eqPure; rw [ht]; rfl
    · cases h
  · obtain ⟨_, rfl, _⟩ := hv; subst hu
    split at h
    · rename_i ht; cases h; unfold eqPure; rw [ht]
    · cases h
  · subst hv hu
    split at h
    · rename_i ht; cases h; unfold eqPure; rw [ht]
    · cases h
  · cases h

def cEqOp (op : BinOp) (b : Bool) : Option CV := match op with
  | .eql => some (.bool b)
  | .neq => some (.bool (!b))
  | _ => none
def cBin (P : Program) (op : BinOp) (t : TypeId) (x y : CV) : Option CV := match x, y with
  | .int k a, .int k' b => cBinInt op k k' a b
  | .str a, .str b => cStr op a b
  | .agg xs, .agg ys => (match P.eqGuardType P.depth t, cEq P t (.agg xs) (.agg ys) with
    | false, some b => cEqOp op b
    | _, _ => none)
  | x, y => (match cEq P t x y with
    | some b => cEqOp op b
    | none => none)

section
variable {P : Program} {H0 : Heap} {r : List RB} {h : CH} {H : Heap}
theorem cBinInt.ok {lit : Bool} {op : BinOp} {t : TypeId} {k k' : IntKind} {a b : Int} {y : CV} {K : Value → Heap → Prop} (hc : cBinInt op k k' a b = some y) (hk : ∀ w, VR r y w → K w H) : BinW P lit op t (.int k a) (.int k' b) H K := by
  unfold cBinInt at hc
  unfold BinW
  split at hc
  · rename_i hs
    split at hc
    · rename_i m
      cases hc
      have := hk _ rfl
      simp only [hs]
      have h0 : (0 : Int) ≤ (m : Int) := by omega
      cases hd : decide (k = k') <;> refine ⟨h0, ?_⟩ <;> cases op <;> first | (simp [isShift] at hs; done) | exact this
    · cases hc
  · rename_i hs
    simp only [hs]
    split at hc
    · cases hc
    · rename_i hkk
      rw [hkk]
      simp only
      split at hc
      · rename_i hd
        simp only [hd]
        split at hc
        · cases hc
        · rename_i hb
          cases hc
          have := hk _ rfl
          refine ⟨of_decide_eq_false hb, ?_⟩
          cases op <;> first | (simp [isDiv] at hd; done) | exact this
      · rename_i hd
        simp only [hd]
        unfold cInt at hc
        split at hc <;> first | (cases hc; done) | (cases hc; exact hk _ rfl)
theorem cStr.ok {lit : Bool} {op : BinOp} {t : TypeId} {a b : List UInt8} {y : CV} {K : Value → Heap → Prop} (hc : cStr op a b = some y) (hk : ∀ w, VR r y w → K w H) : BinW P lit op t (.string (bstr a)) (.string (bstr b)) H K := by
  unfold cStr at hc
  have e1 : ((bstr a).toList == (bstr b).toList) = strEq a b := by rw [bstr_toList, bstr_toList, strEq_eq]
  have e2 : Op.bytesLess (bstr a).toList (bstr b).toList = Op.bytesLess a b := by rw [bstr_toList, bstr_toList]
  unfold BinW
  split at hc
  · split at hc
    · rename_i hle
      cases hc
      have hle := Nat.le_of_ble_eq_true hle
      refine ⟨?_, ?_⟩
      · have h1 : (bstr a).size = a.length := by simp [bstr, ByteArray.size_eq]
        have h2 : (bstr b).size = b.length := by simp [bstr, ByteArray.size_eq]
        rw [h1, h2]
        have : IntKind.i64.max = 9223372036854775807 := rfl
        omega
      · have : bstr a ++ bstr b = bstr (a ++ b) := by
          apply ByteArray.ext; simp [bstr]
        rw [this]; exact hk _ rfl
    · cases hc
  · cases hc
    have key : K (.bool ((bstr a).toList == (bstr b).toList)) H := by rw [e1]; exact hk _ rfl
    exact key
  · cases hc
    have key : K (.bool (!((bstr a).toList == (bstr b).toList))) H := by rw [e1]; exact hk _ rfl
    exact key
  · cases hc
    have key : K (.bool (Op.bytesLess (bstr a).toList (bstr b).toList)) H := by rw [e2]; exact hk _ rfl
    exact key
  · cases hc
    have key : K (.bool (Op.bytesLess (bstr a).toList (bstr b).toList || ((bstr a).toList == (bstr b).toList))) H := by rw [e1, e2]; exact hk _ rfl
    exact key
  · cases hc
    have key : K (.bool (!(Op.bytesLess (bstr a).toList (bstr b).toList || ((bstr a).toList == (bstr b).toList)))) H := by rw [e1, e2]; exact hk _ rfl
    exact key
  · cases hc
    have key : K (.bool (!(Op.bytesLess (bstr a).toList (bstr b).toList))) H := by rw [e2]; exact hk _ rfl
    exact key
  · cases hc
theorem EqW_of {op : BinOp} {t : TypeId} {v u : Value} {b : Bool} {z : CV} {K : Value → Heap → Prop} (h : eqPure P 6 t v u = some b) (hc : cEqOp op b = some z) (hk : ∀ w, VR r z w → K w H) : isEq op = true ∧ EqW P op t v u H K := by
  unfold EqW
  rw [h]
  cases op <;> simp only [cEqOp, Option.some.injEq] at hc <;> first | (cases hc; done) | skip
  · subst hc; exact ⟨rfl, hk _ rfl⟩
  · subst hc; exact ⟨rfl, hk _ rfl⟩
theorem cBin.ok {lit : Bool} {op : BinOp} {t : TypeId} {x y z : CV} {v u : Value} {K : Value → Heap → Prop} (hc : cBin P op t x y = some z) (hv : VR r x v) (hu : VR r y u) (hk : ∀ w, VR r z w → K w H) : BinW P lit op t v u H K := by
  unfold cBin at hc
  split at hc
  · simp only [VR] at hv hu; subst hv hu; exact cBinInt.ok hc hk
  · simp only [VR] at hv hu; subst hv hu; exact cStr.ok hc hk
  · rename_i xs ys
    split at hc
    · rename_i b hg he
      obtain ⟨h1, h2⟩ := EqW_of (H := H) (K := K) (cEq.ok he hv hu) hc hk
      simp only [VR] at hv hu
      obtain ⟨vs, rfl, _⟩ := hv
      obtain ⟨us, rfl, _⟩ := hu
      unfold BinW
      simp only [h1]
      exact ⟨hg, h2⟩
    · cases hc
  · rename_i h1 h2 h3
    split at hc
    · rename_i b he
      obtain ⟨hq1, hq2⟩ := EqW_of (H := H) (K := K) (cEq.ok he hv hu) hc hk
      unfold cEq at he
      split at he <;> (try simp only [VR] at hv hu)
      · subst hv hu; unfold BinW; simp only [hq1]; exact hq2
      · obtain ⟨_, _, rfl⟩ := hv; subst hu; unfold BinW; simp only [hq1]; exact hq2
      · obtain ⟨_, _, rfl⟩ := hu; subst hv; unfold BinW; simp only [hq1]; exact hq2
      · subst hv hu; unfold BinW; simp only [hq1]; exact hq2
      · obtain ⟨_, _, rfl⟩ := hv; subst hu; unfold BinW; simp only [hq1]; exact hq2
      · subst hv hu; unfold BinW; simp only [hq1]; exact hq2
      · exact (h3 _ _ rfl rfl).elim
      · obtain ⟨_, _, rfl⟩ := hv; subst hu; unfold BinW; simp only [hq1]; exact hq2
      · subst hv hu; unfold BinW; simp only [hq1]; exact hq2
      · obtain ⟨_, rfl, _⟩ := hv; subst hu; unfold BinW; simp only [hq1]; exact hq2
      · subst hv hu; unfold BinW; simp only [hq1]; exact hq2
      · cases he
    · cases hc

def cUn (op : UnOp) (x : CV) : Option CV := match op, x with
  | .neg, .int k n => some (.int k (k.wrap (0 - n)))
  | .xor, .int k n => some (.int k (bitsXor k (if k.signed then -1 else k.max) n))
  | .not, .bool b => some (.bool (!b))
  | _, _ => none
/-- Interfaces against nil. -/
def cBinL (P : Program) (lit : Bool) (op : BinOp) (t : TypeId) (x y : CV) : Option CV := match y with
  | .nili => (match P.underlying t with
    | some (.interface _) => (match x with
      | .nili => (match lit with
        | true => cEqOp op true
        | false => none)
      | .ifc _ _ => cEqOp op false
      | _ => none)
    | _ => none)
  | y => cBin P op t x y
theorem cBinL.ok {lit : Bool} {op : BinOp} {t : TypeId} {x y z : CV} {v u : Value} {K : Value → Heap → Prop} (hc : cBinL P lit op t x y = some z) (hv : VR r x v) (hu : VR r y u) (hk : ∀ w, VR r z w → K w H) : BinW P lit op t v u H K := by
  unfold cBinL at hc
  split at hc
  · simp only [VR] at hu
    subst hu
    split at hc
    · rename_i ms ht
      split at hc
      · simp only [VR] at hv
        subst hv
        split at hc
        · obtain ⟨h1, h2⟩ := EqW_of (P := P) (t := t) (v := .nilIface) (u := .nilIface) (H := H) (K := K) (by unfold eqPure; rw [ht]) hc hk
          unfold BinW; simp only [h1]; exact ⟨trivial, h2⟩
        · cases hc
      · simp only [VR] at hv
        obtain ⟨w, rfl, _⟩ := hv
        obtain ⟨h1, h2⟩ := EqW_of (P := P) (t := t) (v := .iface _ w) (u := .nilIface) (H := H) (K := K) (by unfold eqPure; rw [ht]) hc hk
        unfold BinW; simp only [h1]; exact h2
      · cases hc
    · cases hc
  · exact cBin.ok hc hv hu hk

theorem cUn.ok {op : UnOp} {x z : CV} {v : Value} {K : Value → Heap → Prop} (hc : cUn op x = some z) (hv : VR r x v) (hk : ∀ w, VR r z w → K w H) : UnW P op v H K := by
  unfold cUn at hc
  split at hc <;> first | (cases hc; done) | skip
  all_goals (simp only [VR] at hv; subst hv; cases hc; exact hk _ rfl)

def cLen (P : Program) (t : Option TypeId) (x : Option CV) : Option CV := match t, x with
  | some t, some x => (match P.underlying t, x with
    | some .string, .str s => some (.int .i64 s.length)
    | some .string, .opq (.string s) => some (.int .i64 s.size)
    | some (.array n _), _ => some (.int .i64 n)
    | some (.slice _), .sl _ _ n _ _ => some (.int .i64 n)
    | some (.slice _), .nils => some (.int .i64 0)
    | some (.slice _), .sl0 => some (.int .i64 0)
    | some (.slice _), .opq (.slice _ n _) => some (.int .i64 n)
    | _, _ => none)
  | _, _ => none
theorem cLen.ok {t : Option TypeId} {x : Option CV} {z : CV} {v : Option Value} {K : Value → Heap → Prop} (hc : cLen P t x = some z) (hv : VRo r x v) (hk : ∀ w, VR r z w → K w H) : LenW P t v H K := by
  unfold cLen at hc
  split at hc
  · simp only [VRo] at hv
    obtain ⟨w, rfl, hv⟩ := hv
    unfold LenW
    simp only
    split at hc <;> rename_i hu <;> (try rw [hu]) <;> (try simp only [VR] at hv) <;> first | (cases hc; done) | skip
    · subst hv; cases hc
      refine hk _ ?_
      simp only [VR, goInt, bstr, ByteArray.size_eq, List.size_toArray]
    · subst hv; cases hc; exact hk _ rfl
    · cases hc; cases w <;> exact hk _ rfl
    · obtain ⟨_, _, rfl⟩ := hv; cases hc; exact hk _ rfl
    · subst hv; cases hc; exact hk _ rfl
    · obtain ⟨_, _, rfl⟩ := hv; cases hc; exact hk _ rfl
    · subst hv; cases hc; exact hk _ rfl
  · cases hc
def cCap (P : Program) (t : Option TypeId) (x : Option CV) : Option CV := match t, x with
  | some t, some x => (match P.underlying t, x with
    | some (.array n _), _ => some (.int .i64 n)
    | some (.slice _), .sl _ _ _ c false => some (.int .i64 c)
    | some (.slice _), .nils => some (.int .i64 0)
    | _, _ => none)
  | _, _ => none
theorem cCap.ok {t : Option TypeId} {x : Option CV} {z : CV} {v : Option Value} {K : Value → Heap → Prop} (hc : cCap P t x = some z) (hv : VRo r x v) (hk : ∀ w, VR r z w → K w H) : CapW P t v H K := by
  unfold cCap at hc
  split at hc
  · simp only [VRo] at hv
    obtain ⟨w, rfl, hv⟩ := hv
    unfold CapW
    simp only
    split at hc <;> rename_i hu <;> (try rw [hu]) <;> (try simp only [VR] at hv) <;> first | (cases hc; done) | skip
    · cases hc; cases w <;> exact hk _ rfl
    · obtain ⟨_, _, rfl⟩ := hv; cases hc; exact hk _ rfl
    · subst hv; cases hc; exact hk _ rfl
  · cases hc
def cMinMax (mx : Bool) (xs : List CV) : Option CV := match xs with
  | [.int k x, .int _ y] => some (.int k (match mx with | true => max x y | false => min x y))
  | [.int k x, .int _ y, .int _ z] => some (.int k (match mx with | true => max (max x y) z | false => min (min x y) z))
  | _ => none
theorem cMinMax.ok {mx : Bool} {xs : List CV} {z : CV} {vs : List Value} {K : Value → Heap → Prop} (hc : cMinMax mx xs = some z) (hv : VRs r xs vs) (hk : ∀ w, VR r z w → K w H) : MinMaxW mx vs H K := by
  unfold cMinMax at hc
  split at hc
  · simp only [VRs, VR] at hv
    obtain ⟨_, _, rfl, rfl, _, _, rfl, rfl, rfl⟩ := hv
    cases hc
    exact hk _ rfl
  · simp only [VRs, VR] at hv
    obtain ⟨_, _, rfl, rfl, _, _, rfl, rfl, _, _, rfl, rfl, rfl⟩ := hv
    cases hc
    exact hk _ rfl
  · cases hc

/-! ### From bytes to a string -/
def byteOf : CV → Option UInt8
  | .int .u8 n => (match Int.decEq ((UInt8.ofNat n.toNat).toNat : Int) n with
    | .isTrue _ => some (UInt8.ofNat n.toNat)
    | .isFalse _ => none)
  | _ => none
def bytesOf : List CV → Option (List UInt8)
  | [] => some []
  | x :: xs => match byteOf x, bytesOf xs with
    | some b, some bs => some (b :: bs)
    | _, _ => none
theorem bytesOf.ok : ∀ {xs : List CV} {vs : List Value} {bs : List UInt8}, bytesOf xs = some bs → VRs r xs vs → vs = bs.map fun x => .int .u8 x.toNat
  | [], _, _, h, hv => by cases h; simp only [VRs] at hv; subst hv; rfl
  | x :: xs, _, _, h, hv => by
    simp only [bytesOf] at h
    split at h
    · rename_i b bs h1 h2
      cases h
      simp only [VRs] at hv
      obtain ⟨v, us, rfl, h3, h4⟩ := hv
      rw [bytesOf.ok h2 h4]
      unfold byteOf at h1
      split at h1
      · split at h1
        · rename_i n e _
          cases h1
          simp only [VR] at h3
          rw [h3, List.map_cons, e]
        · cases h1
      · cases h1
    · cases h
/-- What a row at hand holds. -/
def rowOf (h : CH) (sz : Nat) : CV → Option (Nat × List CV)
  | .sl k o len _ _ => (match rds h k o (len * sz) with
    | some xs => some (len, xs)
    | none => none)
  | .nils => some (0, [])
  | .sl0 => some (0, [])
  | _ => none
theorem rowOf.ok (R : Rl P H0 r h H) {sz n : Nat} {x : CV} {xs : List CV} {v : Value} (hc : rowOf h sz x = some (n, xs)) (hv : VR r x v) : ∃ a c vs, v = .slice a n c ∧ VRs r xs vs ∧ Reads H a (n * sz) vs := by
  unfold rowOf at hc
  split at hc
  · split at hc
    · rename_i ys hy
      cases hc
      simp only [VR] at hv
      obtain ⟨b, hb, rfl⟩ := hv
      obtain ⟨vs, hvs, hl, hcs⟩ := R.rds hb hy
      refine ⟨_, _, vs, rfl, hvs, hl, fun h0 => ⟨rfl, ?_⟩⟩
      have h1 := hcs 0 h0
      rw [List.getElem?_eq_getElem (by omega)] at h1
      have key : ∀ j, j < n * sz → H.cell ⟨b.blk, b.base + _ + j, none⟩ = vs[j]? := fun j hj => by rw [← hcs j hj, Nat.add_assoc]
      simp only [Heap.cell] at h1 key
      cases hb : H b.blk with
      | none => rw [hb] at h1; cases h1
      | some o =>
        rw [hb] at h1 key
        cases o <;> first | (cases h1; done) | skip
        exact ⟨_, _, _, rfl, key⟩
    · cases hc
  · cases hc
    simp only [VR] at hv
    subst hv
    exact ⟨none, 0, [], rfl, VRs.nil, by simp, by simp⟩
  · cases hc
    simp only [VR] at hv
    obtain ⟨a, c, rfl⟩ := hv
    refine ⟨a, c, [], rfl, VRs.nil, by simp, ?_⟩
    cases a with
    | none => simp
    | some a => intro h; simp at h
  · cases hc

def cConv (P : Program) (s d ot : TypeId) (x : CV) (h : CH) : Option CV := match isIntT P s with
  | true => (match P.underlying d, x with
    | some (.int k), .int _ n => some (.int k (k.wrap n))
    | some (.int k), .opq (.int _ n) => some (.int k (k.wrap n))
    | _, _ => none)
  | false => (match P.underlying s, P.underlying d with
    | some (.slice e), some .string => (match P.underlying e, rowOf h 1 x with
      | some (.int .u8), some (_, xs) => (match bytesOf xs, leafOk (leafOf P ot) (.str []), isAggB P ot, P.underlying ot with
        | some bs, true, some false, some .string => some (.str bs)
        | _, _, _, _ => none)
      | _, _ => none)
    | _, _ => none)
theorem cConv.ok (R : Rl P H0 r h H) {s d ot : TypeId} {x z : CV} {v : Value} {K : Value → Heap → Prop} (hc : cConv P s d ot x h = some z) (hv : VR r x v) (hk : ∀ w, VR r z w → K w H) : ConvW P s d ot v H K := by
  unfold cConv at hc
  unfold ConvW
  split at hc
  · rename_i hi
    rw [hi]
    split at hc <;> rename_i hu <;> (try simp only [VR] at hv) <;> first | (cases hc; done) | skip
    · subst hv; cases hc; simp only [hu]; exact hk _ rfl
    · subst hv; cases hc; simp only [hu]; exact hk _ rfl
  · rename_i hi
    rw [hi]
    split at hc
    · rename_i e hs hd
      split at hc
      · rename_i n xs he hrow
        split at hc
        · rename_i bs hbs h1 h2 h3
          cases hc
          obtain ⟨a, c, vs, rfl, hvs, hr⟩ := rowOf.ok R hrow hv
          rw [Nat.mul_one, bytesOf.ok hbs hvs] at hr
          refine StrW.intro hs hd he hr ?_
          refine tyOk.of (r := r) (x := .str bs) ?_ rfl (hk _ rfl)
          unfold tyOk
          rw [h3]
          unfold tyOk1
          rw [h2]
          simp only
          unfold leafOk at h1 ⊢
          unfold leafOf at h1 ⊢
          rw [h3] at h1 ⊢
        · cases hc
      · cases hc
    · cases hc
end
end Go.Ev
