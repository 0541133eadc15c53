/-
  Plain data behind the model's values: kinds, data, what a cell says; abstract values and objects.
-/
import Derived.Test.YtcnbolonnlmlgaaDoorSh14
set_option linter.unusedSectionVars false
set_option linter.unusedSimpArgs false
set_option linter.unusedVariables false
namespace Go.Sh

def lenMax : Nat := 9223372036854775807

/-- What one cell holds, seen as data. -/
inductive Kd where
  | int (k : IntKind) | bool | str | lst (ks : List Kd)

abbrev IntTy : IntKind → Type
  | .u8 => UInt8
  | .u16 => UInt16
  | .u32 => UInt32
  | .u64 => UInt64
  | _ => Int
def PrT (A : Type) (ks : List Kd) (B : Type) : Type := match ks with
  | [] => A
  | _ :: _ => A × B
mutual
def El : Kd → Type
  | .int k => IntTy k
  | .bool => Bool
  | .str => List UInt8
  | .lst ks => List (Tp ks)
def Tp : List Kd → Type
  | [] => Unit
  | k :: ks => PrT (El k) ks (Tp ks)
end

@[reducible] def asL {ks : List Kd} (xs : El (.lst ks)) : List (Tp ks) := xs
def hdT {k : Kd} : (ks : List Kd) → Tp (k :: ks) → El k
  | [], x => x
  | _ :: _, x => x.1
def tlT {k : Kd} : (ks : List Kd) → Tp (k :: ks) → Tp ks
  | [], _ => ()
  | _ :: _, x => x.2
def mkT {k : Kd} : (ks : List Kd) → El k → Tp ks → Tp (k :: ks)
  | [], a, _ => a
  | _ :: _, a, b => (a, b)
theorem hd_mk {k : Kd} : ∀ (ks : List Kd) (a : El k) (b : Tp ks), hdT ks (mkT ks a b) = a
  | [], _, _ => rfl
  | _ :: _, _, _ => rfl
theorem tl_mk {k : Kd} : ∀ (ks : List Kd) (a : El k) (b : Tp ks), tlT ks (mkT ks a b) = b
  | [], _, _ => rfl
  | _ :: _, _, _ => rfl

def toI : (k : IntKind) → IntTy k → Int
  | .u8, x => (x.toNat : Int)
  | .u16, x => (x.toNat : Int)
  | .u32, x => (x.toNat : Int)
  | .u64, x => (x.toNat : Int)
  | .i8, x => x
  | .i16, x => x
  | .i32, x => x
  | .i64, x => x
def ofI : (k : IntKind) → Int → IntTy k
  | .u8, n => UInt8.ofNat n.toNat
  | .u16, n => UInt16.ofNat n.toNat
  | .u32, n => UInt32.ofNat n.toNat
  | .u64, n => UInt64.ofNat n.toNat
  | .i8, n => n
  | .i16, n => n
  | .i32, n => n
  | .i64, n => n
def loI : IntKind → Int
  | .i8 => -128
  | .i16 => -32768
  | .i32 => -2147483648
  | .i64 => -9223372036854775808
  | _ => 0
def hiI : IntKind → Int
  | .i8 => 127
  | .i16 => 32767
  | .i32 => 2147483647
  | .i64 => 9223372036854775807
  | .u8 => 255
  | .u16 => 65535
  | .u32 => 4294967295
  | .u64 => 18446744073709551615
def InR (k : IntKind) (n : Int) : Prop := loI k ≤ n ∧ n ≤ hiI k
theorem toI_ofI {k : IntKind} {n : Int} (h : InR k n) : toI k (ofI k n) = n := by
  obtain ⟨h1, h2⟩ := h
  cases k <;> simp only [loI, hiI] at h1 h2 <;> simp only [toI, ofI]
  · simp only [UInt8.toNat_ofNat']; omega
  · simp only [UInt16.toNat_ofNat']; omega
  · simp only [UInt32.toNat_ofNat']; omega
  · simp only [UInt64.toNat_ofNat']; omega
theorem wrap_InR (k : IntKind) (n : Int) : InR k (k.wrap n) := by
  unfold InR IntKind.wrap
  cases k <;> simp [loI, hiI, IntKind.bits, IntKind.signed] <;> (try split) <;> omega

/-- What the type alone does not say of a datum: signed numbers in their range, lengths. -/
def WfI : (k : IntKind) → IntTy k → Prop
  | .i8, x => InR .i8 x
  | .i16, x => InR .i16 x
  | .i32, x => InR .i32 x
  | .i64, x => InR .i64 x
  | _, _ => True
theorem WfI.inR : ∀ {k : IntKind} {x : IntTy k}, WfI k x → InR k (toI k x)
  | .i8, _, h => h
  | .i16, _, h => h
  | .i32, _, h => h
  | .i64, _, h => h
  | .u8, x, _ => ⟨by simp [loI, toI], by have := UInt8.toNat_lt x; simp only [hiI, toI]; omega⟩
  | .u16, x, _ => ⟨by simp [loI, toI], by have := UInt16.toNat_lt x; simp only [hiI, toI]; omega⟩
  | .u32, x, _ => ⟨by simp [loI, toI], by have := UInt32.toNat_lt x; simp only [hiI, toI]; omega⟩
  | .u64, x, _ => ⟨by simp [loI, toI], by have := UInt64.toNat_lt x; simp only [hiI, toI]; omega⟩
theorem WfI.of : ∀ {k : IntKind} {x : IntTy k}, InR k (toI k x) → WfI k x
  | .i8, _, h => h
  | .i16, _, h => h
  | .i32, _, h => h
  | .i64, _, h => h
  | .u8, _, _ => trivial
  | .u16, _, _ => trivial
  | .u32, _, _ => trivial
  | .u64, _, _ => trivial
theorem WfI.ofI {k : IntKind} {n : Int} (h : InR k n) : WfI k (ofI k n) := WfI.of (by rw [toI_ofI h]; exact h)

mutual
def WfE : (k : Kd) → El k → Prop
  | .int k, x => WfI k x
  | .bool, _ => True
  | .str, s => s.length ≤ lenMax
  | .lst ks, xs => (asL xs).length ≤ lenMax ∧ ∀ x, x ∈ asL xs → WfT ks x
def WfT : (ks : List Kd) → Tp ks → Prop
  | [], _ => True
  | k :: ks, x => WfE k (hdT ks x) ∧ WfT ks (tlT ks x)
end

mutual
def Kd.dec : (a b : Kd) → Decidable (a = b)
  | .int k, .int k' => match decEq k k' with
    | isTrue h => isTrue (by rw [h])
    | isFalse h => isFalse fun e => h (by cases e; rfl)
  | .bool, .bool => isTrue rfl
  | .str, .str => isTrue rfl
  | .lst ks, .lst ks' => match Kd.decs ks ks' with
    | isTrue h => isTrue (by rw [h])
    | isFalse h => isFalse fun e => h (by cases e; rfl)
  | .int _, .bool => isFalse (by intro h; cases h)
  | .int _, .str => isFalse (by intro h; cases h)
  | .int _, .lst _ => isFalse (by intro h; cases h)
  | .bool, .int _ => isFalse (by intro h; cases h)
  | .bool, .str => isFalse (by intro h; cases h)
  | .bool, .lst _ => isFalse (by intro h; cases h)
  | .str, .int _ => isFalse (by intro h; cases h)
  | .str, .bool => isFalse (by intro h; cases h)
  | .str, .lst _ => isFalse (by intro h; cases h)
  | .lst _, .int _ => isFalse (by intro h; cases h)
  | .lst _, .bool => isFalse (by intro h; cases h)
  | .lst _, .str => isFalse (by intro h; cases h)
def Kd.decs : (a b : List Kd) → Decidable (a = b)
  | [], [] => isTrue rfl
  | [], _ :: _ => isFalse (by intro h; cases h)
  | _ :: _, [] => isFalse (by intro h; cases h)
  | k :: ks, k' :: ks' => match Kd.dec k k' with
    | isFalse h => isFalse fun e => h (by cases e; rfl)
    | isTrue h => match Kd.decs ks ks' with
      | isFalse h2 => isFalse fun e => h2 (by cases e; rfl)
      | isTrue h2 => isTrue (by rw [h, h2])
end

def castL {ks ks' : List Kd} (h : ks = ks') (xs : List (Tp ks)) : List (Tp ks') := h ▸ xs

/-- Abstract values. -/
inductive AV where
  | undef
  | int (k : IntKind) (n : Int)
  | bool (b : Bool)
  | str (s : List UInt8)
  | lst (ks : List Kd) (xs : List (Tp ks))
  | nils
  | nilp
  | ptr (id off : Nat)
  | row (id : Nat)
  | elm (id sz i off : Nat)
  | rdp (cs : List AV)
  | osl (id off len cap : Nat)
  | arr (id : Nat)
  | arv (ks : List Kd) (xs : List (Tp ks))
  | err (isNil : Bool)
  | fn (f : FuncId) (caps : List AV)
  | raw (v : Value)
  | agg (cs : List AV)
  | tup (vs : List AV)

/-- Objects of one's own. -/
inductive AObj where
  | obj (T : TypeId) (ro : Bool) (cs : List AV)
  | row (T : TypeId) (ro : Bool) (ks : List Kd) (xs : List (Tp ks))
  | frz (ks : List Kd) (xs : List (Tp ks))
  | gone

/-- Frozen blocks, the blocks of the objects, the slices of the rows. -/
structure Gh where
  Z : Nat → Prop
  B : Nat → Nat
  V : Nat → Value

mutual
def CellOk (Z : Nat → Prop) (H : Heap) : (k : Kd) → El k → Value → Prop
  | .int k, x, v => v = .int k (toI k x) ∧ WfI k x
  | .bool, b, v => v = .bool b
  | .str, s, v => v = .string (bstr s) ∧ s.length ≤ lenMax
  | .lst ks, xs, v => ∃ a n c, v = .slice a n c ∧ (asL xs).length = n ∧ n ≤ c ∧ c ≤ lenMax ∧
      (0 < n → ∃ b o, a = some ⟨b, o, none⟩ ∧ Z b ∧ ∃ cs T fr, H b = some (.cells cs T fr) ∧ ∀ i x, (asL xs)[i]? = some x → CellsOk Z H ks x (fun j => cs[o + i * ks.length + j]?))
def CellsOk (Z : Nat → Prop) (H : Heap) : (ks : List Kd) → Tp ks → (Nat → Option Value) → Prop
  | [], _, _ => True
  | k :: ks, x, f => (∃ v, f 0 = some v ∧ CellOk Z H k (hdT ks x) v) ∧ CellsOk Z H ks (tlT ks x) (fun j => f (j + 1))
end

mutual
def SimV (g : Gh) (H : Heap) (N : Nat) : AV → Value → Prop
  | .undef, _ => True
  | .int k n, v => v = .int k n ∧ InR k n
  | .bool b, v => v = .bool b
  | .str s, v => v = .string (bstr s) ∧ s.length ≤ lenMax
  | .lst ks xs, v => CellOk g.Z H (.lst ks) xs v
  | .nils, v => v = .slice none 0 0
  | .nilp, v => v = .pointer none
  | .ptr id off, v => id < N ∧ v = .pointer (some ⟨g.B id, off, none⟩)
  | .row id, v => id < N ∧ v = g.V id ∧ ∃ a n c, v = .slice a n c
  | .elm id sz i off, v => id < N ∧ (∃ b o n c, g.V id = .slice (some ⟨b, o, none⟩) n c ∧ v = .pointer (some ⟨b, o + i * sz + off, none⟩))
  | .rdp cs, v => ∃ b o vs, v = .pointer (some ⟨b, o, none⟩) ∧ g.Z b ∧ SimL g H N cs vs ∧ ∀ j, j < vs.length → H.cell ⟨b, o + j, none⟩ = vs[j]?
  | .osl id off len cap, v => id < N ∧ v = .slice (some ⟨g.B id, off, none⟩) len cap
  | .arr id, v => id < N ∧ ∃ b n c, g.V id = .slice (some ⟨b, 0, none⟩) n c ∧ v = .pointer (some ⟨b, 0, none⟩)
  | .arv ks xs, v => ∃ vs : List Value, v = .agg ⟨vs⟩ ∧ vs.length = xs.length * ks.length ∧ ∀ i x, xs[i]? = some x → CellsOk g.Z H ks x (fun j => vs[i * ks.length + j]?)
  | .err b, v => (match b with | true => v = .nilIface | false => ∃ t u, v = .iface t u)
  | .fn f caps, v => ∃ vs, v = .func (.func f) #[] ⟨vs⟩ ∧ SimL g H N caps vs
  | .raw u, v => v = u
  | .agg cs, v => ∃ vs, v = .agg ⟨vs⟩ ∧ SimL g H N cs vs
  | .tup cs, v => ∃ vs, v = .tuple ⟨vs⟩ ∧ SimL g H N cs vs
def SimL (g : Gh) (H : Heap) (N : Nat) : List AV → List Value → Prop
  | [], [] => True
  | a :: as, v :: vs => SimV g H N a v ∧ SimL g H N as vs
  | _, _ => False
end

/-- Data out of abstract values, and back. -/
def lvE : (k : Kd) → El k → AV
  | .int k, x => .int k (toI k x)
  | .bool, b => .bool b
  | .str, s => .str s
  | .lst ks, xs => .lst ks xs
def lvT : (ks : List Kd) → Tp ks → List AV
  | [], _ => []
  | k :: ks, x => lvE k (hdT ks x) :: lvT ks (tlT ks x)
def unE : (k : Kd) → AV → Option (El k)
  | .int k, .int k' n => match decide (k' = k) with
    | true => some (ofI k n)
    | false => none
  | .bool, .bool b => some b
  | .str, .str s => some s
  | .lst ks, .lst ks' xs => match Kd.decs ks' ks with
    | isTrue h => some (castL h xs)
    | isFalse _ => none
  | .lst _, .nils => some []
  | _, _ => none
def unT : (ks : List Kd) → List AV → Option (Tp ks)
  | [], [] => some ()
  | [], _ :: _ => none
  | _ :: _, [] => none
  | k :: ks, a :: as => match unE k a, unT ks as with
    | some x, some y => some (mkT ks x y)
    | _, _ => none

/-- Later: what was frozen is as it was, and more may be; the first N objects are where they were. -/
structure Ext (N : Nat) (g : Gh) (H : Heap) (g' : Gh) (H' : Heap) : Prop where
  z : ∀ b, g.Z b → g'.Z b ∧ H' b = H b
  b : ∀ id, id < N → g'.B id = g.B id
  v : ∀ id, id < N → g'.V id = g.V id
theorem Ext.refl (N : Nat) (g : Gh) (H : Heap) : Ext N g H g H := ⟨fun _ h => ⟨h, rfl⟩, fun _ _ => rfl, fun _ _ => rfl⟩
theorem Ext.trans {N N' : Nat} {g g' g'' : Gh} {H H' H'' : Heap} (hn : N ≤ N') (h : Ext N g H g' H') (k : Ext N' g' H' g'' H'') : Ext N g H g'' H'' :=
  ⟨fun b hb => ⟨(k.z b (h.z b hb).1).1, ((k.z b (h.z b hb).1).2).trans (h.z b hb).2⟩, fun i hi => (k.b i (by omega)).trans (h.b i hi), fun i hi => (k.v i (by omega)).trans (h.v i hi)⟩

mutual
theorem CellOk.ext {Z Z' : Nat → Prop} {H H' : Heap} (h : ∀ b, Z b → Z' b ∧ H' b = H b) : ∀ (k : Kd) (x : El k) (v : Value), CellOk Z H k x v → CellOk Z' H' k x v
  | .int _, _, _, hx => by simpa only [CellOk] using hx
  | .bool, _, _, hx => by simpa only [CellOk] using hx
  | .str, _, _, hx => by simpa only [CellOk] using hx
  | .lst ks, xs, v, hx => by
    simp only [CellOk] at hx ⊢
    obtain ⟨a, n, c, h1, h2, h3, h4, h5⟩ := hx
    refine ⟨a, n, c, h1, h2, h3, h4, fun h0 => ?_⟩
    obtain ⟨b, o, ha, hz, cs, T, fr, hb, hc⟩ := h5 h0
    exact ⟨b, o, ha, (h b hz).1, cs, T, fr, by rw [(h b hz).2]; exact hb, fun i x hi => CellsOk.ext h ks x _ (hc i x hi)⟩
theorem CellsOk.ext {Z Z' : Nat → Prop} {H H' : Heap} (h : ∀ b, Z b → Z' b ∧ H' b = H b) : ∀ (ks : List Kd) (x : Tp ks) (f : Nat → Option Value), CellsOk Z H ks x f → CellsOk Z' H' ks x f
  | [], _, _, _ => by simp only [CellsOk]
  | k :: ks, x, f, hx => by
    simp only [CellsOk] at hx ⊢
    obtain ⟨⟨v, h1, h2⟩, h3⟩ := hx
    exact ⟨⟨v, h1, CellOk.ext h k _ v h2⟩, CellsOk.ext h ks _ _ h3⟩
end

mutual
theorem SimV.ext {N N' : Nat} (hn : N ≤ N') {g g' : Gh} {H H' : Heap} (h : Ext N g H g' H') : ∀ (a : AV) (v : Value), SimV g H N a v → SimV g' H' N' a v
  | .undef, _, hx => by simp only [SimV]
  | .int _ _, _, hx => by simpa only [SimV] using hx
  | .bool _, _, hx => by simpa only [SimV] using hx
  | .str _, _, hx => by simpa only [SimV] using hx
  | .lst ks xs, v, hx => by simp only [SimV] at hx ⊢; exact CellOk.ext h.z _ _ _ hx
  | .nils, _, hx => by simpa only [SimV] using hx
  | .nilp, _, hx => by simpa only [SimV] using hx
  | .ptr id off, _, hx => by simp only [SimV] at hx ⊢; exact ⟨by omega, by rw [h.b id hx.1]; exact hx.2⟩
  | .row id, _, hx => by simp only [SimV] at hx ⊢; exact ⟨by omega, by rw [h.v id hx.1]; exact hx.2.1, hx.2.2⟩
  | .elm id sz i off, _, hx => by
    simp only [SimV] at hx ⊢
    obtain ⟨h1, b, o, n, c, h2, h3⟩ := hx
    exact ⟨by omega, b, o, n, c, by rw [h.v id h1]; exact h2, h3⟩
  | .rdp cs, _, hx => by
    simp only [SimV] at hx ⊢
    obtain ⟨b, o, vs, h1, h2, h3, h4⟩ := hx
    refine ⟨b, o, vs, h1, (h.z b h2).1, SimL.ext hn h cs vs h3, fun j hj => ?_⟩
    rw [← h4 j hj]
    simp only [Heap.cell, (h.z b h2).2]
  | .osl _ _ _ _, _, hx => by simp only [SimV] at hx ⊢; exact ⟨by omega, by rw [h.b _ hx.1]; exact hx.2⟩
  | .arr id, _, hx => by
    simp only [SimV] at hx ⊢
    obtain ⟨h1, b, n, c, h2, h3⟩ := hx
    exact ⟨by omega, b, n, c, by rw [h.v id h1]; exact h2, h3⟩
  | .arv ks xs, _, hx => by
    simp only [SimV] at hx ⊢
    obtain ⟨vs, h1, h2, h3⟩ := hx
    exact ⟨vs, h1, h2, fun i x hi => CellsOk.ext h.z _ _ _ (h3 i x hi)⟩
  | .err _, _, hx => by simpa only [SimV] using hx
  | .fn f caps, _, hx => by
    simp only [SimV] at hx ⊢
    obtain ⟨vs, h1, h2⟩ := hx
    exact ⟨vs, h1, SimL.ext hn h caps vs h2⟩
  | .raw _, _, hx => by simpa only [SimV] using hx
  | .agg cs, _, hx => by
    simp only [SimV] at hx ⊢
    obtain ⟨vs, h1, h2⟩ := hx
    exact ⟨vs, h1, SimL.ext hn h cs vs h2⟩
  | .tup cs, _, hx => by
    simp only [SimV] at hx ⊢
    obtain ⟨vs, h1, h2⟩ := hx
    exact ⟨vs, h1, SimL.ext hn h cs vs h2⟩
theorem SimL.ext {N N' : Nat} (hn : N ≤ N') {g g' : Gh} {H H' : Heap} (h : Ext N g H g' H') : ∀ (a : List AV) (v : List Value), SimL g H N a v → SimL g' H' N' a v
  | [], [], _ => by simp only [SimL]
  | [], _ :: _, hx => by simp only [SimL] at hx
  | _ :: _, [], hx => by simp only [SimL] at hx
  | a :: as, v :: vs, hx => by
    simp only [SimL] at hx ⊢
    exact ⟨SimV.ext hn h a v hx.1, SimL.ext hn h as vs hx.2⟩
end

theorem SimL.len {g : Gh} {H : Heap} {N : Nat} : ∀ {as : List AV} {vs : List Value}, SimL g H N as vs → as.length = vs.length
  | [], [], _ => rfl
  | [], _ :: _, h => by simp only [SimL] at h
  | _ :: _, [], h => by simp only [SimL] at h
  | a :: as, v :: vs, h => by simp only [SimL] at h; simp [SimL.len h.2]
theorem SimL.get {g : Gh} {H : Heap} {N : Nat} : ∀ {as : List AV} {vs : List Value}, SimL g H N as vs → ∀ {i : Nat} {a : AV}, as[i]? = some a → ∃ v, vs[i]? = some v ∧ SimV g H N a v
  | [], [], _, i, a, hi => by simp at hi
  | [], _ :: _, h, _, _, _ => by simp only [SimL] at h
  | _ :: _, [], h, _, _, _ => by simp only [SimL] at h
  | a :: as, v :: vs, h, 0, b, hi => by simp only [SimL] at h; simp at hi; subst hi; exact ⟨v, rfl, h.1⟩
  | a :: as, v :: vs, h, i + 1, b, hi => by simp only [SimL] at h; exact SimL.get h.2 (i := i) (by simpa using hi)
theorem SimL.set {g : Gh} {H : Heap} {N : Nat} : ∀ {as : List AV} {vs : List Value}, SimL g H N as vs → ∀ {i : Nat} {a : AV} {v : Value}, SimV g H N a v → SimL g H N (as.set i a) (vs.set i v)
  | [], [], h, i, a, v, _ => by simpa using h
  | [], _ :: _, h, _, _, _, _ => by simp only [SimL] at h
  | _ :: _, [], h, _, _, _, _ => by simp only [SimL] at h
  | a :: as, v :: vs, h, 0, b, u, hb => by simp only [SimL, List.set_cons_zero] at h ⊢; exact ⟨hb, h.2⟩
  | a :: as, v :: vs, h, i + 1, b, u, hb => by simp only [SimL, List.set_cons_succ] at h ⊢; exact ⟨h.1, SimL.set h.2 hb⟩
theorem SimL.drop {g : Gh} {H : Heap} {N : Nat} : ∀ {as : List AV} {vs : List Value} (n : Nat), SimL g H N as vs → SimL g H N (as.drop n) (vs.drop n)
  | as, vs, 0, h => h
  | [], [], n + 1, h => by simpa using h
  | [], _ :: _, _ + 1, h => by simp only [SimL] at h
  | _ :: _, [], _ + 1, h => by simp only [SimL] at h
  | a :: as, v :: vs, n + 1, h => by simp only [SimL] at h; simpa using SimL.drop n h.2
theorem SimL.take {g : Gh} {H : Heap} {N : Nat} : ∀ {as : List AV} {vs : List Value} (n : Nat), SimL g H N as vs → SimL g H N (as.take n) (vs.take n)
  | as, vs, 0, h => by simp [SimL]
  | [], [], n + 1, h => by simpa using h
  | [], _ :: _, _ + 1, h => by simp only [SimL] at h
  | _ :: _, [], _ + 1, h => by simp only [SimL] at h
  | a :: as, v :: vs, n + 1, h => by simp only [SimL] at h; simp only [List.take_succ_cons, SimL]; exact ⟨h.1, SimL.take n h.2⟩
theorem SimL.append {g : Gh} {H : Heap} {N : Nat} : ∀ {as : List AV} {vs : List Value} {bs : List AV} {us : List Value}, SimL g H N as vs → SimL g H N bs us → SimL g H N (as ++ bs) (vs ++ us)
  | [], [], _, _, _, hb => hb
  | [], _ :: _, _, _, h, _ => by simp only [SimL] at h
  | _ :: _, [], _, _, h, _ => by simp only [SimL] at h
  | a :: as, v :: vs, _, _, h, hb => by simp only [SimL] at h; simp only [List.cons_append, SimL]; exact ⟨h.1, SimL.append h.2 hb⟩

theorem unE_sim {g : Gh} {H : Heap} {N : Nat} : ∀ {k : Kd} {a : AV} {v : Value} {x : El k}, unE k a = some x → SimV g H N a v → CellOk g.Z H k x v := by
  intro k a v x h hs
  unfold unE at h
  split at h
  · split at h
    · rename_i k k' n hk
      cases h
      have := of_decide_eq_true hk
      subst this
      simp only [SimV] at hs
      simp only [CellOk]
      exact ⟨by rw [toI_ofI hs.2]; exact hs.1, WfI.ofI hs.2⟩
    · cases h
  · cases h; simp only [SimV] at hs; simp only [CellOk]; exact hs
  · cases h; simp only [SimV] at hs; simp only [CellOk]; exact hs
  · split at h
    · rename_i hk _
      subst hk
      cases h
      simpa only [SimV, castL] using hs
    · cases h
  · cases h
    simp only [SimV] at hs
    simp only [CellOk]
    exact ⟨none, 0, 0, hs, rfl, Nat.le_refl _, Nat.zero_le _, fun h => absurd h (by omega)⟩
  · cases h

theorem unT_sim {g : Gh} {H : Heap} {N : Nat} : ∀ {ks : List Kd} {as : List AV} {vs : List Value} {x : Tp ks}, unT ks as = some x → SimL g H N as vs → CellsOk g.Z H ks x (fun j => vs[j]?)
  | [], [], vs, x, _, _ => by simp only [CellsOk]
  | [], _ :: _, _, _, h, _ => by simp only [unT] at h; cases h
  | _ :: _, [], _, _, h, _ => by simp only [unT] at h; cases h
  | k :: ks, a :: as, [], x, h, hs => by simp only [SimL] at hs
  | k :: ks, a :: as, v :: vs, x, h, hs => by
    simp only [SimL] at hs
    simp only [unT] at h
    split at h
    · rename_i y z hy hz
      cases h
      simp only [CellsOk, hd_mk, tl_mk]
      exact ⟨⟨v, rfl, unE_sim hy hs.1⟩, by simpa using unT_sim hz hs.2⟩
    · cases h
theorem lvE_sim {g : Gh} {H : Heap} {N : Nat} : ∀ {k : Kd} {x : El k} {v : Value}, CellOk g.Z H k x v → SimV g H N (lvE k x) v
  | .int k, x, v, h => by simp only [CellOk] at h; simp only [lvE, SimV]; exact ⟨h.1, h.2.inR⟩
  | .bool, x, v, h => by simp only [CellOk] at h; simp only [lvE, SimV]; exact h
  | .str, x, v, h => by simp only [CellOk] at h; simp only [lvE, SimV]; exact h
  | .lst ks, xs, v, h => by simp only [lvE, SimV]; exact h
theorem lvT_sim {g : Gh} {H : Heap} {N : Nat} : ∀ {ks : List Kd} {x : Tp ks} {f : Nat → Option Value}, CellsOk g.Z H ks x f → ∃ vs, vs.length = ks.length ∧ SimL g H N (lvT ks x) vs ∧ ∀ j, j < vs.length → f j = vs[j]?
  | [], _, f, _ => ⟨[], rfl, by simp only [lvT, SimL], fun j hj => absurd hj (by simp)⟩
  | k :: ks, x, f, h => by
    simp only [CellsOk] at h
    obtain ⟨⟨v, h1, h2⟩, h3⟩ := h
    obtain ⟨vs, hl, hs, hc⟩ := lvT_sim (N := N) h3
    refine ⟨v :: vs, by simp [hl], by simp only [lvT, SimL]; exact ⟨lvE_sim h2, hs⟩, fun j hj => ?_⟩
    cases j with
    | zero => simpa using h1
    | succ j => have := hc j (by simpa using hj); simpa using this

mutual
theorem CellOk.wf {Z : Nat → Prop} {H : Heap} : ∀ (k : Kd) (x : El k) (v : Value), CellOk Z H k x v → WfE k x
  | .int _, _, _, h => by simp only [CellOk] at h; simp only [WfE]; exact h.2
  | .bool, _, _, _ => by simp only [WfE]
  | .str, _, _, h => by simp only [CellOk] at h; simp only [WfE]; exact h.2
  | .lst ks, xs, v, h => by
    simp only [CellOk] at h
    simp only [WfE]
    obtain ⟨a, n, c, h1, h2, h3, h4, h5⟩ := h
    refine ⟨by omega, fun x hx => ?_⟩
    obtain ⟨i, hi⟩ := List.getElem?_of_mem hx
    have h0 : 0 < n := by
      have : i < (asL xs).length := by
        rcases Nat.lt_or_ge i (asL xs).length with h | h
        · exact h
        · rw [List.getElem?_eq_none h] at hi; cases hi
      omega
    obtain ⟨b, o, ha, hz, cs, T, fr, hb, hc⟩ := h5 h0
    exact CellsOk.wf ks x _ (hc i x hi)
theorem CellsOk.wf {Z : Nat → Prop} {H : Heap} : ∀ (ks : List Kd) (x : Tp ks) (f : Nat → Option Value), CellsOk Z H ks x f → WfT ks x
  | [], _, _, _ => by simp only [WfT]
  | k :: ks, x, f, h => by
    simp only [CellsOk] at h
    simp only [WfT]
    obtain ⟨⟨v, h1, h2⟩, h3⟩ := h
    exact ⟨CellOk.wf k _ v h2, CellsOk.wf ks _ _ h3⟩
end

end Go.Sh
