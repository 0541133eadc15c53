/-
set_option linter.all false
  Layer 15 in plain terms: segments, joints, outboxes, connections, and what calls make of them.
-/
set_option linter.all false
section
noncomputable section
namespace Go.Conn
structure Sg where
  src : Int
  dst : Int
  seq : Nat
  ack : Nat
  flags : Int
  win : Int
  urg : Int
  big : Int
  data : List Int
def i16 (n : Int) : Bool := decide (0 <= n) && decide (n <= 65535)
def Sg.fits (s : Sg) : Bool := i16 s.src && i16 s.dst && i16 s.win && i16 s.urg && i16 s.big && decide (0 <= s.flags) && decide (s.flags < 64)
def Sg.can (s : Sg) : Bool := s.fits && decide (s.data.length <= 65495)
def bitB (f : Int) (b : Nat) : Bool := decide (f.toNat / 2 ^ b % 2 = 1)
def Sg.has (s : Sg) (b : Nat) : Bool := bitB s.flags b
def Sg.fin (s : Sg) : Bool := s.has 0
def Sg.syn (s : Sg) : Bool := s.has 1
def Sg.rst (s : Sg) : Bool := s.has 2
def Sg.acks (s : Sg) : Bool := s.has 4
def Sg.span (s : Sg) : Nat := s.data.length + (if s.syn then 1 else 0) + (if s.fin then 1 else 0)
noncomputable def addN (a n : Nat) : Nat := Classical.choose (⟨_, rfl⟩ : ∃ x, x = (a + n) % 4294967296)
theorem Zcw (a n : Nat) : addN a n = (a + n) % 4294967296 := Classical.choose_spec (⟨_, rfl⟩ : ∃ x, x = (a + n) % 4294967296)
noncomputable def wayN (a b : Nat) : Nat := Classical.choose (⟨_, rfl⟩ : ∃ x, x = (b + 4294967296 - a) % 4294967296)
theorem Zfi (a b : Nat) : wayN a b = (b + 4294967296 - a) % 4294967296 := Classical.choose_spec (⟨_, rfl⟩ : ∃ x, x = (b + 4294967296 - a) % 4294967296)
def Zlo (a b : Nat) : Bool := decide (wayN a b ≠ 0) && decide (wayN a b < 2147483648)
def Sg.reset (s : Sg) : Option Sg :=
  if s.rst then none else if s.acks then some ⟨s.dst, s.src, s.ack, 0, 4, 0, 0, 0, []⟩ else some ⟨s.dst, s.src, 0, addN s.seq s.span, 20, 0, 0, 0, []⟩
def Zds (a from_ size : Nat) : Bool := decide (size <= 65535) && decide (wayN from_ a < size)
def Zco (next size from_ n : Nat) : Bool :=
  if 65535 < size ∨ 1073741824 < n then false
  else if n = 0 ∧ size = 0 then decide (from_ = next)
  else if n = 0 then Zds from_ next size
  else Zds from_ next size || Zds (addN from_ (n - 1)) next size
def Zbh (next size from_ n : Nat) : Nat × Nat :=
  if 65535 < size ∨ 1073741824 < n then (0, 0)
  else if wayN next from_ < size then (0, min n (size - wayN next from_))
  else if n <= wayN from_ next ∨ size = 0 then (0, 0)
  else (wayN from_ next, min (n - wayN from_ next) size)
structure Jn where
  next : Nat
  rdy : List Int
  held : Nat -> Option Int
def Jn.win (j : Jn) : Nat := 4096 - j.rdy.length
def Jn.hold (j : Jn) (behind : Nat) (b : List Int) : Jn := { j with held := fun i => (j.held i).or (if behind <= i then b[i - behind]? else none) }
def Jn.step (j : Jn) (x : Int) : Jn := ⟨addN j.next 1, j.rdy ++ [x], fun i => j.held (i + 1)⟩
def Jn.move : Nat -> Jn -> Jn
  | 0, j => j
  | f + 1, j => match j.held 0 with
    | some x => (j.step x).move f
    | none => j
def Jn.add (j : Jn) (at_ : Nat) (b : List Int) : Jn :=
  if 65536 < b.length then j else
  let t := Zbh j.next j.win at_ b.length
  (j.hold (wayN j.next (addN at_ t.1)) ((b.drop t.1).take t.2)).move 4096
def Jn.read (j : Jn) (n : Nat) : List Int × Jn := (j.rdy.take n, { j with rdy := j.rdy.drop n })
structure Jn.Ok (j : Jn) : Prop where
  next : j.next < 4294967296
  len : j.rdy.length <= 4096
  held : ∀ i, j.held i ≠ none -> i + j.rdy.length < 4096
structure Cn where
  st : Nat
  src : Int
  dst : Int
  first : Nat
  una : Nat
  data : List Int
  sent : Nat
  win : Nat
  big : Nat
  tries : Nat
  inn : Option Jn
  shut : Bool
  bye : Bool
  sure : Bool
  got : Bool
structure Cn.Ok (c : Cn) : Prop where
  st : c.st <= 9
  first : c.first < 4294967296
  una : c.una < 4294967296
  len : c.data.length <= 4096
  sent : c.sent <= c.data.length
  win : c.win <= 65535
  big : 1 <= c.big ∧ c.big <= 1460
  tries : c.tries <= 8
  inn : ∀ j, c.inn = some j -> j.Ok
  some : 2 <= c.st -> c.inn ≠ none
  got : c.got = true -> c.inn ≠ none
def Cn.wants (c : Cn) : Nat := match c.inn with
  | none => if c.got then 1 else 0
  | some j => if c.got then addN j.next 1 else j.next
def Cn.onext (c : Cn) : Nat := addN c.una c.sent
def Cn.last (c : Cn) : Nat := if c.bye then addN c.onext 1 else c.onext
def Cn.room (c : Cn) : Nat := match c.inn with
  | none => 4096
  | some j => j.win
def Cn.mk' (c : Cn) (at_ : Nat) (flags : Int) (b : List Int) : Sg := ⟨c.src, c.dst, at_, c.wants, flags, c.room, 0, 0, b⟩
def Cn.hello (c : Cn) : Sg := { c.mk' c.first (if c.st = 2 then 18 else if c.st = 1 then 2 else 0) [] with big := 1460 }
def Cn.nod (c : Cn) : Sg := c.mk' c.last 16 []
def Cn.fin (c : Cn) : Sg := c.mk' c.onext 17 []
def Cn.fresh (c : Cn) (most : Nat) : Cn := { c with una := addN c.first 1, data := [], sent := 0, win := 0, big := most, tries := 0 }
def greatest (s : Sg) : Nat := if s.big = 0 then 536 else min s.big.toNat 1460
def Cn.begin (c : Cn) (s : Sg) : Cn := { c.fresh (greatest s) with inn := some ⟨addN s.seq 1, [], fun _ => none⟩ }
def Cn.may (c : Cn) : Nat := min (min c.big (c.data.length - c.sent)) (c.win - c.sent)
def Cn.piece (c : Cn) (n : Nat) : Sg := c.mk' c.onext 24 ((c.data.drop c.sent).take n)
def Cn.sends : Nat -> Cn -> List Sg × Cn
  | 0, c => ([], c)
  | f + 1, c => if c.may = 0 then ([], c) else
    let r := Cn.sends f { c with sent := c.sent + c.may }
    (c.piece c.may :: r.1, r.2)
def Cn.byes (c : Cn) : List Sg × Cn := if c.shut && !c.bye && decide (c.sent = c.data.length) then ([c.fin], { c with bye := true }) else ([], c)
def Cn.flush (c : Cn) : List Sg × Cn :=
  if c.st = 3 ∨ c.st = 4 ∨ c.st = 6 ∨ c.st = 7 ∨ c.st = 8 then
    let a := Cn.sends 4097 c
    let b := a.2.byes
    (a.1 ++ b.1, b.2)
  else ([], c)
def Cn.news (c : Cn) : Cn := { c with tries := 0 }
def Cn.ackd (c : Cn) (ack : Nat) (win : Nat) : Option (Nat × Cn) :=
  let n := wayN c.una ack
  if c.sent < n then none
  else some (n, { c with win := win, una := addN c.una n, data := c.data.drop n, sent := c.sent - n, tries := if n = 0 then c.tries else 0 })
def pick {α : Type} : Option (Nat × α) -> α -> α
  | some (_, e), _ => e
  | none, z => z
theorem Zwx {α : Type} {p : α -> Prop} : ∀ {o : Option (Nat × α)} {z : α}, (∀ n d, o = some (n, d) -> p d) -> p z -> p (pick o z)
  | some (n, d), _, h1, _ => h1 n d rfl
  | none, _, _, h2 => h2
def Cn.welcome (c : Cn) (s : Sg) : Cn := pick (Cn.ackd { c with st := 3, tries := 0 } s.ack s.win.toNat) { c with st := 3, tries := 0 }
def Cn.finished (c : Cn) : Cn := if c.sure then c else
  { c with sure := true, st := if c.st = 4 then 5 else if c.st = 7 then 9 else if c.st = 8 then 0 else c.st }
def Cn.quiet (c : Cn) (s : Sg) : Cn := if s.win = 0 then { c with tries := 0 } else c
def lastN : Option (Nat × Cn) -> Cn -> Cn
  | some (n, d), c => if 0 < n ∨ c.sure = false then d.news else d
  | none, c => c
def ackG : Option (Nat × Cn) -> Cn -> Sg -> Bool × Cn
  | some (_, d), _, s => (true, d.quiet s)
  | none, c, s => if c.bye && decide (s.ack = c.last) then (true, ((lastN (c.ackd c.onext s.win.toNat) c).finished).quiet s) else (Zlo s.ack c.una, c)
def Cn.acknowledged (c : Cn) (s : Sg) : Bool × Cn := ackG (c.ackd s.ack s.win.toNat) c s
def Cn.joined (c : Cn) (s : Sg) (k : Jn) : Cn :=
  if s.fin && decide (addN s.seq s.data.length = k.next) then { c with inn := some k, got := true, st := if c.st = 3 then 6 else if c.st = 4 then 7 else 9 } else { c with inn := some k }
def Zyo : Option Jn -> Cn -> Sg -> Cn
  | none, c, _ => c
  | some j, c, s => if c.st = 3 ∨ c.st = 4 ∨ c.st = 5 then c.joined s (j.add s.seq s.data) else c
def Cn.takes (c : Cn) (s : Sg) : Cn := Zyo c.inn c s
abbrev Ans := List Sg × Int × Cn
def Cn.lost (c : Cn) : Ans := ([], 151, { c with st := 0 })
def Cn.refuse (s : Sg) : List Sg := match s.reset with
  | some r => [r]
  | none => []
def Cn.answer (c : Cn) (s : Sg) : Ans :=
  if s.acks && decide (s.ack ≠ addN c.first 1) then (Cn.refuse s, 0, c)
  else if s.rst then (if s.acks then c.lost else ([], 0, c))
  else if !s.syn then ([], 0, c)
  else
    let d := c.begin s
    if !s.acks then
      let e := { d with st := 2 }
      ([e.hello], 0, e)
    else
      let f := (d.welcome s).flush
      (if f.1 = [] then [f.2.nod] else f.1, 0, f.2)
def Cn.rest (c : Cn) (s : Sg) : Ans :=
  if c.st = 0 then ([], 0, c)
  else
    let f := (c.takes s).flush
    (if f.1 = [] ∧ s.span ≠ 0 then [f.2.nod] else f.1, 0, f.2)
def Zcer : Option Jn -> Nat
  | some j => j.win
  | none => 0
def Cn.jwin (c : Cn) : Nat := Zcer c.inn
def Cn.take (c : Cn) (s : Sg) : Ans :=
  let ok := Zco c.wants c.jwin s.seq s.span
  if !ok && s.rst then ([], 0, c)
  else if !ok || (s.syn && !s.rst) || (s.rst && decide (s.seq ≠ c.wants)) then ([c.nod], 0, c)
  else if s.rst then c.lost
  else if !s.acks then ([], 0, c)
  else if c.st ≠ 2 then
    (let a := c.acknowledged s
     if a.1 then a.2.rest s else ([a.2.nod], 0, a.2))
  else if s.ack ≠ addN c.first 1 then (Cn.refuse s, 0, c)
  else (c.welcome s).rest s
def Cn.Take (c : Cn) (s : Sg) : Ans :=
  if !s.can then ([], 2, c)
  else if c.st = 0 then ([], 150, c)
  else if c.st = 1 then c.answer s
  else c.take s
def Cn.write (c : Cn) (b : List Int) : Nat × Ans :=
  if c.st ≠ 3 ∧ c.st ≠ 6 then (0, [], 150, c)
  else
    let n := min b.length (4096 - c.data.length)
    let f := Cn.flush { c with data := c.data ++ b.take n }
    (n, f.1, 0, f.2)
def Znn : Option Jn -> Cn -> Nat -> List Int × List Sg × Cn
  | none, c, _ => ([], [], c)
  | some j, c, n => (j.rdy.take n, if j.win = 0 ∧ 0 < (j.read n).2.win ∧ 3 <= c.st ∧ c.st <= 5 then [Cn.nod { c with inn := some (j.read n).2 }] else [], { c with inn := some (j.read n).2 })
def Cn.read (c : Cn) (n : Nat) : List Int × List Sg × Cn := Znn c.inn c n
def Cn.end_ (c : Cn) : Ans :=
  if c.st = 3 ∨ c.st = 6 then
    let f := Cn.flush { c with st := if c.st = 3 then 4 else 8, shut := true }
    (f.1, 0, f.2)
  else ([], 150, c)
def Cn.again (c : Cn) : Ans :=
  if c.st = 9 then ([], 0, { c with st := 0 })
  else if c.st = 1 ∨ c.st = 2 then (if c.tries = 8 then c.lost else let d := { c with tries := c.tries + 1 }; ([d.hello], 0, d))
  else if 0 < c.sent then (if c.tries = 8 then c.lost else ([c.mk' c.una 24 (c.data.take (min c.sent c.big))], 0, { c with tries := c.tries + 1 }))
  else if c.bye && !c.sure then (if c.tries = 8 then c.lost else ([c.fin], 0, { c with tries := c.tries + 1 }))
  else if 0 < c.win ∨ c.data = [] then c.lost
  else ([c.piece 1], 0, { c with sent := c.sent + 1 })
def Cn.new (src dst : Int) (first : Nat) : Cn := ⟨0, src, dst, first, addN first 1, [], 0, 0, 536, 0, none, false, false, false, false⟩
def Zcd (n : Int) : Bool := decide (1 <= n) && decide (n <= 65535)
def dial (src dst : Int) (first : Nat) : List Sg × Cn := ([Cn.hello { Cn.new src dst first with st := 1 }], { Cn.new src dst first with st := 1 })
def accept (s : Sg) (first : Nat) : List Sg × Cn := let c := ({ Cn.new s.dst s.src first with st := 2 } : Cn).begin s; ([c.hello], c)
end Go.Conn
end
section
namespace Go.Conn
theorem Zkq {a n : Nat} (h : a + n < 4294967296) : addN a n = a + n := (Zcw a n).trans (Nat.mod_eq_of_lt h)
theorem Zj (a n : Nat) : addN a n < 4294967296 := by rw [Zcw]; exact Nat.mod_lt _ (by decide)
theorem Zlb {a b : Nat} (h : a <= b) (hb : b < 4294967296) : wayN a b = b - a := by rw [Zfi]; omega
def lim : Nat := 2147483648
theorem Zkk {a n : Nat} (h : a + n < lim) : addN a n = a + n := (Zcw a n).trans (Nat.mod_eq_of_lt (Nat.lt_trans h (by decide)))
structure JHears (isn : Nat) (w : List Int) (j : Jn) (rd : List Int) (N : Nat) : Prop where
  le : N <= w.length
  next : j.next = isn + 1 + N
  rdy : rd ++ j.rdy = w.take N
  held : ∀ i x, j.held i = some x -> w[N + i]? = some x
def Piece (isn : Nat) (w : List Int) (at_ : Nat) (b : List Int) : Prop := b = [] ∨ ∃ p, at_ = isn + 1 + p ∧ p + b.length <= w.length ∧ ∀ t, t < b.length -> b[t]? = w[p + t]?
theorem JHears.move {isn : Nat} {w rd : List Int} : ∀ (f : Nat) {j : Jn} {N : Nat}, JHears isn w j rd N -> isn + w.length + 1 < 4294967296 -> ∃ N', N <= N' ∧ JHears isn w (j.move f) rd N'
  | 0, j, N, h, _ => ⟨N, Nat.le_refl _, h⟩
  | f + 1, j, N, h, hb => by
    unfold Jn.move; cases hx : j.held 0 with
    | none => exact ⟨N, Nat.le_refl _, h⟩
    | some x =>
      have hw := h.held 0 x hx; rw [Nat.add_zero] at hw; have hlt : N < w.length := (List.getElem?_eq_some_iff.1 hw).1; have h2 : JHears isn w (j.step x) rd (N + 1) :=
        { le := hlt
          next := by
            show addN j.next 1 = _; rw [Zkq (by rw [h.next]; omega), h.next]; omega
          rdy := by show rd ++ (j.rdy ++ [x]) = _; rw [← List.append_assoc, h.rdy, List.take_add_one, hw]; rfl
          held := fun i y hy => by
            have := h.held (i + 1) y hy; rw [← this]; congr 1; omega }
      obtain ⟨N', h3, h4⟩ := JHears.move f h2 hb; exact ⟨N', by omega, h4⟩
theorem Znu (next size at_ n : Nat) : Zbh next size at_ n = (0, 0) ∨ (wayN next at_ < size ∧ Zbh next size at_ n = (0, min n (size - wayN next at_))) ∨
    (¬ wayN next at_ < size ∧ wayN at_ next < n ∧ size ≠ 0 ∧ Zbh next size at_ n = (wayN at_ next, min (n - wayN at_ next) size)) := by
  unfold Zbh; by_cases h1 : 65535 < size ∨ 1073741824 < n; rw [if_pos h1]; exact .inl rfl
  . rw [if_neg h1]; by_cases h2 : wayN next at_ < size
    rw [if_pos h2]; exact .inr (.inl ⟨h2, rfl⟩)
    . rw [if_neg h2]; by_cases h3 : n <= wayN at_ next ∨ size = 0
      rw [if_pos h3]; exact .inl rfl; rw [if_neg h3]; exact .inr (.inr ⟨h2, by omega, by omega, rfl⟩)
theorem Zbut {next size at_ n isn N p : Nat} (hs : size <= 4096) (hn : n <= 65536) (h1 : next = isn + 1 + N) (h2 : at_ = isn + 1 + p) (hN : isn + 1 + N < 2147483648) (hp : isn + 1 + p + n < 2147483648) (hm : 0 < (Zbh next size at_ n).2) :
    (Zbh next size at_ n).1 + (Zbh next size at_ n).2 <= n ∧ N <= p + (Zbh next size at_ n).1 ∧ wayN next (addN at_ (Zbh next size at_ n).1) = p + (Zbh next size at_ n).1 - N := by
  subst h1 h2; have e1 : N <= p -> wayN (isn + 1 + N) (isn + 1 + p) = p - N := fun hc => by rw [Zlb (by omega) (by omega)]; omega
  have e2 : p < N -> 65536 <= wayN (isn + 1 + N) (isn + 1 + p) := fun hc => by rw [Zfi]; omega
  have e3 : p < N -> wayN (isn + 1 + p) (isn + 1 + N) = N - p := fun hc => by rw [Zlb (by omega) (by omega)]; omega
  have e4 : N <= p -> p ≠ N -> 65536 <= wayN (isn + 1 + p) (isn + 1 + N) := fun hc he => by rw [Zfi]; omega
  have e5 : p = N -> wayN (isn + 1 + p) (isn + 1 + N) = 0 := fun he => by rw [Zlb (by omega) (by omega)]; omega
  have e6 : addN (isn + 1 + p) 0 = isn + 1 + p := by rw [Zkq (by omega)]; omega
  rcases Znu (isn + 1 + N) size (isn + 1 + p) n with h | ⟨hi, h⟩ | ⟨hi, ho, hs0, h⟩; rw [h] at hm; simp at hm
  . rw [h]; simp only; by_cases hc : N <= p; rw [e1 hc] at hi ⊢; rw [e6, e1 hc]; omega
    . have := e2 (by omega)
      omega
  . rw [h]; simp only; by_cases hc : N <= p; by_cases he : p = N; rw [e1 hc] at hi; omega; have := e4 hc he; omega
    . rw [e3 (by omega)] at ho ⊢
      have e7 : addN (isn + 1 + p) (N - p) = isn + 1 + N := by rw [Zkq (by omega)]; omega
      have e8 : wayN (isn + 1 + N) (isn + 1 + N) = 0 := by rw [Zlb (by omega) (by omega)]; omega
      rw [e7, e8]; omega
theorem JHears.add {isn : Nat} {w rd : List Int} {j : Jn} {N at_ : Nat} {b : List Int} (h : JHears isn w j rd N) (hp : Piece isn w at_ b) (hb : isn + 1 + w.length < 2147483648) : ∃ N', N <= N' ∧ JHears isn w (j.add at_ b) rd N' := by
  unfold Jn.add; by_cases hl : 65536 < b.length; rw [if_pos hl]; exact ⟨N, Nat.le_refl _, h⟩
  . rw [if_neg hl]; refine JHears.move _ ?_ (by omega)
    refine ⟨h.le, h.next, h.rdy, fun i x hx => ?_⟩; simp only [Jn.hold] at hx; cases ho : j.held i with
    | some y => rw [ho, Option.some_or] at hx; cases hx; exact h.held i _ ho
    | none =>
      rw [ho, Option.none_or] at hx; split at hx
      . rename_i hle; obtain ⟨hlt, _⟩ := List.getElem?_eq_some_iff.1 hx; rw [List.length_take, List.length_drop] at hlt; rcases hp with rfl | ⟨p, hat, hpl, hget⟩; simp at hlt
        . have hle2 := h.le; have hw : j.win <= 4096 := by unfold Jn.win; omega
          obtain ⟨q1, q2, q3⟩ := Zbut (next := j.next) (size := j.win) (at_ := at_) (n := b.length) hw (by omega) h.next hat (by omega) (by omega) (by omega)
          rw [q3] at hle hx hlt; rw [List.getElem?_take_of_lt (by omega), List.getElem?_drop, hget _ (by omega)] at hx
          rw [← hx]; congr 1; omega
      cases hx
theorem JHears.read {isn : Nat} {w rd : List Int} {j : Jn} {N : Nat} (h : JHears isn w j rd N) (n : Nat) : JHears isn w (j.read n).2 (rd ++ (j.read n).1) N :=
  ⟨h.le, h.next, by
    show (rd ++ j.rdy.take n) ++ j.rdy.drop n = _; rw [List.append_assoc, List.take_append_drop, h.rdy], h.held⟩
theorem JHears.grow {isn : Nat} {w rd : List Int} {j : Jn} {N : Nat} (h : JHears isn w j rd N) (x : List Int) : JHears isn (w ++ x) j rd N :=
  ⟨by rw [List.length_append]; have := h.le; omega, h.next, by rw [h.rdy, List.take_append_of_le_length h.le], fun i y hy => by
    have := h.held i y hy; rw [List.getElem?_append_left (List.getElem?_eq_some_iff.1 this).1]; exact this⟩
theorem Piece.grow {isn : Nat} {w : List Int} {at_ : Nat} {b : List Int} (h : Piece isn w at_ b) (x : List Int) : Piece isn (w ++ x) at_ b := by rcases h with h | ⟨p, h1, h2, h3⟩; exact .inl h; exact .inr ⟨p, h1, by rw [List.length_append]; omega, fun t ht => by rw [h3 t ht, List.getElem?_append_left (by omega)]⟩
end Go.Conn
end
section
namespace Go.Conn
structure Gen (isn : Nat) (w : List Int) (ended : Bool) (s : Sg) : Prop where
  syn : s.syn = true -> s.seq = isn ∧ s.data = [] ∧ s.fin = false
  piece : s.syn = false -> Piece isn w s.seq s.data
  fin : s.fin = true -> ended = true ∧ s.seq + s.data.length = isn + 1 + w.length
structure Side (isn : Nat) (w : List Int) (c : Cn) : Prop where
  first : c.first = isn
  una : ∃ U, U <= w.length ∧ c.una = isn + 1 + U ∧ c.data = w.drop U
  sent : c.sent <= c.data.length
  early : c.st = 1 ∨ c.st = 2 -> w = []
  shut : c.shut = true -> c.st ≠ 3 ∧ c.st ≠ 6 ∧ c.st ≠ 1 ∧ c.st ≠ 2
  bye : c.bye = true -> c.shut = true ∧ c.sent = c.data.length
structure Hears (isn : Nat) (w : List Int) (ended : Bool) (c : Cn) (rd : List Int) : Prop where
  nil : c.inn = none -> rd = [] ∧ c.got = false
  one : c.st = 1 -> c.inn = none
  jn : ∀ j, c.inn = some j -> ∃ N, JHears isn w j rd N ∧ (c.got = true -> N = w.length ∧ ended = true)
theorem bits : bitB 16 0 = false ∧ bitB 16 1 = false ∧ bitB 4 0 = false ∧ bitB 4 1 = false ∧ bitB 20 0 = false ∧ bitB 20 1 = false ∧ bitB 24 0 = false ∧ bitB 24 1 = false ∧ bitB 17 1 = false ∧ bitB 18 0 = false ∧ bitB 2 0 = false ∧ bitB 0 0 = false ∧ bitB 0 1 = false := by decide
theorem Gen.plain {isn : Nat} {w : List Int} {e : Bool} {s : Sg} (h1 : s.syn = false) (h2 : s.fin = false) (h3 : s.data = []) : Gen isn w e s :=
  ⟨fun h => by (rw [h1] at h; cases h), fun _ => .inl h3, fun h => by (rw [h2] at h; cases h)⟩
theorem Gen.nod {isn : Nat} {w : List Int} {e : Bool} (c : Cn) : Gen isn w e c.nod := Gen.plain (show bitB 16 1 = false by decide) (show bitB 16 0 = false by decide) rfl
theorem Gen.refuse {isn : Nat} {w : List Int} {e : Bool} (s : Sg) : ∀ o ∈ Cn.refuse s, Gen isn w e o := by
  intro o ho; unfold Cn.refuse at ho; cases hr : s.reset with
  | none => rw [hr] at ho; cases ho
  | some r =>
    rw [hr] at ho; rw [List.mem_singleton.1 ho]; unfold Sg.reset at hr; split at hr; cases hr
    . split at hr; cases hr; exact Gen.plain (show bitB 4 1 = false by decide) (show bitB 4 0 = false by decide) rfl
      cases hr; exact Gen.plain (show bitB 20 1 = false by decide) (show bitB 20 0 = false by decide) rfl
theorem Gen.hello {isn : Nat} {w : List Int} {e : Bool} {c : Cn} (h : c.first = isn) : Gen isn w e c.hello := by
  have hf : c.hello.fin = false := by
    show bitB (if c.st = 2 then 18 else if c.st = 1 then 2 else 0) 0 = false
    split; decide; split <;> decide
  exact ⟨fun _ => ⟨h, rfl, hf⟩, fun hs => .inl rfl, fun h2 => by rw [hf] at h2; cases h2⟩
theorem Gen.grow {isn : Nat} {w : List Int} {s : Sg} (h : Gen isn w false s) (x : List Int) (e : Bool) : Gen isn (w ++ x) e s :=
  ⟨h.syn, fun hs => (h.piece hs).grow x, fun hf => by have := (h.fin hf).1; cases this⟩
theorem Gen.ends {isn : Nat} {w : List Int} {e : Bool} {s : Sg} (h : Gen isn w e s) : Gen isn w true s := ⟨h.syn, h.piece, fun hf => ⟨rfl, (h.fin hf).2⟩⟩
theorem Hears.grow {isn : Nat} {w rd : List Int} {c : Cn} (h : Hears isn w false c rd) (x : List Int) : Hears isn (w ++ x) false c rd :=
  ⟨h.nil, h.one, fun j hj => by
    obtain ⟨N, h1, h2⟩ := h.jn j hj; exact ⟨N, h1.grow x, fun hg => by have := (h2 hg).2; cases this⟩⟩
theorem Hears.ends {isn : Nat} {w rd : List Int} {c : Cn} {e : Bool} (h : Hears isn w e c rd) : Hears isn w true c rd :=
  ⟨h.nil, h.one, fun j hj => by
    obtain ⟨N, h1, h2⟩ := h.jn j hj; exact ⟨N, h1, fun hg => ⟨(h2 hg).1, rfl⟩⟩⟩
section
variable {isn : Nat} {w : List Int} {c : Cn}
theorem Side.onext (h : Side isn w c) (hb : isn + 1 + w.length < lim) : ∃ U, U <= w.length ∧ c.data = w.drop U ∧ c.una = isn + 1 + U ∧ c.onext = isn + 1 + U + c.sent ∧ U + c.data.length = w.length := by
  obtain ⟨U, h1, h2, h3⟩ := h.una; have hs := h.sent; have hl : c.data.length = w.length - U := by rw [h3, List.length_drop]
  refine ⟨U, h1, h3, h2, ?_, by omega⟩
  unfold Cn.onext; rw [h2, Zkk (by omega)]
theorem Side.piece (h : Side isn w c) (hb : isn + 1 + w.length < lim) (n : Nat) {e : Bool} : Gen isn w e (c.piece n) := by
  obtain ⟨U, h1, h2, h3, h4, h5⟩ := h.onext hb; have hs := h.sent; have b1 : (c.piece n).syn = false := show bitB 24 1 = false by decide
  have b0 : (c.piece n).fin = false := show bitB 24 0 = false by decide
  refine ⟨(fun hs => by rw [b1] at hs; cases hs), fun _ => .inr ⟨U + c.sent, by show c.onext = _; rw [h4]; omega, ?_, fun t ht => ?_⟩, (fun hf => by rw [b0] at hf; cases hf)⟩
  show U + c.sent + ((c.data.drop c.sent).take n).length <= _; rw [List.length_take, List.length_drop]; omega
  . show ((c.data.drop c.sent).take n)[t]? = _; have ht' : t < ((c.data.drop c.sent).take n).length := ht; rw [List.length_take, List.length_drop] at ht'; rw [List.getElem?_take_of_lt (by omega), List.getElem?_drop, h2, List.getElem?_drop]
    congr 1; omega
theorem Side.first_ (h : Side isn w c) (hb : isn + 1 + w.length < lim) (n : Nat) {e : Bool} : Gen isn w e (c.mk' c.una 24 (c.data.take n)) := by
  obtain ⟨U, h1, h2, h3, h4, h5⟩ := h.onext hb; have b1 : (c.mk' c.una 24 (c.data.take n)).syn = false := show bitB 24 1 = false by decide
  have b0 : (c.mk' c.una 24 (c.data.take n)).fin = false := show bitB 24 0 = false by decide
  refine ⟨(fun hs => by rw [b1] at hs; cases hs), fun _ => .inr ⟨U, h3, ?_, fun t ht => ?_⟩, (fun hf => by rw [b0] at hf; cases hf)⟩
  show U + (c.data.take n).length <= _; rw [List.length_take]; omega; show (c.data.take n)[t]? = _; have ht' : t < (c.data.take n).length := ht; rw [List.length_take] at ht'; rw [List.getElem?_take_of_lt (by omega), h2, List.getElem?_drop]
theorem Side.fin_ (h : Side isn w c) (hb : isn + 1 + w.length < lim) (hs : c.sent = c.data.length) (he : c.shut = true) : Gen isn w c.shut c.fin := by
  obtain ⟨U, h1, h2, h3, h4, h5⟩ := h.onext hb; have b1 : c.fin.syn = false := show bitB 17 1 = false by decide
  refine ⟨(fun hs => by rw [b1] at hs; cases hs), fun _ => .inl rfl, fun _ => ⟨he, ?_⟩⟩
  show c.onext + 0 = _; rw [h4, hs]; omega
structure Like (c d : Cn) : Prop where
  st : d.st = c.st
  first : d.first = c.first
  una : d.una = c.una
  data : d.data = c.data
  inn : d.inn = c.inn
  shut : d.shut = c.shut
  got : d.got = c.got
theorem Like.refl (c : Cn) : Like c c := ⟨rfl, rfl, rfl, rfl, rfl, rfl, rfl⟩
theorem Like.trans {a b c : Cn} (h : Like a b) (k : Like b c) : Like a c := ⟨k.st.trans h.st, k.first.trans h.first, k.una.trans h.una, k.data.trans h.data, k.inn.trans h.inn, k.shut.trans h.shut, k.got.trans h.got⟩
theorem Cn.may_le (c : Cn) : c.sent <= c.data.length -> c.sent + c.may <= c.data.length := by unfold Cn.may; omega
theorem Side.like {d : Cn} (h : Side isn w c) (l : Like c d) (hs : d.sent <= d.data.length) (hb : d.bye = true -> d.shut = true ∧ d.sent = d.data.length) : Side isn w d :=
  ⟨by rw [l.first]; exact h.first, by rw [l.una, l.data]; exact h.una, hs, by rw [l.st]; exact h.early, by rw [l.st, l.shut]; exact h.shut, hb⟩
theorem Side.sends {e : Bool} (hb : isn + 1 + w.length < lim) : ∀ (f : Nat) {c : Cn}, Side isn w c -> (∀ o ∈ (c.sends f).1, Gen isn w e o) ∧ Side isn w (c.sends f).2 ∧ Like c (c.sends f).2
  | 0, c, h => ⟨(fun o ho => by cases ho), h, Like.refl c⟩
  | f + 1, c, h => by
    unfold Cn.sends; by_cases h0 : c.may = 0; rw [if_pos h0]; exact ⟨(fun o ho => by cases ho), h, Like.refl c⟩
    . rw [if_neg h0]; have h2 : Side isn w { c with sent := c.sent + c.may } := h.like ⟨rfl, rfl, rfl, rfl, rfl, rfl, rfl⟩ (c.may_le h.sent) (fun x => absurd (by have := (h.bye x).2; unfold Cn.may; omega : c.may = 0) h0)
      obtain ⟨q1, q2, q3⟩ := Side.sends (e := e) hb f h2; have q4 : Like c { c with sent := c.sent + c.may } := ⟨rfl, rfl, rfl, rfl, rfl, rfl, rfl⟩
      refine ⟨fun o ho => ?_, q2, q4.trans q3⟩; rcases List.mem_cons.1 ho with rfl | ho; exact h.piece hb _; exact q1 o ho
theorem Side.flush (h : Side isn w c) (hb : isn + 1 + w.length < lim) : (∀ o ∈ c.flush.1, Gen isn w c.shut o) ∧ Side isn w c.flush.2 ∧ Like c c.flush.2 := by
  unfold Cn.flush; split
  . obtain ⟨q1, q2, q3⟩ := Side.sends (e := c.shut) hb 4097 h; have q4 : (∀ o ∈ (c.sends 4097).2.byes.1, Gen isn w c.shut o) ∧ Side isn w (c.sends 4097).2.byes.2 ∧ Like (c.sends 4097).2 (c.sends 4097).2.byes.2 := by generalize (c.sends 4097).2 = d at q2 q3 ⊢; unfold Cn.byes; by_cases hc : (d.shut && !d.bye && decide (d.sent = d.data.length)) = true; rw [if_pos hc]; simp only [Bool.and_eq_true, decide_eq_true_eq] at hc; refine ⟨fun o ho => ?_, q2.like ⟨rfl, rfl, rfl, rfl, rfl, rfl, rfl⟩ q2.sent (fun _ => ⟨hc.1.1, hc.2⟩), ⟨rfl, rfl, rfl, rfl, rfl, rfl, rfl⟩⟩; rw [List.mem_singleton.1 ho, ← q3.shut]; exact q2.fin_ hb hc.2 hc.1.1; rw [if_neg hc]; exact ⟨(fun o ho => by cases ho), q2, Like.refl d⟩
    refine ⟨fun o ho => ?_, q4.2.1, q3.trans q4.2.2⟩; rcases List.mem_append.1 ho with ho | ho; exact q1 o ho; exact q4.1 o ho
  exact ⟨(fun o ho => by cases ho), h, Like.refl c⟩
theorem Side.ackd (h : Side isn w c) (hb : isn + 1 + w.length < lim) {a win n : Nat} {d : Cn} (hd : c.ackd a win = some (n, d)) : Side isn w d ∧ d.st = c.st ∧ d.inn = c.inn ∧ d.shut = c.shut ∧ d.got = c.got ∧ d.first = c.first := by
  unfold Cn.ackd at hd; simp only at hd; split at hd; cases hd
  . rename_i hn; simp only [Option.some.injEq, Prod.mk.injEq] at hd; obtain ⟨rfl, rfl⟩ := hd; obtain ⟨U, h1, h2, h3⟩ := h.una; have hs := h.sent; have hl : c.data.length = w.length - U := by rw [h3, List.length_drop]
    refine ⟨⟨h.first, ⟨U + wayN c.una a, by omega, ?_, ?_⟩, ?_, h.early, h.shut, fun x => ⟨(h.bye x).1, ?_⟩⟩, rfl, rfl, rfl, rfl, rfl⟩
    . show addN c.una (wayN c.una a) = _; generalize wayN c.una a = n at hn ⊢; rw [Zkk (by omega)]; omega
    show c.data.drop _ = _; rw [h3, List.drop_drop]; show c.sent - _ <= (c.data.drop _).length; rw [List.length_drop]; omega; show c.sent - _ = (c.data.drop _).length; have := (h.bye x).2; rw [List.length_drop]; omega
theorem Side.welcome (h : Side isn w c) (hb : isn + 1 + w.length < lim) (hst : c.st = 1 ∨ c.st = 2) (s : Sg) : Side isn w (c.welcome s) ∧ (c.welcome s).inn = c.inn ∧ (c.welcome s).shut = c.shut ∧ (c.welcome s).got = c.got ∧ (c.welcome s).st = 3 := by
  have hns : ¬ c.shut = true := fun hs => by have h1 := (h.shut hs).2.2.1; have h2 := (h.shut hs).2.2.2; rcases hst with e | e; exact h1 e; exact h2 e
  have h3 : Side isn w { c with st := 3, tries := 0 } := ⟨h.first, h.una, h.sent, (fun hc => by rcases hc with e | e <;> cases e), (fun hs => absurd hs hns), h.bye⟩
  refine Zwx (p := fun d => Side isn w d ∧ d.inn = c.inn ∧ d.shut = c.shut ∧ d.got = c.got ∧ d.st = 3) (fun n d hd => ?_) ⟨h3, rfl, rfl, rfl, rfl⟩; obtain ⟨q1, q2, q3, q4, q5, _⟩ := h3.ackd hb hd; exact ⟨q1, q3, q4, q5, q2⟩
theorem Side.finished (h : Side isn w c) : Side isn w c.finished ∧ c.finished.inn = c.inn ∧ c.finished.shut = c.shut ∧ c.finished.got = c.got ∧ c.finished.st ≠ 1 ∨ c.st = 1 := by
  by_cases h1 : c.st = 1; exact .inr h1; refine .inl ?_; unfold Cn.finished; split; exact ⟨h, rfl, rfl, rfl, h1⟩; refine ⟨⟨h.first, h.una, h.sent, fun hc => h.early ?_, fun hs => ?_, h.bye⟩, rfl, rfl, rfl, ?_⟩; simp only at hc ⊢; split at hc; omega; split at hc; omega; split at hc; omega; exact hc; have := h.shut hs; simp only; split; omega; split; omega; split; omega; exact this; simp only; split; omega; split; omega; split; omega; exact h1
end
end Go.Conn
end
section
namespace Go.Conn
section
variable {isn : Nat} {w : List Int} {c : Cn}
structure Deaf (c d : Cn) : Prop where
  inn : d.inn = c.inn
  got : d.got = c.got
  st : d.st = 1 -> c.st = 1
theorem Deaf.refl (c : Cn) : Deaf c c := ⟨rfl, rfl, id⟩
theorem Deaf.trans {a b c : Cn} (h : Deaf a b) (k : Deaf b c) : Deaf a c := ⟨k.inn.trans h.inn, k.got.trans h.got, fun x => h.st (k.st x)⟩
theorem Like.deaf {d : Cn} (h : Like c d) : Deaf c d := ⟨h.inn, h.got, fun x => by rw [← h.st]; exact x⟩
theorem Hears.deaf {e : Bool} {rd : List Int} {d : Cn} (h : Hears isn w e c rd) (k : Deaf c d) : Hears isn w e d rd :=
  ⟨by rw [k.inn, k.got]; exact h.nil, fun x => by rw [k.inn]; exact h.one (k.st x), by rw [k.inn, k.got]; exact h.jn⟩
theorem Side.quiet (h : Side isn w c) (s : Sg) : Side isn w (c.quiet s) ∧ Deaf c (c.quiet s) ∧ (c.quiet s).shut = c.shut ∧ (c.quiet s).st = c.st := by unfold Cn.quiet; split; exact ⟨⟨h.first, h.una, h.sent, h.early, h.shut, h.bye⟩, ⟨rfl, rfl, id⟩, rfl, rfl⟩; exact ⟨h, Deaf.refl c, rfl, rfl⟩
theorem Side.fin2 (h : Side isn w c) (h1 : c.st ≠ 1) : Side isn w c.finished ∧ Deaf c c.finished ∧ c.finished.shut = c.shut ∧ c.finished.st ≠ 1 ∧ c.finished.st ≠ 2 ∨ c.st = 2 := by
  by_cases h2 : c.st = 2; exact .inr h2
  . refine .inl ?_; unfold Cn.finished; split; exact ⟨h, Deaf.refl c, rfl, h1, h2⟩
    . have e1 : ∀ k, k = (if c.st = 4 then 5 else if c.st = 7 then 9 else if c.st = 8 then 0 else c.st) -> k ≠ 1 ∧ k ≠ 2 ∧ (k = 3 -> c.st = 3) ∧ (k = 6 -> c.st = 6) := by
        intro k hk; subst hk; split; exact ⟨by decide, by decide, (fun h => by cases h), (fun h => by cases h)⟩
        . split; exact ⟨by decide, by decide, (fun h => by cases h), (fun h => by cases h)⟩
          . split; exact ⟨by decide, by decide, (fun h => by cases h), (fun h => by cases h)⟩
            exact ⟨h1, h2, id, id⟩
      obtain ⟨q1, q2, q3, q4⟩ := e1 _ rfl; refine ⟨⟨h.first, h.una, h.sent, fun hc => ?_, fun hs => ?_, h.bye⟩, ⟨rfl, rfl, fun x => absurd x q1⟩, rfl, q1, q2⟩; rcases hc with hc | hc; exact absurd hc q1; exact absurd hc q2; have := h.shut hs; exact ⟨fun x => this.1 (q3 x), fun x => this.2.1 (q4 x), q1, q2⟩
theorem Side.news (h : Side isn w c) : Side isn w c.news := ⟨h.first, h.una, h.sent, h.early, h.shut, h.bye⟩
theorem Side.acknowledged (h : Side isn w c) (hb : isn + 1 + w.length < lim) (h1 : c.st ≠ 1) (h2 : c.st ≠ 2) (s : Sg) :
    Side isn w (c.acknowledged s).2 ∧ Deaf c (c.acknowledged s).2 ∧ (c.acknowledged s).2.shut = c.shut ∧ (c.acknowledged s).2.st ≠ 1 ∧ (c.acknowledged s).2.st ≠ 2 := by
  unfold Cn.acknowledged; generalize ho : c.ackd s.ack s.win.toNat = o
  match o, ho with
  | some (n, d), ho =>
    obtain ⟨q1, q2, q3, q4, q5, _⟩ := h.ackd hb ho; obtain ⟨p1, p2, p3, p4⟩ := q1.quiet s; exact ⟨p1, Deaf.trans ⟨q3, q5, fun x => by rw [← q2]; exact x⟩ p2, p3.trans q4, (fun x => h1 (by rw [← q2, ← p4]; exact x)), (fun x => h2 (by rw [← q2, ← p4]; exact x))⟩
  | none, _ =>
    simp only [ackG]; split
    . have hl : Side isn w (lastN (c.ackd c.onext s.win.toNat) c) ∧ Deaf c (lastN (c.ackd c.onext s.win.toNat) c) ∧ (lastN (c.ackd c.onext s.win.toNat) c).shut = c.shut ∧ (lastN (c.ackd c.onext s.win.toNat) c).st = c.st := by
        generalize ho : c.ackd c.onext s.win.toNat = o
        match o, ho with
        | some (n, d), ho =>
          obtain ⟨q1, q2, q3, q4, q5, _⟩ := h.ackd hb ho; simp only [lastN]; split; exact ⟨q1.news, ⟨q3, q5, fun x => by rw [← q2]; exact x⟩, q4, q2⟩
          . exact ⟨q1, ⟨q3, q5, fun x => by rw [← q2]; exact x⟩, q4, q2⟩
        | none, _ => exact ⟨h, Deaf.refl c, rfl, rfl⟩
      generalize lastN (c.ackd c.onext s.win.toNat) c = d at hl; obtain ⟨l1, l2, l3, l4⟩ := hl; rcases l1.fin2 (by rw [l4]; exact h1) with ⟨f1, f2, f3, f4, f5⟩ | f
      obtain ⟨p1, p2, p3, p4⟩ := f1.quiet s; exact ⟨p1, (l2.trans f2).trans p2, (p3.trans f3).trans l3, (fun x => f4 (by rw [← p4]; exact x)), (fun x => f5 (by rw [← p4]; exact x))⟩
      exact absurd (l4 ▸ f) h2
    exact ⟨h, Deaf.refl c, rfl, h1, h2⟩
theorem Side.takes (h : Side isn w c) (h1 : c.st ≠ 1) (h2 : c.st ≠ 2) (s : Sg) : Side isn w (c.takes s) ∧ (c.takes s).shut = c.shut ∧ (c.takes s).st ≠ 1 ∧ (c.takes s).st ≠ 2 := by
  unfold Cn.takes; cases c.inn with
  | none => exact ⟨h, rfl, h1, h2⟩
  | some j =>
    simp only [Zyo]; split
    . unfold Cn.joined; generalize j.add s.seq s.data = k; split
      . have e1 : ∀ k, k = (if c.st = 3 then 6 else if c.st = 4 then 7 else 9) -> k ≠ 1 ∧ k ≠ 2 ∧ k ≠ 3 ∧ (k = 6 -> c.st = 3) := by
          intro k hk; subst hk; split; rename_i h3; exact ⟨by decide, by decide, by decide, fun _ => h3⟩
          . split; exact ⟨by decide, by decide, by decide, (fun h => by cases h)⟩
            exact ⟨by decide, by decide, by decide, (fun h => by cases h)⟩
        obtain ⟨q1, q2, q3, q4⟩ := e1 _ rfl; refine ⟨⟨h.first, h.una, h.sent, fun hc => ?_, fun hs => ?_, h.bye⟩, rfl, q1, q2⟩; rcases hc with hc | hc; exact absurd hc q1; exact absurd hc q2; exact ⟨q3, fun x => (h.shut hs).1 (q4 x), q1, q2⟩
      exact ⟨⟨h.first, h.una, h.sent, h.early, h.shut, h.bye⟩, rfl, h1, h2⟩
    exact ⟨h, rfl, h1, h2⟩
structure Good (isn : Nat) (w : List Int) (c : Cn) (outs : List Sg) (d : Cn) : Prop where
  outs : ∀ o ∈ outs, Gen isn w c.shut o
  side : Side isn w d
  shut : d.shut = c.shut
theorem Good.none_ (h : Side isn w c) : Good isn w c [] c := ⟨fun o ho => (by cases ho), h, rfl⟩
theorem Side.dead (h : Side isn w c) : Side isn w { c with st := 0 } :=
  ⟨h.first, h.una, h.sent, (fun x => by rcases x with x | x <;> cases x), (fun _ => ⟨(fun x => by cases x), (fun x => by cases x), (fun x => by cases x), (fun x => by cases x)⟩), h.bye⟩
theorem Good.lost (h : Side isn w c) : Good isn w c c.lost.1 c.lost.2.2 := ⟨fun o ho => (by cases ho), h.dead, rfl⟩
theorem Good.flushed {c0 : Cn} (h : Side isn w c) (hb : isn + 1 + w.length < lim) (hs : c.shut = c0.shut) (b : Bool) : Good isn w c0 (if b = true then [c.flush.2.nod] else c.flush.1) c.flush.2 := by obtain ⟨q1, q2, q3⟩ := h.flush hb; refine ⟨fun o ho => ?_, q2, q3.shut.trans hs⟩; split at ho; rw [List.mem_singleton.1 ho]; exact Gen.nod _; rw [← hs]; exact q1 o ho
theorem Good.rest {c0 : Cn} (h : Side isn w c) (hb : isn + 1 + w.length < lim) (hs : c.shut = c0.shut) (h1 : c.st ≠ 1) (h2 : c.st ≠ 2) (s : Sg) : Good isn w c0 (c.rest s).1 (c.rest s).2.2 := by
  unfold Cn.rest; split; exact ⟨fun o ho => (by cases ho), h, hs⟩
  obtain ⟨q1, q2, q3, q4⟩ := h.takes h1 h2 s; have := Good.flushed (c0 := c0) q1 hb (q2.trans hs) (decide ((c.takes s).flush.1 = [] ∧ s.span ≠ 0)); simp only [decide_eq_true_eq] at this; exact this
theorem Good.answer (h : Side isn w c) (hb : isn + 1 + w.length < lim) (h1 : c.st = 1) (s : Sg) : Good isn w c (c.answer s).1 (c.answer s).2.2 := by
  have hw : w = [] := h.early (.inl h1); have hns : ¬ c.shut = true := fun hs => (h.shut hs).2.2.1 h1; have hbg : ∀ k, k = 1 ∨ k = 2 -> Side isn w { c.begin s with st := k } := fun k hk => by
    refine ⟨h.first, ⟨0, Nat.zero_le _, ?_, by rw [hw]; rfl⟩, Nat.le_refl _, fun _ => hw, fun hs => absurd hs hns, fun x => absurd (h.bye x).1 hns⟩
    show addN c.first 1 = _; rw [h.first, Zkk (by omega)]
  unfold Cn.answer; split; exact ⟨Gen.refuse s, h, rfl⟩
  . split; split; exact Good.lost h; exact Good.none_ h
    . split; exact Good.none_ h
      . split; refine ⟨fun o ho => ?_, hbg 2 (.inr rfl), rfl⟩; rw [List.mem_singleton.1 ho]; exact Gen.hello (hbg 2 (.inr rfl)).first
        . have hb1 : Side isn w (c.begin s) := by have := hbg 1 (.inl rfl); exact ⟨this.first, this.una, this.sent, fun _ => hw, fun hs => absurd hs hns, this.bye⟩
          obtain ⟨q1, q2, q3, q4, q5⟩ := hb1.welcome hb (.inl h1) s; have := Good.flushed (c0 := c) q1 hb q3 (decide (((c.begin s).welcome s).flush.1 = [])); simp only [decide_eq_true_eq] at this; exact this
theorem Good.take (h : Side isn w c) (hb : isn + 1 + w.length < lim) (h1 : c.st ≠ 1) (s : Sg) : Good isn w c (c.take s).1 (c.take s).2.2 := by
  have hn : ∀ {d : Cn}, Side isn w d -> d.shut = c.shut -> Good isn w c [d.nod] d := fun hd hs => ⟨fun o ho => (by rw [List.mem_singleton.1 ho]; exact Gen.nod _), hd, hs⟩
  unfold Cn.take; simp only; split; exact Good.none_ h; split; exact hn h rfl; split; exact Good.lost h; split; exact Good.none_ h; split; rename_i h2; obtain ⟨q1, q2, q3, q4, q5⟩ := h.acknowledged hb h1 h2 s; split; exact Good.rest q1 hb q3 q4 q5 s; exact hn q1 q3; rename_i h2; have h2 : c.st = 2 := Classical.byContradiction h2; split; exact ⟨Gen.refuse s, h, rfl⟩; obtain ⟨q1, q2, q3, q4, q5⟩ := h.welcome hb (.inr h2) s; exact Good.rest q1 hb q3 (by rw [q5]; decide) (by rw [q5]; decide) s
theorem Good.Take (h : Side isn w c) (hb : isn + 1 + w.length < lim) (s : Sg) : Good isn w c (c.Take s).1 (c.Take s).2.2 := by unfold Cn.Take; split; exact Good.none_ h; split; exact Good.none_ h; split; rename_i h1; exact Good.answer h hb h1 s; rename_i h1; exact Good.take h hb h1 s
end
end Go.Conn
end
section
namespace Go.Conn
section
variable {isn : Nat} {w rd : List Int} {c : Cn} {e : Bool} {s : Sg}
theorem Zbjr : ∀ (f : Nat) (c : Cn), Deaf c (c.sends f).2
  | 0, c => Deaf.refl c
  | f + 1, c => by unfold Cn.sends; split; exact Deaf.refl c; exact Deaf.trans (b := { c with sent := c.sent + c.may }) ⟨rfl, rfl, id⟩ (Zbjr f _)
theorem Zckg (d : Cn) : Deaf d d.byes.2 := by unfold Cn.byes; split; exact ⟨rfl, rfl, id⟩; exact Deaf.refl d
theorem Zor (c : Cn) : Deaf c c.flush.2 := by unfold Cn.flush; split; exact (Zbjr 4097 c).trans (Zckg _); exact Deaf.refl c
theorem Zrs {c d : Cn} {a win n : Nat} (h : c.ackd a win = some (n, d)) : Deaf c d ∧ d.st = c.st := by unfold Cn.ackd at h; simp only at h; split at h; cases h; simp only [Option.some.injEq, Prod.mk.injEq] at h; obtain ⟨_, rfl⟩ := h; exact ⟨⟨rfl, rfl, id⟩, rfl⟩
theorem Zbfm (c : Cn) (s : Sg) : Deaf c (c.welcome s) ∧ (c.welcome s).st = 3 := by
  refine Zwx (p := fun d => Deaf c d ∧ d.st = 3) (fun n d hd => ?_) ⟨⟨rfl, rfl, (fun x => by cases x)⟩, rfl⟩
  obtain ⟨q1, q2⟩ := Zrs hd; exact ⟨Deaf.trans (b := { c with st := 3, tries := 0 }) ⟨rfl, rfl, (fun x => by cases x)⟩ q1, q2⟩
theorem Zbyq (c : Cn) : Deaf c c.finished := by
  unfold Cn.finished; split; exact Deaf.refl c
  . refine ⟨rfl, rfl, fun x => ?_⟩; have x : (if c.st = 4 then 5 else if c.st = 7 then 9 else if c.st = 8 then 0 else c.st) = 1 := x
    split at x; cases x; split at x; cases x; split at x; cases x; exact x
theorem Zbkr (c : Cn) (s : Sg) : Deaf c (c.quiet s) := by unfold Cn.quiet; split; exact ⟨rfl, rfl, id⟩; exact Deaf.refl c
theorem Zcbp (c : Cn) (a win : Nat) : Deaf c (lastN (c.ackd a win) c) := by
  generalize ho : c.ackd a win = o
  match o, ho with
  | some (n, d), ho =>
    simp only [lastN]; split; exact (Zrs ho).1.trans ⟨rfl, rfl, id⟩
    . exact (Zrs ho).1
  | none, _ => exact Deaf.refl c
theorem Zblg (c : Cn) (s : Sg) : Deaf c (c.acknowledged s).2 := by
  unfold Cn.acknowledged; generalize ho : c.ackd s.ack s.win.toNat = o
  match o, ho with
  | some (n, d), ho => exact (Zrs ho).1.trans (Zbkr d s)
  | none, _ =>
    simp only [ackG]; split; exact ((Zcbp c c.onext s.win.toNat).trans (Zbyq _)).trans (Zbkr _ s); exact Deaf.refl c
theorem Hears.takes (h : Hears isn w e c rd) (hb : isn + 1 + w.length < lim) (hg : Gen isn w e s) (hs : s.syn = false) : Hears isn w e (c.takes s) rd := by
  unfold Cn.takes; generalize hi : c.inn = i
  match i, hi with
  | none, _ => exact h
  | some j, hi =>
    simp only [Zyo]; split
    . rename_i hst; obtain ⟨N, h1, h2⟩ := h.jn j hi; obtain ⟨N', h3, h4⟩ := h1.add (hg.piece hs) hb; unfold Cn.joined; generalize j.add s.seq s.data = k at h4; have hle := h4.le; split
      . rename_i hf; simp only [Bool.and_eq_true, decide_eq_true_eq] at hf; obtain ⟨f1, f2⟩ := hg.fin hf.1; refine ⟨(fun x => by cases x), fun x => ?_, fun j' hj' => ?_⟩
        . have x : (if c.st = 3 then 6 else if c.st = 4 then 7 else 9) = 1 := x
          split at x; cases x; split at x <;> cases x
        . cases hj'; refine ⟨N', h4, fun _ => ⟨?_, f1⟩⟩; have := hf.2; rw [Zkk (by omega), h4.next] at this
          omega
      . refine ⟨(fun x => by cases x), fun x => ?_, fun j' hj' => ?_⟩
        have x : c.st = 1 := x; rw [h.one x] at hi; cases hi; cases hj'; refine ⟨N', h4, fun hgt => ⟨?_, (h2 hgt).2⟩⟩; have := (h2 hgt).1; omega
    exact h
theorem Hears.rest (h : Hears isn w e c rd) (hb : isn + 1 + w.length < lim) (hg : Gen isn w e s) (hs : s.syn = false) : Hears isn w e (c.rest s).2.2 rd := by unfold Cn.rest; split; exact h; exact (h.takes hb hg hs).deaf (Zor _)
theorem Hears.dead (h : Hears isn w e c rd) : Hears isn w e { c with st := 0 } rd := h.deaf ⟨rfl, rfl, (fun x => by cases x)⟩
theorem Hears.answer (h : Hears isn w e c rd) (hb : isn + 1 + w.length < lim) (h1 : c.st = 1) (hg : Gen isn w e s) : Hears isn w e (c.answer s).2.2 rd := by
  have hn := h.one h1; obtain ⟨r0, g0⟩ := h.nil hn; have hbg : s.syn = true -> ∀ k, k ≠ 1 -> Hears isn w e { c.begin s with st := k } rd := fun hs k hk => by
    obtain ⟨q1, q2, q3⟩ := hg.syn hs; refine ⟨(fun x => by cases x), fun x => absurd x hk, fun j hj => ?_⟩
    cases hj; refine ⟨0, ⟨Nat.zero_le _, ?_, ?_, (fun i x hx => by cases hx)⟩, fun hgt => ?_⟩
    show addN s.seq 1 = _; rw [q1, Zkk (by omega)]
    rw [r0]; rfl; have hgt : c.got = true := hgt; rw [g0] at hgt; cases hgt
  unfold Cn.answer; split; exact h
  . split; split; exact h.dead; exact h
    . split; exact h
      . rename_i hsy; have hsy : s.syn = true := by simpa using hsy
        split; exact hbg hsy 2 (by decide)
        . obtain ⟨q1, q2⟩ := Zbfm (c.begin s) s; have h3 := hbg hsy 3 (by decide)
          refine Hears.deaf (c := (c.begin s).welcome s) ?_ (Zor _); exact h3.deaf ⟨q1.inn, q1.got, (fun x => by rw [q2] at x; cases x)⟩
def Comes (isn : Nat) (w : List Int) (e : Bool) (c : Cn) (s : Sg) : Prop := Gen isn w e s ∨ (c.st ≠ 1 ∧ Zco c.wants c.jwin s.seq s.span = false)
theorem Hears.take (h : Hears isn w e c rd) (hb : isn + 1 + w.length < lim) (hg : Comes isn w e c s) : Hears isn w e (c.take s).2.2 rd := by
  unfold Cn.take; simp only; split; exact h
  . split; exact h
    . rename_i hok; simp only [Bool.or_eq_true, Bool.not_eq_true', Bool.and_eq_true, decide_eq_true_eq, not_or] at hok; have hgen : Gen isn w e s := by rcases hg with hg | ⟨_, hg⟩; exact hg; exact absurd hg (by simpa using hok.1.1)
      split; exact h.dead
      . rename_i hr; have hsy : s.syn = false := by
          have h1 := hok.1.2; cases hsyn : s.syn with
          | false => rfl
          | true => exact absurd ⟨hsyn, by simpa using hr⟩ h1
        split; exact h; split; split; exact (h.deaf (Zblg c s)).rest hb hgen hsy; exact h.deaf (Zblg c s); split; exact h; exact (h.deaf (Zbfm c s).1).rest hb hgen hsy
theorem Hears.Take (h : Hears isn w e c rd) (hb : isn + 1 + w.length < lim) (hg : Comes isn w e c s) : Hears isn w e (c.Take s).2.2 rd := by unfold Cn.Take; split; exact h; split; exact h; split; rename_i h1; rcases hg with hg | ⟨hg, _⟩; exact h.answer hb h1 hg; exact absurd h1 hg; exact h.take hb hg
end
end Go.Conn
end
section
namespace Go.Conn
section
variable {isn : Nat} {w rd : List Int} {c : Cn} {e : Bool} {s : Sg}
structure Did (isn : Nat) (w x : List Int) (c : Cn) (outs : List Sg) (d : Cn) : Prop where
  side : Side isn (w ++ x) d
  outs : ∀ o ∈ outs, Gen isn (w ++ x) d.shut o
  more : x ≠ [] -> c.shut = false ∧ d.shut = false
  ends : c.shut = true -> d.shut = true
theorem Good.did {outs : List Sg} {d : Cn} (h : Good isn w c outs d) : Did isn w [] c outs d :=
  ⟨by rw [List.append_nil]; exact h.side, fun o ho => by rw [List.append_nil, h.shut]; exact h.outs o ho, fun x => absurd rfl x, fun x => by rw [h.shut]; exact x⟩
theorem Did.write (h : Side isn w c) {b : List Int} (hb : isn + 1 + w.length + b.length < lim) :
    Did isn w (b.take (c.write b).1) c (c.write b).2.1 (c.write b).2.2.2 ∧ Deaf c (c.write b).2.2.2 := by
  unfold Cn.write; split; exact ⟨by rw [List.take_zero]; exact (Good.none_ h).did, Deaf.refl c⟩
  . rename_i hst; have hst : c.st = 3 ∨ c.st = 6 := by omega
    simp only; have hns : c.shut = false := by
      cases hs : c.shut with
      | false => rfl
      | true =>
        have h1 := h.shut hs; rcases hst with e | e; exact absurd e h1.1; exact absurd e h1.2.1
    generalize hn : min b.length (4096 - c.data.length) = n; have hnl : (b.take n).length <= b.length := by rw [List.length_take]; omega
    have hs1 : Side isn (w ++ b.take n) { c with data := c.data ++ b.take n } := by
      obtain ⟨U, h1, h2, h3⟩ := h.una; refine ⟨h.first, ⟨U, by rw [List.length_append]; omega, h2, ?_⟩, ?_, fun x => ?_, fun x => ?_, fun x => ?_⟩
      show c.data ++ b.take n = _; rw [h3, List.drop_append_of_le_length h1]; show c.sent <= (c.data ++ b.take n).length; rw [List.length_append]; have := h.sent; omega; have x : c.st = 1 ∨ c.st = 2 := x; omega; have x : c.shut = true := x; rw [hns] at x; cases x; have x := (h.bye x).1; rw [hns] at x; cases x
    obtain ⟨q1, q2, q3⟩ := hs1.flush (by rw [List.length_append]; omega)
    refine ⟨⟨q2, fun o ho => ?_, fun _ => ⟨hns, q3.shut.trans hns⟩, fun x => by rw [hns] at x; cases x⟩, Deaf.trans (b := { c with data := c.data ++ b.take n }) ⟨rfl, rfl, id⟩ (Zor _)⟩
    rw [q3.shut]; exact q1 o ho
theorem Did.end_ (h : Side isn w c) (hb : isn + 1 + w.length < lim) : Did isn w [] c c.end_.1 c.end_.2.2 ∧ Deaf c c.end_.2.2 := by
  unfold Cn.end_; split
  . rename_i hst; have key : ∀ k, (k = if c.st = 3 then 4 else 8) -> k ≠ 1 ∧ k ≠ 2 ∧ k ≠ 3 ∧ k ≠ 6 := by intro k hk; subst hk; split <;> exact ⟨by decide, by decide, by decide, by decide⟩
    obtain ⟨k1, k2, k3, k4⟩ := key _ rfl; have hs1 : Side isn w { c with st := if c.st = 3 then 4 else 8, shut := true } :=
      ⟨h.first, h.una, h.sent, (fun x => by
        rcases x with x | x; exact absurd x k1
        . exact absurd x k2), fun _ => ⟨k3, k4, k1, k2⟩, fun x => ⟨rfl, (h.bye x).2⟩⟩
    obtain ⟨q1, q2, q3⟩ := hs1.flush hb; refine ⟨⟨by rw [List.append_nil]; exact q2, fun o ho => by rw [List.append_nil, q3.shut]; exact q1 o ho, fun x => absurd rfl x, fun _ => q3.shut⟩, Deaf.trans (b := { c with st := if c.st = 3 then 4 else 8, shut := true }) ⟨rfl, rfl, fun x => absurd x k1⟩ (Zor _)⟩
  exact ⟨(Good.none_ h).did, Deaf.refl c⟩
theorem Did.read (h : Side isn w c) (n : Nat) : Did isn w [] c (c.read n).2.1 (c.read n).2.2 := by
  unfold Cn.read; cases c.inn with
  | none => exact (Good.none_ h).did
  | some j =>
    simp only [Znn]; have hs : Side isn w { c with inn := some (j.read n).2 } := ⟨h.first, h.una, h.sent, h.early, h.shut, h.bye⟩
    refine Good.did ⟨fun o ho => ?_, hs, rfl⟩; split at ho; rw [List.mem_singleton.1 ho]; exact Gen.nod _; cases ho
theorem Hears.read (h : Hears isn w e c rd) (n : Nat) : Hears isn w e (c.read n).2.2 (rd ++ (c.read n).1) := by
  unfold Cn.read; generalize hi : c.inn = i
  match i, hi with
  | none, hi =>
    simp only [Znn, List.append_nil]; exact h
  | some j, hi =>
    simp only [Znn]; obtain ⟨N, h1, h2⟩ := h.jn j hi; refine ⟨(fun x => by cases x), fun x => ?_, fun j' hj' => ?_⟩
    have x : c.st = 1 := x; rw [h.one x] at hi; cases hi; cases hj'; exact ⟨N, h1.read n, h2⟩
theorem Good.again (h : Side isn w c) (hb : isn + 1 + w.length < lim) (h0 : c.st ≠ 0) : Good isn w c c.again.1 c.again.2.2 ∧ Deaf c c.again.2.2 := by
  have hl : Good isn w c c.lost.1 c.lost.2.2 ∧ Deaf c c.lost.2.2 := ⟨Good.lost h, ⟨rfl, rfl, (fun x => by cases x)⟩⟩
  have ht : ∀ n, Side isn w { c with tries := n } := fun n => ⟨h.first, h.una, h.sent, h.early, h.shut, h.bye⟩
  unfold Cn.again; split; exact ⟨⟨(fun o ho => by cases ho), h.dead, rfl⟩, ⟨rfl, rfl, (fun x => by cases x)⟩⟩
  . split; split; exact hl; refine ⟨⟨fun o ho => ?_, ht _, rfl⟩, ⟨rfl, rfl, id⟩⟩; rw [List.mem_singleton.1 ho]; exact Gen.hello h.first
    . split; split; exact hl; refine ⟨⟨fun o ho => ?_, ht _, rfl⟩, ⟨rfl, rfl, id⟩⟩; rw [List.mem_singleton.1 ho]; exact h.first_ hb _
      . split
        . rename_i hnb hby
          simp only [Bool.and_eq_true, Bool.not_eq_true'] at hby
          split; exact hl; refine ⟨⟨fun o ho => ?_, ht _, rfl⟩, ⟨rfl, rfl, id⟩⟩; rw [List.mem_singleton.1 ho]; obtain ⟨b1, b2⟩ := h.bye hby.1; exact h.fin_ hb b2 b1
        split; exact hl; rename_i hp; have hd : 0 < c.data.length := List.length_pos_iff.2 fun x => hp (.inr x); rename_i hns0 _; refine ⟨⟨fun o ho => ?_, ⟨h.first, h.una, ?_, h.early, h.shut, fun x => ?_⟩, rfl⟩, ⟨rfl, rfl, id⟩⟩; rw [List.mem_singleton.1 ho]; exact h.piece hb _; show c.sent + 1 <= c.data.length; omega; have := (h.bye x).2; omega
end
end Go.Conn
end
section
namespace Go.Conn
section
variable {isn : Nat} {w rd : List Int} {c : Cn} {e : Bool} {s : Sg}
theorem far {next size r n : Nat} (h1 : next <= 2000000) (h2 : size <= 4096) (h3 : r < 1000) (h4 : n <= 200) : Zco next size (2147483648 + r) n = false := by
  have k1 : ∀ m, m <= 200 -> Zds (addN (2147483648 + r) m) next size = false := fun m hm => by
    unfold Zds; rw [Zkq (by omega), Zlb (by omega) (by omega)]
    have : ¬ (2147483648 + r + m - next < size) := by omega
    rw [decide_eq_false this, Bool.and_false]
  have k0 : Zds (2147483648 + r) next size = false := by
    have := k1 0 (by omega)
    rwa [Zkq (by omega)] at this
  unfold Zco; split; rfl
  . split; exact decide_eq_false (by omega)
    . split; exact k0
      . rw [k0, k1 _ (by omega)]; rfl
end
structure W2 where
  c0 : Cn
  c1 : Cn
  w0 : List Int
  w1 : List Int
  r0 : List Int
  r1 : List Int
  y0 : List Sg
  y1 : List Sg
def W2.turn (W : W2) : W2 := ⟨W.c1, W.c0, W.w1, W.w0, W.r1, W.r0, W.y1, W.y0⟩
structure W2.Inv (a b : Nat) (W : W2) : Prop where
  s0 : Side a W.w0 W.c0
  s1 : Side b W.w1 W.c1
  h0 : Hears b W.w1 W.c1.shut W.c0 W.r0
  h1 : Hears a W.w0 W.c0.shut W.c1 W.r1
  g0 : ∀ s ∈ W.y0, Gen b W.w1 W.c1.shut s
  g1 : ∀ s ∈ W.y1, Gen a W.w0 W.c0.shut s
theorem W2.Inv.turn {a b : Nat} {W : W2} (h : W.Inv a b) : W.turn.Inv b a := ⟨h.s1, h.s0, h.h1, h.h0, h.g1, h.g0⟩
theorem W2.Inv.step {a b : Nat} {W : W2} (h : W.Inv a b) {x rd : List Int} {outs ys : List Sg} {d : Cn} (hd : Did a W.w0 x W.c0 outs d) (hh : Hears b W.w1 W.c1.shut d rd) (hy : ∀ s ∈ ys, s ∈ W.y0) :
    W2.Inv a b ⟨d, W.c1, W.w0 ++ x, W.w1, rd, W.r1, ys, W.y1 ++ outs⟩ := by
  have key : Hears a (W.w0 ++ x) d.shut W.c1 W.r1 ∧ ∀ s, Gen a W.w0 W.c0.shut s -> Gen a (W.w0 ++ x) d.shut s := by
    by_cases hx : x = []
    . subst hx; rw [List.append_nil]; cases hs : W.c0.shut with
      | true =>
        have h1 := h.h1; rw [hs] at h1; rw [hd.ends hs]; exact ⟨h1, fun s hs => hs⟩
      | false =>
        have h1 := h.h1; rw [hs] at h1; cases d.shut with
        | true => exact ⟨h1.ends, fun s hs => hs.ends⟩
        | false => exact ⟨h1, fun s hs => hs⟩
    obtain ⟨q1, q2⟩ := hd.more hx; have h1 := h.h1; rw [q1] at h1 ⊢; rw [q2]; exact ⟨h1.grow x, fun s hs => hs.grow x false⟩
  refine ⟨hd.side, h.s1, hh, key.1, fun s hs => h.g0 s (hy s hs), fun s hs => ?_⟩; rcases List.mem_append.1 hs with hs | hs; exact key.2 s (h.g1 s hs); exact hd.outs s hs
theorem fits {isn : Nat} {w rd : List Int} {c : Cn} {e : Bool} (h : Hears isn w e c rd) : rd.length <= w.length ∧ rd = w.take rd.length ∧ (c.got = true -> (∀ j, c.inn = some j -> j.rdy = []) -> rd.length = w.length) := by
  cases hi : c.inn with
  | none =>
    obtain ⟨rfl, h2⟩ := h.nil hi; exact ⟨Nat.zero_le _, rfl, fun hg => by rw [h2] at hg; cases hg⟩
  | some j =>
    obtain ⟨N, h1, h2⟩ := h.jn j hi; have hr := h1.rdy; have hle := h1.le; have hl : rd.length + j.rdy.length = N := by have := congrArg List.length hr; rw [List.length_append, List.length_take] at this; omega
    refine ⟨by omega, ?_, fun hg hj => ?_⟩
    . have := congrArg (List.take rd.length) hr; rw [List.take_append_of_le_length (Nat.le_refl _), List.take_length, List.take_take, Nat.min_eq_left (by omega)] at this
      exact this
    rw [hj j rfl, List.length_nil] at hl; have := (h2 hg).1; omega
end Go.Conn
end
section
namespace Go.Conn
def upF {α : Type} (f : Nat -> α) (k : Nat) (v : α) : Nat -> α := fun i => if i = k then v else f i
theorem Zcz {α : Type} {f : Nat -> α} {k : Nat} {v : α} : upF f k v k = v := if_pos rfl
theorem Zef {α : Type} {f : Nat -> α} {k i : Nat} {v : α} (h : i ≠ k) : upF f k v i = f i := if_neg h
structure PW where
  c : Nat -> Cn
  w : Nat -> List Int
  r : Nat -> List Int
  y : Nat -> List Sg
def PW.two (W : PW) : W2 := ⟨W.c 0, W.c 1, W.w 0, W.w 1, W.r 0, W.r 1, W.y 0, W.y 1⟩
def PI (isn : Nat -> Nat) (W : PW) : Prop := W.two.Inv (isn 0) (isn 1)
section
variable {isn : Nat -> Nat} {W : PW} {k : Nat}
theorem Zdr (hk : k < 2) : k = 0 ∨ k = 1 := by omega
theorem PI.side (h : PI isn W) (hk : k < 2) : Side (isn k) (W.w k) (W.c k) := by rcases Zdr hk with rfl | rfl; exact h.s0; exact h.s1
theorem PI.hears (h : PI isn W) (hk : k < 2) : Hears (isn (1 - k)) (W.w (1 - k)) (W.c (1 - k)).shut (W.c k) (W.r k) := by rcases Zdr hk with rfl | rfl; exact h.h0; exact h.h1
def PW.go (W : PW) (k : Nat) (d : Cn) (w rd : List Int) (ys outs : List Sg) : PW := ⟨upF W.c k d, upF W.w k w, upF W.r k rd, fun i => if i = k then ys else W.y i ++ outs⟩
theorem PI.go (h : PI isn W) (hk : k < 2) {x rd : List Int} {outs ys : List Sg} {d : Cn} (hd : Did (isn k) (W.w k) x (W.c k) outs d) (hh : Hears (isn (1 - k)) (W.w (1 - k)) (W.c (1 - k)).shut d rd) (hy : ∀ s ∈ ys, s ∈ W.y k) :
    PI isn (W.go k d (W.w k ++ x) rd ys outs) := by
  rcases Zdr hk with rfl | rfl; exact W2.Inv.step (W := W.two) h hd hh hy; exact (W2.Inv.step (W := W.two.turn) (W2.Inv.turn h) hd hh hy).turn
theorem Zcht {α : Type} {f : Nat -> α} {k : Nat} : upF f k (f k) = f := funext fun i => by unfold upF; split; rename_i e; rw [e]; rfl
theorem PI.call (h : PI isn W) (hk : k < 2) {x rd : List Int} {outs : List Sg} {d : Cn} (hd : Did (isn k) (W.w k) x (W.c k) outs d) (hh : Hears (isn (1 - k)) (W.w (1 - k)) (W.c (1 - k)).shut d rd) :
    PI isn ⟨upF W.c k d, upF W.w k (W.w k ++ x), upF W.r k rd, upF W.y (1 - k) (W.y (1 - k) ++ outs)⟩ := by
  have := h.go hk hd hh (ys := W.y k) fun s hs => hs; rcases Zdr hk with rfl | rfl <;> exact this
end
structure PB (W : PW) (n m : Nat) : Prop where
  w : ∀ k, k < 2 -> (W.w k).length <= n
  y : ∀ k, k < 2 -> (W.y k).length <= m
end Go.Conn
end
section
noncomputable section
namespace Go.Conn
def rnd (n : Nat) : Nat := if n = 0 then 0 else (n - 1) % 65535 + 1
theorem Zlw (n : Nat) : rnd n <= 65535 := by unfold rnd; split <;> omega
theorem Zbeh {n : Nat} (h : n <= 65535) : rnd n = n := by unfold rnd; split <;> omega
theorem Zgu (a b : Nat) : rnd (rnd a + b) = rnd (a + b) := by
  unfold rnd; by_cases h : a = 0; subst h; simp
  . rw [if_neg h, if_neg (by omega), if_neg (by omega)]; omega
theorem Zchl (n : Nat) : rnd (n % 65536 + n / 65536) = rnd n := by
  unfold rnd; by_cases h : n = 0; subst h; rfl
  . rw [if_neg h, if_neg (by omega)]; omega
def isB (x : Int) : Prop := 0 <= x ∧ x < 256
def AllB (l : List Int) : Prop := ∀ x ∈ l, isB x
theorem AllB.nil : AllB [] := fun _ h => by cases h
theorem AllB.app {a b : List Int} (h1 : AllB a) (h2 : AllB b) : AllB (a ++ b) := fun x h => (List.mem_append.1 h).elim (h1 x) (h2 x)
theorem AllB.get {l : List Int} (h : AllB l) {i : Nat} (hi : i < l.length) : isB (l.getD i 0) := by rw [List.getD_eq_getElem?_getD, List.getElem?_eq_getElem hi]; exact h _ (List.getElem_mem hi)
theorem AllB.drop {l : List Int} (h : AllB l) (n : Nat) : AllB (l.drop n) := fun x hx => h x (List.mem_of_mem_drop hx)
theorem AllB.take {l : List Int} (h : AllB l) (n : Nat) : AllB (l.take n) := fun x hx => h x (List.mem_of_mem_take hx)
def sumL : List Int -> Nat
  | [] => 0
  | [a] => a.toNat * 256
  | a :: b :: r => a.toNat * 256 + b.toNat + sumL r
theorem Zbgh : ∀ (i : Nat) (l : List Int), 2 * i + 1 < l.length -> sumL (l.take (2 * (i + 1))) = sumL (l.take (2 * i)) + ((l.getD (2 * i) 0).toNat * 256 + (l.getD (2 * i + 1) 0).toNat)
  | 0, a :: b :: r, _ => by simp [sumL]
  | i + 1, a :: b :: r, h => by
    have e1 : 2 * (i + 1 + 1) = 2 * (i + 1) + 1 + 1 := by omega
    have e2 : 2 * (i + 1) = 2 * i + 1 + 1 := by omega
    have ih := Zbgh i r (by simp only [List.length_cons] at h; omega)
    rw [e1]; simp only [List.take_succ_cons, sumL]; rw [ih]; rw [e2]; simp only [List.take_succ_cons, sumL, List.getD_cons_succ]; omega
  | 0, [], h => by simp at h
  | 0, [_], h => by simp at h
  | i + 1, [], h => by simp at h
  | i + 1, [_], h => by simp at h
theorem Zbgr : ∀ (k : Nat) (l : List Int), l.length = 2 * k + 1 -> sumL l = sumL (l.take (2 * k)) + (l.getD (2 * k) 0).toNat * 256
  | 0, [a], _ => by simp [sumL]
  | k + 1, a :: b :: r, h => by
    have ih := Zbgr k r (by simp only [List.length_cons] at h; omega)
    have e2 : 2 * (k + 1) = 2 * k + 1 + 1 := by omega
    rw [e2]; simp only [List.take_succ_cons, sumL, List.getD_cons_succ]; omega
  | 0, [], h => by simp at h
  | 0, _ :: _ :: _, h => by simp at h
  | k + 1, [], h => by simp at h
  | k + 1, [_], h => by simp at h
theorem Zxz : ∀ (l r : List Int), l.length % 2 = 0 -> sumL (l ++ r) = sumL l + sumL r
  | [], r, _ => by simp [sumL]
  | [_], r, h => by simp at h
  | a :: b :: l, r, h => by
    have := Zxz l r (by simp only [List.length_cons] at h; omega)
    simp only [List.cons_append, sumL, this]; omega
def addB (p : Nat) (l : List Int) : Nat := rnd (p + sumL l)
def Zgp (x y n : Nat) : Nat := rnd (x / 65536 + x % 65536 + y / 65536 + y % 65536 + 6 + n % 65536)
def Zcg (x y : Nat) (l : List Int) : Nat := addB (Zgp x y l.length) l
theorem Zcdd (x y n : Nat) : 0 < Zgp x y n := by
  unfold Zgp rnd; rw [if_neg (by omega)]; omega
def hi (n : Int) : Int := n / 256 % 256
def lo (n : Int) : Int := n % 256
theorem Zbjc (n : Int) : isB (hi n) := by unfold isB hi; omega
theorem Zbgm (n : Int) : isB (lo n) := by unfold isB lo; omega
def optB (s : Sg) : List Int := if s.big = 0 then [] else [2, 4, hi s.big, lo s.big]
def Zs (s : Sg) (t : Nat) : List Int :=
  [hi s.src, lo s.src, hi s.dst, lo s.dst, hi (s.seq / 65536 : Nat), lo (s.seq / 65536 : Nat), hi s.seq, lo s.seq, hi (s.ack / 65536 : Nat), lo (s.ack / 65536 : Nat), hi s.ack, lo s.ack,
    (if s.big = 0 then 80 else 96), s.flags, hi s.win, lo s.win, hi t, lo t, hi s.urg, lo s.urg] ++ (optB s ++ s.data)
def Zjt (x y : Nat) (s : Sg) : List Int := Zs s (65535 - Zcg x y (Zs s 0))
def outV (x y : Nat) (s : Sg) : List Int := if s.can then Zjt x y s else []
theorem Zps (s : Sg) (t : Nat) : (Zs s t).length = 20 + (if s.big = 0 then 0 else 4) + s.data.length := by unfold Zs optB; split <;> simp <;> omega
theorem Zbcs {s : Sg} (hf : 0 <= s.flags ∧ s.flags < 64) (hd : AllB s.data) (t : Nat) : AllB (Zs s t) := by
  unfold Zs; refine AllB.app (fun x hx => ?_) (AllB.app ?_ hd)
  . simp only [List.mem_cons, List.not_mem_nil, or_false] at hx; rcases hx with rfl | rfl | rfl | rfl | rfl | rfl | rfl | rfl | rfl | rfl | rfl | rfl | rfl | rfl | rfl | rfl | rfl | rfl | rfl | rfl <;> first | exact Zbjc _ | exact Zbgm _ | skip
    unfold isB; split <;> omega; exact ⟨hf.1, by omega⟩
  . unfold optB; split; exact AllB.nil
    . intro x hx; simp only [List.mem_cons, List.not_mem_nil, or_false] at hx; rcases hx with rfl | rfl | rfl | rfl <;> first | exact Zbjc _ | exact Zbgm _ | exact ⟨by omega, by omega⟩
theorem Zbxt (s : Sg) : ∃ A R : List Int, A.length = 16 ∧ ∀ t : Nat, Zs s t = A ++ (hi t :: lo t :: R) :=
  ⟨[hi s.src, lo s.src, hi s.dst, lo s.dst, hi (s.seq / 65536 : Nat), lo (s.seq / 65536 : Nat), hi s.seq, lo s.seq, hi (s.ack / 65536 : Nat), lo (s.ack / 65536 : Nat), hi s.ack, lo s.ack, (if s.big = 0 then 80 else 96), s.flags, hi s.win, lo s.win], [hi s.urg, lo s.urg] ++ (optB s ++ s.data), rfl, fun t => rfl⟩
theorem hilo (t : Nat) (ht : t <= 65535) : (hi (t : Int)).toNat * 256 + (lo (t : Int)).toNat = t := by unfold hi lo; omega
theorem Zbvr (s : Sg) (t : Nat) (ht : t <= 65535) : sumL (Zs s t) = sumL (Zs s 0) + t := by
  obtain ⟨A, R, hA, h⟩ := Zbxt s; rw [h t, h 0, Zxz _ _ (by omega), Zxz _ _ (by omega)]
  simp only [sumL]; have := hilo t ht; have h0 := hilo 0 (by omega)
  omega
theorem Zbro (x y : Nat) (s : Sg) : Zcg x y (Zjt x y s) = 65535 := by
  unfold Zjt; have hl : (Zs s (65535 - Zcg x y (Zs s 0))).length = (Zs s 0).length := by rw [Zps, Zps]
  have h1 : Zcg x y (Zs s 0) <= 65535 := Zlw _; have key : ∀ p S : Nat, 0 < p -> rnd (p + (S + (65535 - rnd (p + S)))) = 65535 := by
    intro p S hp; unfold rnd; rw [if_neg (by omega), if_neg (by omega)]; omega
  generalize ht : 65535 - Zcg x y (Zs s 0) = t at hl ⊢; have h2 : t <= 65535 := by omega
  have h3 : Zcg x y (Zs s 0) = 65535 - t := by omega
  unfold Zcg addB at h3 ⊢; rw [hl, Zbvr s t h2]; have := key (Zgp x y (Zs s 0).length) (sumL (Zs s 0)) (Zcdd _ _ _); rw [h3, show 65535 - (65535 - t) = t by omega] at this
  exact this
def Zv (l : List Int) (i : Nat) : Nat := (l.getD i 0).toNat * 256 + (l.getD (i + 1) 0).toNat
def Zdb (l : List Int) (i : Nat) : Nat := Zv l i * 65536 + Zv l (i + 2)
def Zbf : Nat -> List Int -> Int -> Option Int
  | 0, _, _ => none
  | f + 1, o, n =>
    if o.length = 0 ∨ o.getD 0 0 = 0 then some n
    else if o.getD 0 0 = 1 then Zbf f (o.drop 1) n
    else if o.length < 2 ∨ o.getD 1 0 < 2 ∨ (o.length : Int) < o.getD 1 0 then none
    else if o.getD 0 0 = 2 then (if o.getD 1 0 ≠ 4 then none else Zbf f (o.drop 4) (Zv o 2))
    else Zbf f (o.drop (o.getD 1 0).toNat) n
def Zt (b : List Int) : Nat := 4 * ((b.getD 12 0).toNat / 16)
def segB (b : List Int) (g : Int) : Sg := ⟨Zv b 0, Zv b 2, Zdb b 4, Zdb b 8, b.getD 13 0 % 64, Zv b 14, Zv b 18, g, b.drop (Zt b)⟩
def Zbv (x y : Nat) (b : List Int) : Option Sg :=
  if b.length < 20 ∨ Zt b < 20 ∨ b.length < Zt b ∨ Zcg x y b ≠ 65535 then none
  else (Zbf (Zt b) ((b.drop 20).take (Zt b - 20)) 0).map (segB b)
theorem Zkf {n : Int} (h0 : 0 <= n) (h1 : n <= 65535) : (((hi n).toNat * 256 + (lo n).toNat : Nat) : Int) = n := by unfold hi lo; omega
theorem Zbhv {n : Nat} (h1 : n < 4294967296) : ((hi (n / 65536 : Nat)).toNat * 256 + (lo (n / 65536 : Nat)).toNat) * 65536 + ((hi n).toNat * 256 + (lo n).toNat) = n := by unfold hi lo; omega
theorem Zks {n : Int} (h : i16 n = true) : 0 <= n ∧ n <= 65535 := by unfold i16 at h; simp only [Bool.and_eq_true, decide_eq_true_eq] at h; exact h
theorem Zfv {s : Sg} (h : s.fits = true) : (0 <= s.src ∧ s.src <= 65535) ∧ (0 <= s.dst ∧ s.dst <= 65535) ∧ (0 <= s.win ∧ s.win <= 65535) ∧ (0 <= s.urg ∧ s.urg <= 65535) ∧ (0 <= s.big ∧ s.big <= 65535) ∧ 0 <= s.flags ∧ s.flags < 64 := by unfold Sg.fits at h; simp only [Bool.and_eq_true, decide_eq_true_eq] at h; obtain ⟨⟨⟨⟨⟨⟨h1, h2⟩, h3⟩, h4⟩, h5⟩, h6⟩, h7⟩ := h; exact ⟨Zks h1, Zks h2, Zks h3, Zks h4, Zks h5, h6, h7⟩
theorem Zbuq (s : Sg) (t : Nat) : Zt (Zs s t) = if s.big = 0 then 20 else 24 := by
  show 4 * ((if s.big = 0 then (80 : Int) else 96).toNat / 16) = _
  split <;> rfl
theorem Zbnx (x y : Nat) {s : Sg} (hf : s.fits = true) (h1 : s.seq < 4294967296) (h2 : s.ack < 4294967296) : Zbv x y (Zjt x y s) = some s := by
  obtain ⟨f1, f2, f3, f4, f5, f6, f7⟩ := Zfv hf; have ht := Zbro x y s; unfold Zjt at ht ⊢; generalize 65535 - Zcg x y (Zs s 0) = t at ht ⊢; unfold Zbv; have hs := Zbuq s t; have hl := Zps s t; rw [if_neg (by rw [hs, hl, ht]; split <;> simp <;> omega)]
  have hseg : ∀ g : Int, segB (Zs s t) g = { s with big := g } := by
    intro g; have e1 : ((Zv (Zs s t) 0 : Nat) : Int) = s.src := Zkf f1.1 f1.2; have e2 : ((Zv (Zs s t) 2 : Nat) : Int) = s.dst := Zkf f2.1 f2.2; have e3 : Zdb (Zs s t) 4 = s.seq := Zbhv h1; have e4 : Zdb (Zs s t) 8 = s.ack := Zbhv h2; have e5 : (Zs s t).getD 13 0 % 64 = s.flags := by show s.flags % 64 = s.flags; omega
    have e6 : ((Zv (Zs s t) 14 : Nat) : Int) = s.win := Zkf f3.1 f3.2; have e7 : ((Zv (Zs s t) 18 : Nat) : Int) = s.urg := Zkf f4.1 f4.2; have e8 : (Zs s t).drop (Zt (Zs s t)) = s.data := by rw [hs]; unfold Zs optB; split <;> rfl
    unfold segB; rw [e1, e2, e3, e4, e5, e6, e7, e8]
  rw [hs]; by_cases hb : s.big = 0
  . have : Zbf 20 (List.take (20 - 20) (List.drop 20 (Zs s t))) 0 = some 0 := by show Zbf (19 + 1) (List.take 0 _) 0 = _; rw [List.take_zero]; rfl
    rw [if_pos hb, this, Option.map_some, hseg, ← hb]
  . rw [if_neg hb]; have e : List.take (24 - 20) (List.drop 20 (Zs s t)) = [2, 4, hi s.big, lo s.big] := by unfold Zs optB; simp only [if_neg hb]; rfl
    rw [e]; have : Zbf 24 [2, 4, hi s.big, lo s.big] 0 = some s.big := by
      show Zbf (22 + 1 + 1) _ _ = _; have k1 : ∀ f n, Zbf (f + 1) [2, 4, hi s.big, lo s.big] n = Zbf f [] ((Zv [2, 4, hi s.big, lo s.big] 2 : Nat) : Int) := by
        intro f n; show (if _ then _ else _) = _
        rw [if_neg (by simp), if_neg (by simp), if_neg (by simp), if_pos (by simp), if_neg (by simp)]; rfl
      rw [k1]; have : ((Zv [2, 4, hi s.big, lo s.big] 2 : Nat) : Int) = s.big := Zkf f5.1 f5.2; rw [this]; rfl
    rw [this, Option.map_some, hseg]
theorem Zfq {l : List Int} (h : AllB l) {i : Nat} (hi : i + 1 < l.length) : Zv l i <= 65535 := by
  obtain ⟨a1, a2⟩ := h.get (show i < l.length by omega)
  obtain ⟨b1, b2⟩ := h.get hi; unfold Zv; omega
theorem Zbls {l : List Int} (h : AllB l) {i : Nat} (hi : i + 3 < l.length) : Zdb l i < 4294967296 := by
  have := Zfq h (show i + 1 < l.length by omega)
  have := Zfq h (show i + 2 + 1 < l.length by omega)
  unfold Zdb; omega
theorem Zsc : ∀ (f : Nat) (o : List Int) (n g : Int), AllB o -> 0 <= n -> n <= 65535 -> Zbf f o n = some g -> 0 <= g ∧ g <= 65535
  | 0, _, _, _, _, _, _, h => by cases h
  | f + 1, o, n, g, ho, h0, h1, h => by
    unfold Zbf at h; split at h; cases h; exact ⟨h0, h1⟩; split at h; exact Zsc f _ n g (ho.drop 1) h0 h1 h; split at h; cases h; split at h
    . split at h; cases h
      . rename_i hn hk _ h4; have h4 : o.getD 1 0 = 4 := Classical.byContradiction h4; have : Zv o 2 <= 65535 := Zfq ho (by omega)
        exact Zsc f _ _ g (ho.drop 4) (by omega) (by omega) h
    exact Zsc f _ n g (ho.drop _) h0 h1 h
theorem Zbia {x y : Nat} {b : List Int} {s : Sg} (hb : AllB b) (h : Zbv x y b = some s) : s.fits = true ∧ s.seq < 4294967296 ∧ s.ack < 4294967296 ∧ AllB s.data ∧ s.data.length + 20 <= b.length := by
  unfold Zbv at h; split at h; cases h; rename_i hn; cases hg : Zbf (Zt b) ((b.drop 20).take (Zt b - 20)) 0 with
  | none => rw [hg] at h; cases h
  | some g =>
    rw [hg] at h; cases h; obtain ⟨g0, g1⟩ := Zsc _ _ _ _ ((hb.drop 20).take _) (Int.le_refl 0) (by omega) hg
    have q1 := Zfq hb (show 0 + 1 < b.length by omega)
    have q2 := Zfq hb (show 2 + 1 < b.length by omega)
    have q3 := Zfq hb (show 14 + 1 < b.length by omega)
    have q4 := Zfq hb (show 18 + 1 < b.length by omega)
    refine ⟨?_, Zbls hb (by omega), Zbls hb (by omega), hb.drop _, ?_⟩
    . have i : ∀ {z : Int}, 0 <= z -> z <= 65535 -> i16 z = true := fun h1 h2 => by unfold i16; rw [decide_eq_true h1, decide_eq_true h2]; rfl
      have f1 : 0 <= b.getD 13 0 % 64 := by omega
      have f2 : b.getD 13 0 % 64 < 64 := by omega
      show (i16 (Zv b 0 : Nat) && i16 (Zv b 2 : Nat) && i16 (Zv b 14 : Nat) && i16 (Zv b 18 : Nat) && i16 g && decide (0 <= b.getD 13 0 % 64) && decide (b.getD 13 0 % 64 < 64)) = true; rw [decide_eq_true f1, decide_eq_true f2, i (by omega) (by omega), i (by omega) (by omega), i (by omega) (by omega), i (by omega) (by omega), i g0 g1]; rfl
    show (b.drop (Zt b)).length + 20 <= b.length; rw [List.length_drop]; omega
end Go.Conn
end
section
noncomputable section
namespace Go.Conn
structure Goes (g : Sg) : Prop where
  can : g.can = true
  data : AllB g.data
  len : g.data.length <= 4096
structure JFine (j : Jn) : Prop where
  rdy : AllB j.rdy
  held : ∀ i x, j.held i = some x -> isB x
structure Cn.Fine (c : Cn) : Prop where
  src : i16 c.src = true
  dst : i16 c.dst = true
  data : AllB c.data
  len : c.data.length <= 4096
  inn : ∀ j, c.inn = some j -> JFine j
theorem Zgq {z : Int} (h1 : 0 <= z) (h2 : z <= 65535) : i16 z = true := by unfold i16; rw [decide_eq_true h1, decide_eq_true h2]; rfl
theorem i0 : i16 0 = true := by decide
theorem Zlp {s : Sg} (h1 : i16 s.src = true) (h2 : i16 s.dst = true) (h3 : i16 s.win = true) (h4 : i16 s.urg = true) (h5 : i16 s.big = true) (h6 : 0 <= s.flags) (h7 : s.flags < 64) (h8 : s.data.length <= 65495) : s.can = true := by unfold Sg.can Sg.fits; rw [h1, h2, h3, h4, h5, decide_eq_true h6, decide_eq_true h7, decide_eq_true h8]; rfl
theorem room_le (c : Cn) : c.room <= 4096 := by unfold Cn.room; split; exact Nat.le_refl _; unfold Jn.win; omega
section
variable {c d : Cn} {s : Sg}
theorem Cn.Fine.mk' (h : c.Fine) (at_ : Nat) {f : Int} {b : List Int} (h0 : 0 <= f) (h1 : f < 64) (hb : AllB b) (hl : b.length <= 4096) : Goes (c.mk' at_ f b) := by have hr := room_le c; exact ⟨Zlp h.src h.dst (Zgq (by show (0 : Int) <= (c.room : Nat); omega) (by show ((c.room : Nat) : Int) <= 65535; omega)) i0 i0 h0 h1 (by show b.length <= 65495; omega), hb, hl⟩
theorem Cn.Fine.hello (h : c.Fine) : Goes c.hello := by
  have hr := room_le c; have hf : ∀ n : Nat, (0 : Int) <= (if n = 2 then 18 else if n = 1 then 2 else 0) ∧ (if n = 2 then 18 else if n = 1 then 2 else 0 : Int) < 64 := fun n => by by_cases e : n = 2; rw [if_pos e]; omega; rw [if_neg e]; by_cases e1 : n = 1; rw [if_pos e1]; omega; rw [if_neg e1]; omega
  exact ⟨Zlp h.src h.dst (Zgq (by show (0 : Int) <= (c.room : Nat); omega) (by show ((c.room : Nat) : Int) <= 65535; omega)) i0 (show i16 1460 = true by decide) (hf c.st).1 (hf c.st).2 (by show 0 <= 65495; omega), AllB.nil, Nat.zero_le _⟩
theorem Cn.Fine.nod (h : c.Fine) : Goes c.nod := h.mk' _ (by decide) (by decide) AllB.nil (by show 0 <= 4096; omega)
theorem Cn.Fine.fin (h : c.Fine) : Goes c.fin := h.mk' _ (by decide) (by decide) AllB.nil (by show 0 <= 4096; omega)
theorem Cn.Fine.piece (h : c.Fine) (n : Nat) : Goes (c.piece n) := h.mk' _ (by decide) (by decide) ((h.data.drop _).take _) (by have := h.len; simp; omega)
theorem Cn.Fine.same (h : c.Fine) (e1 : d.src = c.src) (e2 : d.dst = c.dst) (e3 : d.data = c.data) (e4 : d.inn = c.inn) : d.Fine :=
  ⟨by rw [e1]; exact h.src, by rw [e2]; exact h.dst, by rw [e3]; exact h.data, by rw [e3]; exact h.len, by rw [e4]; exact h.inn⟩
def Zhz (l : List Sg) (d : Cn) : Prop := (∀ g ∈ l, Goes g) ∧ d.Fine
theorem Cn.Fine.sends : ∀ (f : Nat) {c : Cn}, c.Fine -> Zhz (c.sends f).1 (c.sends f).2 ∧ (c.sends f).1.length <= f
  | 0, c, h => ⟨⟨(fun g hg => by cases hg), h⟩, Nat.le_refl _⟩
  | f + 1, c, h => by
    unfold Cn.sends; by_cases e : c.may = 0; rw [if_pos e]; exact ⟨⟨(fun g hg => by cases hg), h⟩, Nat.zero_le _⟩
    . rw [if_neg e]; have h2 : ({ c with sent := c.sent + c.may } : Cn).Fine := h.same rfl rfl rfl rfl
      obtain ⟨⟨i1, i2⟩, i3⟩ := Cn.Fine.sends f h2; refine ⟨⟨fun g hg => ?_, i2⟩, by simp only [List.length_cons]; omega⟩
      rcases List.mem_cons.1 hg with rfl | hg; exact h.piece _; exact i1 g hg
theorem Cn.Fine.byes (h : c.Fine) : Zhz c.byes.1 c.byes.2 ∧ c.byes.1.length <= 1 := by
  unfold Cn.byes; split; exact ⟨⟨fun g hg => by rw [List.mem_singleton.1 hg]; exact h.fin, h.same rfl rfl rfl rfl⟩, Nat.le_refl _⟩
  exact ⟨⟨(fun g hg => by cases hg), h⟩, Nat.zero_le _⟩
theorem Cn.Fine.flush (h : c.Fine) : Zhz c.flush.1 c.flush.2 ∧ c.flush.1.length <= 4098 := by
  unfold Cn.flush; split
  . obtain ⟨⟨a1, a2⟩, a3⟩ := h.sends 4097; obtain ⟨⟨b1, b2⟩, b3⟩ := a2.byes; refine ⟨⟨fun g hg => ?_, b2⟩, by simp only [List.length_append]; omega⟩
    rcases List.mem_append.1 hg with hg | hg; exact a1 g hg; exact b1 g hg
  exact ⟨⟨(fun g hg => by cases hg), h⟩, Nat.zero_le _⟩
theorem JFine.new (n : Nat) : JFine ⟨n, [], fun _ => none⟩ := ⟨AllB.nil, fun _ _ h => by cases h⟩
theorem JFine.hold {j : Jn} (h : JFine j) (b : Nat) {l : List Int} (hl : AllB l) : JFine (j.hold b l) := by refine ⟨h.rdy, fun i x hx => ?_⟩; unfold Jn.hold at hx; simp only [Option.or_eq_some_iff] at hx; rcases hx with hx | ⟨_, hx⟩; exact h.held i x hx; split at hx; exact hl x (List.mem_of_getElem? hx); cases hx
theorem JFine.move : ∀ (f : Nat) {j : Jn}, JFine j -> JFine (j.move f)
  | 0, _, h => h
  | f + 1, j, h => by
    unfold Jn.move; cases e : j.held 0 with
    | none => exact h
    | some x => exact JFine.move f ⟨h.rdy.app fun y hy => by rw [List.mem_singleton.1 hy]; exact h.held 0 x e, fun i y hy => h.held _ y hy⟩
theorem JFine.add {j : Jn} (h : JFine j) (a : Nat) {b : List Int} (hb : AllB b) : JFine (j.add a b) := by unfold Jn.add; split; exact h; exact (h.hold _ ((hb.drop _).take _)).move _
theorem Cn.Fine.jn (h : c.Fine) {k : Jn} (hk : JFine k) (e1 : d.src = c.src) (e2 : d.dst = c.dst) (e3 : d.data = c.data) (e4 : d.inn = some k) : d.Fine :=
  ⟨by rw [e1]; exact h.src, by rw [e2]; exact h.dst, by rw [e3]; exact h.data, by rw [e3]; exact h.len, fun j hj => by rw [e4] at hj; cases hj; exact hk⟩
theorem Cn.Fine.begin_ (h : c.Fine) (s : Sg) : (c.begin s).Fine :=
  ⟨h.src, h.dst, AllB.nil, Nat.zero_le _, fun j hj => by cases hj; exact JFine.new _⟩
theorem Cn.Fine.ackd (h : c.Fine) {a w n : Nat} (e : c.ackd a w = some (n, d)) : d.Fine := by unfold Cn.ackd at e; simp only at e; split at e; cases e; cases e; exact ⟨h.src, h.dst, h.data.drop _, by have := h.len; simp; omega, h.inn⟩
theorem Cn.Fine.welcome (h : c.Fine) (s : Sg) : (c.welcome s).Fine := by
  unfold Cn.welcome; have h3 : ({ c with st := 3, tries := 0 } : Cn).Fine := h.same rfl rfl rfl rfl
  exact Zwx (p := Cn.Fine) (fun n d e => h3.ackd e) h3
theorem Cn.Fine.finished (h : c.Fine) : c.finished.Fine := by unfold Cn.finished; split; exact h; exact h.same rfl rfl rfl rfl
theorem Cn.Fine.quiet (h : c.Fine) (s : Sg) : (c.quiet s).Fine := by unfold Cn.quiet; split; exact h.same rfl rfl rfl rfl; exact h
theorem Cn.Fine.lastN (h : c.Fine) (a w : Nat) : (lastN (c.ackd a w) c).Fine := by
  cases e : c.ackd a w with
  | none => exact h
  | some p =>
    obtain ⟨n, d⟩ := p; have hd := h.ackd e; show (if 0 < n ∨ c.sure = false then d.news else d).Fine
    split; exact hd.same rfl rfl rfl rfl; exact hd
theorem Cn.Fine.acknowledged (h : c.Fine) (s : Sg) : (c.acknowledged s).2.Fine := by
  unfold Cn.acknowledged; cases e : c.ackd s.ack s.win.toNat with
  | some p => obtain ⟨n, d⟩ := p; exact (h.ackd e).quiet s
  | none =>
    show (if c.bye && decide (s.ack = c.last) then (true, ((Conn.lastN (c.ackd c.onext s.win.toNat) c).finished).quiet s) else (Zlo s.ack c.una, c)).2.Fine
    split; exact ((h.lastN _ _).finished).quiet s; exact h
theorem Cn.Fine.takes (h : c.Fine) (hs : AllB s.data) : (c.takes s).Fine := by
  unfold Cn.takes; cases e : c.inn with
  | none => exact h
  | some j =>
    have hj := (h.inn j e).add s.seq hs; show (if c.st = 3 ∨ c.st = 4 ∨ c.st = 5 then c.joined s (j.add s.seq s.data) else c).Fine
    split; unfold Cn.joined; split; exact h.jn hj rfl rfl rfl rfl; exact h.jn hj rfl rfl rfl rfl; exact h
theorem Cn.Fine.lost (h : c.Fine) : Zhz c.lost.1 c.lost.2.2 := ⟨fun g hg => (by cases hg), h.same rfl rfl rfl rfl⟩
theorem Zbea (hs : s.fits = true) : ∀ g ∈ Cn.refuse s, Goes g := by
  intro g hg; obtain ⟨f1, f2, _⟩ := Zfv hs; have i1 := Zgq f1.1 f1.2; have i2 := Zgq f2.1 f2.2; unfold Cn.refuse Sg.reset at hg; by_cases e1 : s.rst = true; rw [if_pos e1] at hg; cases hg; rw [if_neg e1] at hg; by_cases e2 : s.acks = true; rw [if_pos e2] at hg; rw [List.mem_singleton.1 hg]; exact ⟨Zlp i2 i1 i0 i0 i0 (show (0 : Int) <= 4 by decide) (show (4 : Int) < 64 by decide) (Nat.zero_le _), AllB.nil, Nat.zero_le _⟩
  rw [if_neg e2] at hg; rw [List.mem_singleton.1 hg]; exact ⟨Zlp i2 i1 i0 i0 i0 (show (0 : Int) <= 20 by decide) (show (20 : Int) < 64 by decide) (Nat.zero_le _), AllB.nil, Nat.zero_le _⟩
theorem Zbfn (s : Sg) : (Cn.refuse s).length <= 1 := by unfold Cn.refuse; split <;> simp
def Zbb (a : Ans) : Prop := Zhz a.1 a.2.2 ∧ a.1.length <= 4098
theorem Zbb.none_ (h : c.Fine) (e : Int) : Zbb ([], e, c) := ⟨⟨(fun g hg => by cases hg), h⟩, Nat.zero_le _⟩
theorem Zbb.nod (h : c.Fine) (h2 : d.Fine) (e : Int) : Zbb ([c.nod], e, d) := ⟨⟨fun g hg => by rw [List.mem_singleton.1 hg]; exact h.nod, h2⟩, by show 1 <= 4098; omega⟩
theorem Zbb.refuse (h : c.Fine) (hs : s.fits = true) (e : Int) : Zbb (Cn.refuse s, e, c) := ⟨⟨Zbea hs, h⟩, Nat.le_trans (Zbfn s) (by omega)⟩
theorem Zbb.flushed (h : c.Fine) (p : Prop) [Decidable p] : Zbb (if p then [c.flush.2.nod] else c.flush.1, 0, c.flush.2) := by obtain ⟨⟨h1, h2⟩, h3⟩ := h.flush; by_cases e : p; rw [if_pos e]; exact Zbb.nod h2 h2 0; rw [if_neg e]; exact ⟨⟨h1, h2⟩, h3⟩
theorem Zbb.lost (h : c.Fine) : Zbb c.lost := ⟨h.lost, Nat.zero_le _⟩
theorem Cn.Fine.rest (h : c.Fine) (hs : AllB s.data) : Zbb (c.rest s) := by unfold Cn.rest; split; exact Zbb.none_ h _; exact Zbb.flushed (h.takes hs) _
theorem Cn.Fine.answer (h : c.Fine) (hf : s.fits = true) : Zbb (c.answer s) := by
  unfold Cn.answer; split; exact Zbb.refuse h hf _; split; split; exact Zbb.lost h; exact Zbb.none_ h _; split; exact Zbb.none_ h _; simp only; split
  . have hb : ({ c.begin s with st := 2 } : Cn).Fine := (h.begin_ s).same rfl rfl rfl rfl
    exact ⟨⟨fun g hg => by rw [List.mem_singleton.1 hg]; exact hb.hello, hb⟩, by show 1 <= 4098; omega⟩
  exact Zbb.flushed ((h.begin_ s).welcome s) _
theorem Cn.Fine.take (h : c.Fine) (hf : s.fits = true) (hs : AllB s.data) : Zbb (c.take s) := by unfold Cn.take; simp only; split; exact Zbb.none_ h _; split; exact Zbb.nod h h _; split; exact Zbb.lost h; split; exact Zbb.none_ h _; split; split; exact (h.acknowledged s).rest hs; exact Zbb.nod (h.acknowledged s) (h.acknowledged s) _; split; exact Zbb.refuse h hf _; exact (h.welcome s).rest hs
theorem Cn.Fine.Take (h : c.Fine) (hf : s.fits = true) (hs : AllB s.data) : Zbb (c.Take s) := by unfold Cn.Take; split; exact Zbb.none_ h _; split; exact Zbb.none_ h _; split; exact h.answer hf; exact h.take hf hs
theorem Cn.Fine.write (h : c.Fine) {b : List Int} (hb : AllB b) : Zbb (c.write b).2 := by
  unfold Cn.write; split; exact Zbb.none_ h _
  . have h2 : ({ c with data := c.data ++ b.take (min b.length (4096 - c.data.length)) } : Cn).Fine := ⟨h.src, h.dst, h.data.app (hb.take _), by have := h.len; simp; omega, h.inn⟩
    exact ⟨h2.flush.1, h2.flush.2⟩
theorem Cn.Fine.end_ (h : c.Fine) : Zbb c.end_ := by
  unfold Cn.end_; split
  . have h2 : ({ c with st := if c.st = 3 then 4 else 8, shut := true } : Cn).Fine := h.same rfl rfl rfl rfl
    exact ⟨h2.flush.1, h2.flush.2⟩
  exact Zbb.none_ h _
theorem Cn.Fine.read (h : c.Fine) (n : Nat) : (∀ g ∈ (c.read n).2.1, Goes g) ∧ (c.read n).2.2.Fine ∧ AllB (c.read n).1 ∧ (c.read n).2.1.length <= 1 := by
  unfold Cn.read; cases e : c.inn with
  | none => exact ⟨(fun g hg => by cases hg), h, AllB.nil, Nat.zero_le _⟩
  | some j =>
    have hj := h.inn j e; have h2 : ({ c with inn := some (j.read n).2 } : Cn).Fine := h.jn (k := (j.read n).2) ⟨hj.rdy.drop _, hj.held⟩ rfl rfl rfl rfl
    refine ⟨fun g hg => ?_, h2, hj.rdy.take _, ?_⟩
    . change g ∈ (if j.win = 0 ∧ 0 < (j.read n).2.win ∧ 3 <= c.st ∧ c.st <= 5 then [Cn.nod { c with inn := some (j.read n).2 }] else []) at hg
      split at hg; rw [List.mem_singleton.1 hg]; exact h2.nod; cases hg
    . show (if j.win = 0 ∧ 0 < (j.read n).2.win ∧ 3 <= c.st ∧ c.st <= 5 then [Cn.nod { c with inn := some (j.read n).2 }] else []).length <= 1
      split <;> simp
theorem Zbgv {src dst : Int} (first : Nat) (h1 : i16 src = true) (h2 : i16 dst = true) : (Cn.new src dst first).Fine :=
  ⟨h1, h2, AllB.nil, Nat.zero_le _, fun j hj => by cases hj⟩
theorem Zbig {src dst : Int} (first : Nat) (h1 : i16 src = true) (h2 : i16 dst = true) : Zhz (dial src dst first).1 (dial src dst first).2 := by
  have h : ({ Cn.new src dst first with st := 1 } : Cn).Fine := (Zbgv first h1 h2).same rfl rfl rfl rfl
  exact ⟨fun g hg => by rw [List.mem_singleton.1 hg]; exact h.hello, h⟩
theorem Zbkt (hs : s.fits = true) (first : Nat) : Zhz (accept s first).1 (accept s first).2 := by
  obtain ⟨f1, f2, _⟩ := Zfv hs; have h : (({ Cn.new s.dst s.src first with st := 2 } : Cn).begin s).Fine := by
    have h2 : ({ Cn.new s.dst s.src first with st := 2 } : Cn).Fine := (Zbgv first (Zgq f2.1 f2.2) (Zgq f1.1 f1.2)).same rfl rfl rfl rfl
    exact h2.begin_ s
  exact ⟨fun g hg => by rw [List.mem_singleton.1 hg]; exact h.hello, h⟩
end
end Go.Conn
end
section
noncomputable section
namespace Go.Conn
abbrev Key := Int × Int × Int
structure En where
  k : Key
  id : Nat
  c : Cn
structure Stk where
  me : Nat
  seed : Nat
  ports : List Int
  l : List En
  count : Nat
  now : Int
def Cn.ready (c : Cn) : Nat := (c.inn.map fun j => j.rdy.length).getD 0
def evs (id s0 r0 : Nat) (c : Cn) : List (Int × Int) :=
  (if s0 < 3 ∧ 3 <= c.st then [(1, (id : Int))] else []) ++ ((if r0 < c.ready then [(2, (id : Int))] else []) ++
    (if c.st = 6 ∨ c.st = 7 ∨ c.st = 9 then (if s0 <= 5 then [(3, (id : Int))] else []) else if c.st = 0 then [(4, (id : Int))] else []))
def Stk.first (S : Stk) : Nat := addN S.seed (64000 * (S.count + 1))
def Stk.byK (S : Stk) (k : Key) : Option En := S.l.find? fun e => k = e.k
def Stk.byI (S : Stk) (i : Int) : Option En := S.l.find? fun e => i = e.id
def Stk.add (S : Stk) (k : Key) (c : Cn) : Stk := { S with l := S.l ++ [⟨k, S.count + 1, c⟩], count := S.count + 1 }
def Zdx (id : Nat) (c : Cn) (e : En) : En := if e.id = id then { e with c := c } else e
def Stk.turn (S : Stk) (id : Nat) (c : Cn) : Stk := { S with l := S.l.map (Zdx id c) }
def Stk.gone (S : Stk) (id : Nat) : Stk := { S with l := S.l.filter fun e => e.id ≠ id }
def Stk.settle (S : Stk) (id : Nat) (c : Cn) : Stk := if c.st = 0 then S.gone id else S
def Stk.at_ (S : Stk) (now : Int) : Stk := { S with now := now }
def Stk.dials (S : Stk) (s : Sg) : Bool := S.ports.contains s.dst && decide (s.span = 1) && Zcd s.src && (s.syn && !s.fin && !s.rst && !s.acks)
def Stk.stranger (S : Stk) (k : Key) (s : Sg) : List Sg × Stk :=
  if S.dials s then (if 16 <= S.l.length then ([], S) else ((accept s S.first).1, S.add k (accept s S.first).2)) else (Cn.refuse s, S)
structure Took where
  outs : List Sg
  evs : List (Int × Int)
  S : Stk
def Stk.meet (S : Stk) (from_ : Nat) (s : Sg) : Took := match S.byK ((from_ : Int), s.src, s.dst) with
  | some e => ⟨(e.c.Take s).1, Conn.evs e.id e.c.st e.c.ready (e.c.Take s).2.2, (S.turn e.id (e.c.Take s).2.2).settle e.id (e.c.Take s).2.2⟩
  | none => ⟨(S.stranger ((from_ : Int), s.src, s.dst) s).1, [], (S.stranger ((from_ : Int), s.src, s.dst) s).2⟩
def Stk.take (S : Stk) (now : Int) (from_ : Nat) (b : List Int) : Took := match Zbv from_ S.me b with
  | none => ⟨[], [], S.at_ now⟩
  | some s => (S.at_ now).meet from_ s
structure Stk.Ok (S : Stk) : Prop where
  me : S.me < 4294967296
  seed : S.seed < 4294967296
  ports : ∀ p ∈ S.ports, Zcd p = true
  nports : S.ports.length <= 8
  now : 0 <= S.now
  len : S.l.length <= 16
  ids : S.l.Pairwise fun a b => a.id < b.id
  keys : (S.l.map (·.k)).Nodup
  le : ∀ e ∈ S.l, 1 <= e.id ∧ e.id <= S.count
  fine : ∀ e ∈ S.l, e.c.Fine
section
variable {S : Stk}
theorem Zcdr (id : Nat) (c : Cn) (e : En) : (Zdx id c e).k = e.k := by unfold Zdx; split <;> rfl
theorem Zwq (id : Nat) (c : Cn) (e : En) : (Zdx id c e).id = e.id := by unfold Zdx; split <;> rfl
theorem Zcdk {k : Key} {e : En} (h : S.byK k = some e) : e ∈ S.l ∧ e.k = k := by have := List.find?_some h; exact ⟨List.mem_of_find?_eq_some h, (of_decide_eq_true this).symm⟩
theorem Zckk {k : Key} (h : S.byK k = none) : ∀ e ∈ S.l, e.k ≠ k := fun e he hk => by have := List.find?_eq_none.1 h e he; exact this (decide_eq_true hk.symm)
theorem Stk.Ok.one (h : S.Ok) {e e' : En} (he : e ∈ S.l) (he' : e' ∈ S.l) (hi : e.id = e'.id) : e = e' := by
  have key : ∀ {l : List En}, (l.Pairwise fun a b => a.id < b.id) -> e ∈ l -> e' ∈ l -> e = e' := by
    intro l; induction l with
    | nil => exact fun _ h => absurd h List.not_mem_nil
    | cons x l ih =>
      intro hp h1 h2; obtain ⟨p1, p2⟩ := List.pairwise_cons.1 hp; rcases List.mem_cons.1 h1 with e1 | h1; rcases List.mem_cons.1 h2 with e2 | h2; rw [e1, e2]; have := p1 e' h2; rw [← e1] at this; omega; rcases List.mem_cons.1 h2 with e2 | h2; have := p1 e h1; rw [← e2] at this; omega; exact ih p2 h1 h2
  exact key h.ids he he'
theorem Stk.Ok.oneK (h : S.Ok) {e e' : En} (he : e ∈ S.l) (he' : e' ∈ S.l) (hi : e.k = e'.k) : e = e' := by
  have key : ∀ {l : List En}, (l.map (·.k)).Nodup -> e ∈ l -> e' ∈ l -> e = e' := by
    intro l; induction l with
    | nil => exact fun _ h => absurd h List.not_mem_nil
    | cons x l ih =>
      intro hp h1 h2; obtain ⟨p1, p2⟩ := List.nodup_cons.1 hp; rcases List.mem_cons.1 h1 with e1 | h1; rcases List.mem_cons.1 h2 with e2 | h2; rw [e1, e2]; exact absurd (List.mem_map.2 ⟨e', h2, by rw [← hi, e1]⟩) p1
      . rcases List.mem_cons.1 h2 with e2 | h2; exact absurd (List.mem_map.2 ⟨e, h1, by rw [hi, e2]⟩) p1
        exact ih p2 h1 h2
  exact key h.keys he he'
theorem Stk.Ok.at_ (h : S.Ok) {now : Int} (hn : 0 <= now) : (S.at_ now).Ok := ⟨h.me, h.seed, h.ports, h.nports, hn, h.len, h.ids, h.keys, h.le, h.fine⟩
theorem Stk.Ok.turn (h : S.Ok) (id : Nat) {c : Cn} (hc : c.Fine) : (S.turn id c).Ok := by refine ⟨h.me, h.seed, h.ports, h.nports, h.now, ?_, ?_, ?_, fun e he => ?_, fun e he => ?_⟩; show (S.l.map (Zdx id c)).length <= 16; rw [List.length_map]; exact h.len; show (S.l.map (Zdx id c)).Pairwise _; rw [List.pairwise_map]; refine h.ids.imp fun {a b} hab => ?_; rw [Zwq, Zwq]; exact hab; show ((S.l.map (Zdx id c)).map (·.k)).Nodup; rw [List.map_map]; have : ((fun x : En => x.k) ∘ Zdx id c) = fun x => x.k := funext fun e => Zcdr id c e; rw [this]; exact h.keys; obtain ⟨e0, h0, rfl⟩ := List.mem_map.1 he; rw [Zwq]; exact h.le e0 h0; obtain ⟨e0, h0, rfl⟩ := List.mem_map.1 he; unfold Zdx; split; exact hc; exact h.fine e0 h0
theorem Stk.Ok.gone (h : S.Ok) (id : Nat) : (S.gone id).Ok :=
  ⟨h.me, h.seed, h.ports, h.nports, h.now, Nat.le_trans (List.length_filter_le _ _) h.len, h.ids.filter _, h.keys.sublist (List.filter_sublist.map _), fun e he => h.le e (List.mem_filter.1 he).1, fun e he => h.fine e (List.mem_filter.1 he).1⟩
theorem Stk.Ok.settle (h : S.Ok) (id : Nat) (c : Cn) : (S.settle id c).Ok := by unfold Stk.settle; split; exact h.gone id; exact h
theorem Stk.Ok.add (h : S.Ok) {k : Key} {c : Cn} (hc : c.Fine) (hk : S.byK k = none) (hl : S.l.length < 16) : (S.add k c).Ok := by
  refine ⟨h.me, h.seed, h.ports, h.nports, h.now, ?_, ?_, ?_, fun e he => ?_, fun e he => ?_⟩; show (S.l ++ [_]).length <= 16; rw [List.length_append]; simp; omega; show (S.l ++ [_]).Pairwise _; rw [List.pairwise_append]; refine ⟨h.ids, List.pairwise_singleton _ _, fun a ha b hb => ?_⟩; rw [List.mem_singleton.1 hb]; have := (h.le a ha).2; show a.id < S.count + 1; omega
  . show ((S.l ++ [_]).map (fun e : En => e.k)).Nodup; rw [List.map_append, List.nodup_append]; refine ⟨h.keys, by simp, fun a ha b hb => ?_⟩
    obtain ⟨e, he, rfl⟩ := List.mem_map.1 ha; rw [List.mem_singleton.1 hb]; exact Zckk hk e he
  rcases List.mem_append.1 he with he | he; have := h.le e he; exact ⟨this.1, Nat.le_succ_of_le this.2⟩; rw [List.mem_singleton.1 he]; exact ⟨Nat.le_add_left 1 _, Nat.le_refl _⟩; rcases List.mem_append.1 he with he | he; exact h.fine e he; rw [List.mem_singleton.1 he]; exact hc
theorem Stk.Ok.stranger (h : S.Ok) {k : Key} {s : Sg} (hk : S.byK k = none) (hs : s.fits = true) : (S.stranger k s).2.Ok ∧ (∀ g ∈ (S.stranger k s).1, Goes g) ∧ (S.stranger k s).1.length <= 1 := by
  unfold Stk.stranger; split
  . split; exact ⟨h, (fun g hg => by cases hg), Nat.zero_le _⟩
    obtain ⟨a1, a2⟩ := Zbkt hs S.first; exact ⟨h.add a2 hk (by omega), a1, Nat.le_refl 1⟩
  exact ⟨h, Zbea hs, Zbfn s⟩
theorem Stk.Ok.meet (h : S.Ok) (from_ : Nat) {s : Sg} (hs : s.fits = true) (hd : AllB s.data) : (S.meet from_ s).S.Ok ∧ (∀ g ∈ (S.meet from_ s).outs, Goes g) ∧ (S.meet from_ s).outs.length <= 4098 := by
  unfold Stk.meet; cases e : S.byK ((from_ : Int), s.src, s.dst) with
  | some x =>
    obtain ⟨⟨a1, a2⟩, a3⟩ := (h.fine x (Zcdk e).1).Take hs hd; exact ⟨(h.turn x.id a2).settle _ _, a1, a3⟩
  | none =>
    obtain ⟨a1, a2, a3⟩ := h.stranger e hs; exact ⟨a1, a2, Nat.le_trans a3 (by omega)⟩
theorem Stk.Ok.take (h : S.Ok) {now : Int} (hn : 0 <= now) (from_ : Nat) {b : List Int} (hb : AllB b) : (S.take now from_ b).S.Ok ∧ (∀ g ∈ (S.take now from_ b).outs, Goes g) ∧ (S.take now from_ b).outs.length <= 4098 := by
  unfold Stk.take; cases e : Zbv from_ S.me b with
  | none => exact ⟨h.at_ hn, (fun g hg => by cases hg), Nat.zero_le _⟩
  | some s =>
    obtain ⟨r1, r2, r3, r4, r5⟩ := Zbia hb e; exact (h.at_ hn).meet from_ r1 r4
end
end Go.Conn
end
section
noncomputable section
namespace Go.Conn
structure LW where
  s : Nat -> Stk
  y : Nat -> List (List Int)
def adr (k : Nat) : Nat := 10 + k
def LW.one (W : LW) (now : Int) (k : Nat) (b : List Int) : LW × List (Int × Int) :=
  let t := (W.s k).take now (adr (1 - k)) b
  (⟨upF W.s k t.S, upF W.y (1 - k) (W.y (1 - k) ++ t.outs.map (outV (W.s k).me (adr (1 - k))))⟩, t.evs)
def LW.more (now : Int) (k : Nat) : List (List Int) -> LW -> LW × List (Int × Int)
  | [], W => (W, [])
  | b :: bs, W => (((LW.more now k bs (W.one now k b).1)).1, (W.one now k b).2 ++ (LW.more now k bs (W.one now k b).1).2)
def LW.come (W : LW) (now : Int) (k : Nat) : LW × List (Int × Int) := LW.more now k (W.y k) { W with y := upF W.y k [] }
def LW.start (a b : Nat) : LW := ⟨fun k => if k = 0 then ⟨10, a, [], [], 0, 0⟩ else ⟨11, b, [179], [], 0, 0⟩, fun _ => []⟩
def LW.put (W : LW) (k : Nat) (o : List (List Int)) : LW := { W with y := upF W.y (1 - k) (W.y (1 - k) ++ o) }
end Go.Conn
end
section
noncomputable section
namespace Go.Conn
theorem Zbr (x a b : Nat) : addN (addN x a) b = addN x (a + b) := by rw [Zcw, Zcw, Zcw]; omega
theorem Zyh {x : Nat} (h : x < 4294967296) : addN x 0 = x := by rw [Zcw]; omega
theorem Zbjl {x n : Nat} (hx : x < 4294967296) (hn : n < 4294967296) : wayN x (addN x n) = n := by rw [Zcw, Zfi]; omega
theorem Zbay {x : Nat} (hx : x < 4294967296) : wayN x x = 0 := by rw [Zfi]; omega
theorem Zbjo {w n sp : Nat} (hw : w < 4294967296) (h0 : 0 < n) (h1 : n <= 4096) (hs : sp <= 100000) : Zco w n w sp = true := by
  have hin : Zds w w n = true := by
    unfold Zds; rw [Zbay hw, decide_eq_true (by omega), decide_eq_true h0]; rfl
  unfold Zco; rw [if_neg (by omega)]
  by_cases e : sp = 0
  . rw [if_neg (by omega), if_pos e]; exact hin
  rw [if_neg (by omega), if_neg e, hin, Bool.true_or]
section
variable {c d : Cn} {s : Sg} {j : Jn}
theorem Zbxm (hj : c.inn = some j) : c.jwin = j.win := by unfold Cn.jwin; rw [hj]; rfl
theorem Zcgo (hj : c.inn = some j) (hn : j.next < 4294967296) : c.wants < 4294967296 := by
  unfold Cn.wants; rw [hj]; show (if c.got then addN j.next 1 else j.next) < _
  split; exact Zj _ _; exact hn
theorem Zjb (h3 : 3 <= c.st) (hj : c.inn = some j) (hn : j.next < 4294967296) (hq : s.seq = c.wants) (hw : 0 < j.win) (hw2 : j.win <= 4096) (hs : s.span <= 100000) (ha : s.acks = true) (hy : s.syn = false) (hr : s.rst = false) (hc : s.can = true) :
    c.Take s = if (c.acknowledged s).1 then (c.acknowledged s).2.rest s else ([(c.acknowledged s).2.nod], 0, (c.acknowledged s).2) := by
  unfold Cn.Take; rw [hc, if_neg (by decide), if_neg (by omega), if_neg (by omega)]
  unfold Cn.take; have hacc : Zco c.wants c.jwin s.seq s.span = true := by rw [hq, Zbxm hj]; exact Zbjo (Zcgo hj hn) hw hw2 hs
  simp only [hacc, hr, hy, ha]; rw [if_neg (by simp), if_neg (by simp), if_neg (by simp), if_neg (by simp), if_pos (by omega)]
theorem Zmt {n w : Nat} (hu : c.una < 4294967296) (hn : n < 4294967296) (hs : n <= c.sent) : c.ackd (addN c.una n) w = some (n, { c with win := w, una := addN c.una n, data := c.data.drop n, sent := c.sent - n, tries := if n = 0 then c.tries else 0 }) := by unfold Cn.ackd; simp only; rw [Zbjl hu hn, if_neg (by omega)]
theorem Zbej (hw : s.win ≠ 0) : c.quiet s = c := by unfold Cn.quiet; rw [if_neg hw]
theorem Ztv {n : Nat} (hu : c.una < 4294967296) (hn : n < 4294967296) (hs : n <= c.sent) (ha : s.ack = addN c.una n) (hw : s.win ≠ 0) :
    c.acknowledged s = (true, { c with win := s.win.toNat, una := addN c.una n, data := c.data.drop n, sent := c.sent - n, tries := if n = 0 then c.tries else 0 }) := by
  unfold Cn.acknowledged; rw [ha, Zmt hu hn hs]; show (true, Cn.quiet _ s) = _; rw [Zbej hw]
def Full (c : Cn) : Prop := c.sent = c.data.length ∧ (c.shut = true -> c.bye = true)
theorem Full.may (h : Full c) : c.may = 0 := by unfold Cn.may; have := h.1; omega
theorem Full.flush (h : Full c) : c.flush = ([], c) := by
  unfold Cn.flush; split
  . have hs : c.sends 4097 = ([], c) := by
      show (if c.may = 0 then _ else _) = _
      rw [if_pos h.may]
    simp only [hs]; have hb : c.byes = ([], c) := by
      unfold Cn.byes; cases e : c.shut with
      | false => rfl
      | true => rw [h.2 e]; rfl
    rw [hb]; rfl
  rfl
theorem Zbbm : ∀ (f : Nat) (d : List Int) (next : Nat) (rdy : List Int), next < 4294967296 -> d.length <= f -> (⟨next, rdy, fun i => d[i]?⟩ : Jn).move f = ⟨addN next d.length, rdy ++ d, fun _ => none⟩
  | 0, [], next, rdy, hn, _ => by
    show (⟨next, rdy, _⟩ : Jn) = _
    rw [List.append_nil]; show _ = (⟨addN next 0, rdy, _⟩ : Jn)
    rw [Zyh hn]; congr 1
  | 0, x :: d, _, _, _, h => by simp at h
  | f + 1, [], next, rdy, hn, _ => by
    unfold Jn.move; simp only [List.getElem?_nil]; rw [List.append_nil]; show (⟨next, rdy, _⟩ : Jn) = ⟨addN next 0, rdy, _⟩
    rw [Zyh hn]
  | f + 1, x :: d, next, rdy, hn, h => by
    show (Jn.step ⟨next, rdy, fun i => (x :: d)[i]?⟩ x).move f = _
    have e : Jn.step ⟨next, rdy, fun i => (x :: d)[i]?⟩ x = ⟨addN next 1, rdy ++ [x], fun i => d[i]?⟩ := by unfold Jn.step; congr 1
    rw [e, Zbbm f d (addN next 1) (rdy ++ [x]) (Zj _ _) (by simp at h; omega), Zbr]
    congr 1; simp only [List.length_cons]; congr 1; omega; simp
theorem Zjv {next : Nat} {rdy b : List Int} (hn : next < 4294967296) (hl : rdy.length + b.length < 4096) : (⟨next, rdy, fun _ => none⟩ : Jn).add next b = ⟨addN next b.length, rdy ++ b, fun _ => none⟩ := by
  unfold Jn.add; rw [if_neg (by omega)]
  have hw : (⟨next, rdy, fun _ => none⟩ : Jn).win = 4096 - rdy.length := rfl
  have ht : Zbh next (4096 - rdy.length) next b.length = (0, b.length) := by unfold Zbh; rw [if_neg (by omega), Zbay hn, if_pos (by omega), Nat.min_eq_left (by omega)]
  simp only [hw, ht]; rw [Zyh hn, Zbay hn, List.drop_zero, List.take_length]; have hh : (⟨next, rdy, fun _ => none⟩ : Jn).hold 0 b = ⟨next, rdy, fun i => b[i]?⟩ := by unfold Jn.hold; congr 1
  rw [hh]; exact Zbbm 4096 b next rdy hn (by omega)
end
def cnF (st : Nat) (src dst : Int) (A R : Nat) (D : List Int) (U win tries : Nat) (G : List Int) (N : Nat) (shut sure got : Bool) : Cn :=
  ⟨st, src, dst, A, addN A (1 + U), D.drop U, D.length - U, win, 1460, tries, some ⟨addN R (1 + N), G, fun _ => none⟩, shut, shut, sure, got⟩
section
variable {st : Nat} {src dst : Int} {A R : Nat} {D : List Int} {U win tries : Nat} {G : List Int} {N : Nat} {shut sure got : Bool}
theorem Zhe : Full (cnF st src dst A R D U win tries G N shut sure got) := ⟨by show D.length - U = (D.drop U).length; rw [List.length_drop], fun h => h⟩
theorem Zhs : (cnF st src dst A R D U win tries G N shut sure got).wants = addN R (1 + N + if got then 1 else 0) := by
  unfold Cn.wants; show (if got then addN (addN R (1 + N)) 1 else addN R (1 + N)) = _
  cases got; rfl; exact Zbr _ _ _
theorem Zbet (hU : U <= D.length) : (cnF st src dst A R D U win tries G N shut sure got).last = addN A (1 + D.length + if shut then 1 else 0) := by
  have ho : (cnF st src dst A R D U win tries G N shut sure got).onext = addN A (1 + D.length) := by show addN (addN A (1 + U)) (D.length - U) = _; rw [Zbr]; congr 1; omega
  unfold Cn.last; rw [ho]; show (if shut then addN (addN A (1 + D.length)) 1 else addN A (1 + D.length)) = _
  cases shut; rfl; exact Zbr _ _ _
theorem Zzi {u w : Nat} (hU : U <= u) (hu : u <= D.length) : (⟨st, src, dst, A, addN (addN A (1 + U)) (u - U), (D.drop U).drop (u - U), D.length - U - (u - U), w, 1460, tries, some ⟨addN R (1 + N), G, fun _ => none⟩, shut, shut, sure, got⟩ : Cn) = cnF st src dst A R D u w tries G N shut sure got := by
  unfold cnF; have e1 : addN (addN A (1 + U)) (u - U) = addN A (1 + u) := by rw [Zbr]; congr 1; omega
  have e2 : (D.drop U).drop (u - U) = D.drop u := by rw [List.drop_drop]; congr 1; omega
  have e3 : D.length - U - (u - U) = D.length - u := by omega
  rw [e1, e2, e3]
end
def sgm (src dst : Int) (q k : Nat) (fl : Int) (w : Nat) (d : List Int) : Sg := ⟨src, dst, q, k, fl, w, 0, 0, d⟩
theorem Zhy {src dst : Int} {q k : Nat} {fl : Int} {w : Nat} {d : List Int} (h1 : i16 src = true) (h2 : i16 dst = true) (h3 : 0 <= fl) (h4 : fl < 64) (hw : w <= 4096) (hd : d.length <= 4096) : (sgm src dst q k fl w d).can = true :=
  Zlp h1 h2 (Zgq (by show (0 : Int) <= (w : Int); omega) (by show (w : Int) <= 65535; omega)) i0 i0 h3 h4 (by show d.length <= 65495; omega)
theorem fl24 {src dst : Int} {q k w : Nat} {d : List Int} : (sgm src dst q k 24 w d).acks = true ∧ (sgm src dst q k 24 w d).syn = false ∧ (sgm src dst q k 24 w d).rst = false ∧ (sgm src dst q k 24 w d).fin = false := ⟨show bitB 24 4 = true by decide, show bitB 24 1 = false by decide, show bitB 24 2 = false by decide, show bitB 24 0 = false by decide⟩
theorem fl16 {src dst : Int} {q k w : Nat} {d : List Int} : (sgm src dst q k 16 w d).acks = true ∧ (sgm src dst q k 16 w d).syn = false ∧ (sgm src dst q k 16 w d).rst = false ∧ (sgm src dst q k 16 w d).fin = false := ⟨show bitB 16 4 = true by decide, show bitB 16 1 = false by decide, show bitB 16 2 = false by decide, show bitB 16 0 = false by decide⟩
theorem fl17 {src dst : Int} {q k w : Nat} {d : List Int} : (sgm src dst q k 17 w d).acks = true ∧ (sgm src dst q k 17 w d).syn = false ∧ (sgm src dst q k 17 w d).rst = false ∧ (sgm src dst q k 17 w d).fin = true := ⟨show bitB 17 4 = true by decide, show bitB 17 1 = false by decide, show bitB 17 2 = false by decide, show bitB 17 0 = true by decide⟩
section
variable {st : Nat} {src dst : Int} {A R : Nat} {D : List Int} {U win tries : Nat} {G : List Int} {N : Nat} {shut sure got : Bool}
theorem Zoz (hU : U <= D.length) : (cnF st src dst A R D U win tries G N shut sure got).nod = sgm src dst (addN A (1 + D.length + if shut then 1 else 0)) (addN R (1 + N + if got then 1 else 0)) 16 (4096 - G.length) [] := by unfold Cn.nod Cn.mk'; rw [Zbet hU, Zhs]; rfl
theorem Zbvy {d : List Int} {w : Nat} (hst : st = 3 ∨ st = 4) (hU : U <= D.length) (hD : D.length <= 100000) (hl : G.length + d.length < 4096) (hd : d ≠ []) (h1 : i16 src = true) (h2 : i16 dst = true) (hw : 0 < w) (hw2 : w <= 4096) :
    (cnF st src dst A R D U win tries G N shut sure false).Take (sgm dst src (addN R (1 + N)) (addN A (1 + U)) 24 w d) = ([(cnF st src dst A R D U w tries (G ++ d) (N + d.length) shut sure false).nod], 0, cnF st src dst A R D U w tries (G ++ d) (N + d.length) shut sure false) := by
  obtain ⟨f1, f2, f3, f4⟩ := fl24 (src := dst) (dst := src) (q := addN R (1 + N)) (k := addN A (1 + U)) (w := w) (d := d); have hsp : (sgm dst src (addN R (1 + N)) (addN A (1 + U)) 24 w d).span = d.length := by unfold Sg.span; rw [f2, f4]; rfl
  have hpos : 0 < d.length := List.length_pos_iff.2 hd; rw [Zjb (by show 3 <= st; omega) (j := ⟨addN R (1 + N), G, fun _ => none⟩) rfl (Zj _ _) (by rw [Zhs]; rfl) (by show 0 < 4096 - G.length; omega) (by show 4096 - G.length <= 4096; omega) (by rw [hsp]; omega) f1 f2 f3 (Zhy h2 h1 (by decide) (by decide) hw2 (by omega))]
  rw [Ztv (n := 0) (Zj _ _) (by decide) (Nat.zero_le _) (by show addN A (1 + U) = addN (addN A (1 + U)) 0; rw [Zbr]; rfl) (by show (w : Int) ≠ 0; omega)]
  have hA := Zzi (st := st) (src := src) (dst := dst) (A := A) (R := R) (D := D) (U := U) (tries := tries) (G := G) (N := N) (shut := shut) (sure := sure) (got := false) (u := U) (w := w) (Nat.le_refl _) hU; rw [Nat.sub_self] at hA; have e : (⟨st, src, dst, A, addN (addN A (1 + U)) 0, (D.drop U).drop 0, D.length - U - 0, ((w : Nat) : Int).toNat, 1460, tries, some ⟨addN R (1 + N), G, fun _ => none⟩, shut, shut, sure, false⟩ : Cn) = cnF st src dst A R D U w tries G N shut sure false := by rw [Int.toNat_natCast]; exact hA
  show (if (true : Bool) = true then Cn.rest ⟨st, src, dst, A, addN (addN A (1 + U)) 0, (D.drop U).drop 0, D.length - U - 0, ((w : Nat) : Int).toNat, 1460, tries, some ⟨addN R (1 + N), G, fun _ => none⟩, shut, shut, sure, false⟩ _ else _) = _
  rw [if_pos rfl, e]; unfold Cn.rest; rw [if_neg (by show ¬ st = 0; omega)]
  have ht : (cnF st src dst A R D U w tries G N shut sure false).takes (sgm dst src (addN R (1 + N)) (addN A (1 + U)) 24 w d) = cnF st src dst A R D U w tries (G ++ d) (N + d.length) shut sure false := by
    show (if st = 3 ∨ st = 4 ∨ st = 5 then (cnF st src dst A R D U w tries G N shut sure false).joined (sgm dst src (addN R (1 + N)) (addN A (1 + U)) 24 w d) ((⟨addN R (1 + N), G, fun _ => none⟩ : Jn).add (addN R (1 + N)) d) else _) = _
    rw [if_pos (by omega), Zjv (Zj _ _) hl]
    unfold Cn.joined; rw [f4, Bool.false_and, if_neg (by decide), Zbr, Nat.add_assoc]
    show (⟨st, src, dst, A, addN A (1 + U), D.drop U, D.length - U, w, 1460, tries, some ⟨addN R (1 + (N + d.length)), G ++ d, fun _ => none⟩, shut, shut, sure, false⟩ : Cn) = _; rfl
  simp only [ht]; rw [Zhe.flush]; show (if _ then _ else _, _, _) = _
  rw [if_pos ⟨rfl, by rw [hsp]; omega⟩]
theorem Zbsw {u w : Nat} (hst : st = 3 ∨ st = 4 ∨ st = 5 ∨ st = 6) (hU : U <= u) (hu : u <= D.length) (hD : D.length <= 100000) (hl : G.length < 4096) (h1 : i16 src = true) (h2 : i16 dst = true) (hw : 0 < w) (hw2 : w <= 4096) (hg : got = true -> st = 6) :
    ∃ t, (cnF st src dst A R D U win tries G N shut sure got).Take (sgm dst src (addN R (1 + N + if got then 1 else 0)) (addN A (1 + u)) 16 w []) = ([], 0, cnF st src dst A R D u w t G N shut sure got) := by
  obtain ⟨f1, f2, f3, f4⟩ := fl16 (src := dst) (dst := src) (q := addN R (1 + N + if got then 1 else 0)) (k := addN A (1 + u)) (w := w) (d := [])
  have hsp : (sgm dst src (addN R (1 + N + if got then 1 else 0)) (addN A (1 + u)) 16 w []).span = 0 := by unfold Sg.span; rw [f2, f4]; rfl
  rw [Zjb (by show 3 <= st; omega) (j := ⟨addN R (1 + N), G, fun _ => none⟩) rfl (Zj _ _) (by rw [Zhs]; rfl) (by show 0 < 4096 - G.length; omega) (by show 4096 - G.length <= 4096; omega) (by rw [hsp]; omega) f1 f2 f3 (Zhy h2 h1 (by decide) (by decide) hw2 (by show 0 <= 4096; omega))]
  rw [Ztv (n := u - U) (Zj _ _) (by omega) (by show u - U <= D.length - U; omega) (by show addN A (1 + u) = addN (addN A (1 + U)) (u - U); rw [Zbr]; congr 1; omega) (by show (w : Int) ≠ 0; omega)]
  refine ⟨if u - U = 0 then tries else 0, ?_⟩
  have hA := Zzi (st := st) (src := src) (dst := dst) (A := A) (R := R) (D := D) (U := U) (tries := if u - U = 0 then tries else 0) (G := G) (N := N) (shut := shut) (sure := sure) (got := got) (u := u) (w := w) hU hu
  have e : (⟨st, src, dst, A, addN (addN A (1 + U)) (u - U), (D.drop U).drop (u - U), D.length - U - (u - U), ((w : Nat) : Int).toNat, 1460, if u - U = 0 then tries else 0, some ⟨addN R (1 + N), G, fun _ => none⟩, shut, shut, sure, got⟩ : Cn) = cnF st src dst A R D u w (if u - U = 0 then tries else 0) G N shut sure got := by rw [Int.toNat_natCast]; exact hA
  show (if (true : Bool) = true then Cn.rest ⟨st, src, dst, A, addN (addN A (1 + U)) (u - U), (D.drop U).drop (u - U), D.length - U - (u - U), ((w : Nat) : Int).toNat, 1460, if u - U = 0 then tries else 0, some ⟨addN R (1 + N), G, fun _ => none⟩, shut, shut, sure, got⟩ _ else _) = _
  rw [if_pos rfl, e]; unfold Cn.rest; rw [if_neg (by show ¬ st = 0; omega)]
  have ht : (cnF st src dst A R D u w (if u - U = 0 then tries else 0) G N shut sure got).takes (sgm dst src (addN R (1 + N + if got then 1 else 0)) (addN A (1 + u)) 16 w []) = cnF st src dst A R D u w (if u - U = 0 then tries else 0) G N shut sure got := by
    show (if st = 3 ∨ st = 4 ∨ st = 5 then (cnF st src dst A R D u w _ G N shut sure got).joined (sgm dst src (addN R (1 + N + if got then 1 else 0)) (addN A (1 + u)) 16 w []) ((⟨addN R (1 + N), G, fun _ => none⟩ : Jn).add (addN R (1 + N + if got then 1 else 0)) []) else _) = _
    by_cases h6 : st = 6; rw [if_neg (by omega)]
    . have hgf : got = false := by cases got with
        | false => rfl
        | true => exact absurd (hg rfl) h6
      subst hgf; rw [if_pos (by omega), show (1 + N + if (false : Bool) = true then 1 else 0) = 1 + N from rfl, Zjv (Zj _ _) (by simp; omega)]
      unfold Cn.joined; rw [show (sgm dst src (addN R (1 + N)) (addN A (1 + u)) 16 w []).fin = false from f4, Bool.false_and, if_neg (by decide)]
      rw [show addN (addN R (1 + N)) ([] : List Int).length = addN R (1 + N) from Zbr _ _ _, List.append_nil]
      rfl
  simp only [ht]; rw [Zhe.flush]; show (if _ then _ else _, _, _) = _
  rw [if_neg (fun h => h.2 hsp)]
end
end Go.Conn
end
section
noncomputable section
namespace Go.Conn
section
variable {st : Nat} {src dst : Int} {A R : Nat} {D : List Int} {U win tries : Nat} {G : List Int} {N : Nat} {shut sure got : Bool} {w : Nat}
theorem Zbqk {c : Cn} {n w : Nat} (hu : c.una < 4294967296) (hn : n < 4294967296) (hs : c.sent < n) : c.ackd (addN c.una n) w = none := by unfold Cn.ackd; simp only; rw [Zbjl hu hn, if_pos hs]
theorem Zxq {s : Sg} (hk : s.ack = addN A (2 + D.length)) (hw : s.win = (w : Nat)) (hw0 : 0 < w) (hD : D.length <= 100000) :
    (cnF st src dst A R D D.length win tries G N true sure got).acknowledged s = (true, cnF (if sure then st else if st = 4 then 5 else if st = 7 then 9 else if st = 8 then 0 else st) src dst A R D D.length w (if sure then tries else 0) G N true true got) := by
  unfold Cn.acknowledged; have e1 : s.ack = addN (addN A (1 + D.length)) 1 := by rw [hk, Zbr]; congr 1; omega
  have e2 : (cnF st src dst A R D D.length win tries G N true sure got).ackd s.ack s.win.toNat = none := by rw [e1]; exact Zbqk (c := cnF st src dst A R D D.length win tries G N true sure got) (Zj _ _) (by decide) (by show D.length - D.length < 1; omega)
  rw [e2]; have e3 : (cnF st src dst A R D D.length win tries G N true sure got).last = s.ack := by rw [Zbet (Nat.le_refl _), hk]; show addN A (1 + D.length + 1) = _; congr 1; omega
  show (if true && decide (s.ack = (cnF st src dst A R D D.length win tries G N true sure got).last) then (true, ((lastN ((cnF st src dst A R D D.length win tries G N true sure got).ackd (cnF st src dst A R D D.length win tries G N true sure got).onext s.win.toNat) (cnF st src dst A R D D.length win tries G N true sure got)).finished).quiet s) else _) = _
  rw [e3, decide_eq_true rfl, if_pos (show (true && true) = true from rfl)]
  have e4 : (cnF st src dst A R D D.length win tries G N true sure got).ackd (cnF st src dst A R D D.length win tries G N true sure got).onext s.win.toNat = some (0, cnF st src dst A R D D.length w tries G N true sure got) := by
    have h0 : (cnF st src dst A R D D.length win tries G N true sure got).onext = addN (addN A (1 + D.length)) 0 := by show addN (addN A (1 + D.length)) (D.length - D.length) = _; rw [Nat.sub_self]
    have hk0 := Zmt (c := cnF st src dst A R D D.length win tries G N true sure got) (n := 0) (w := w) (Zj _ _) (by decide) (Nat.zero_le _)
    rw [h0, hw, Int.toNat_natCast]; refine Eq.trans hk0 ?_; have q1 : addN (addN A (1 + D.length)) 0 = addN A (1 + D.length) := Zbr _ _ _; show some (0, (⟨st, src, dst, A, addN (addN A (1 + D.length)) 0, (D.drop D.length).drop 0, D.length - D.length - 0, w, 1460, tries, some ⟨addN R (1 + N), G, fun _ => none⟩, true, true, sure, got⟩ : Cn)) = _; rw [q1]; rfl
  rw [e4]; have hq : ∀ c : Cn, c.quiet s = c := fun c => Zbej (by rw [hw]; omega)
  rw [hq]; cases sure with
  | true => rfl
  | false =>
    show (true, Cn.finished { cnF st src dst A R D D.length w tries G N true false got with tries := 0 }) = _
    rfl
theorem Zcbb (hst : st = 3) (hU : U <= D.length) (hD : D.length <= 100000) (hl : G.length < 4096) (h1 : i16 src = true) (h2 : i16 dst = true) (hw : 0 < w) (hw2 : w <= 4096) :
    (cnF st src dst A R D U win tries G N shut sure false).Take (sgm dst src (addN R (1 + N)) (addN A (1 + U)) 17 w []) = ([(cnF 6 src dst A R D U w tries G N shut sure true).nod], 0, cnF 6 src dst A R D U w tries G N shut sure true) := by
  obtain ⟨f1, f2, f3, f4⟩ := fl17 (src := dst) (dst := src) (q := addN R (1 + N)) (k := addN A (1 + U)) (w := w) (d := []); have hsp : (sgm dst src (addN R (1 + N)) (addN A (1 + U)) 17 w []).span = 1 := by unfold Sg.span; rw [f2, f4]; rfl
  rw [Zjb (by show 3 <= st; omega) (j := ⟨addN R (1 + N), G, fun _ => none⟩) rfl (Zj _ _) (by rw [Zhs]; rfl) (by show 0 < 4096 - G.length; omega) (by show 4096 - G.length <= 4096; omega) (by rw [hsp]; omega) f1 f2 f3 (Zhy h2 h1 (by decide) (by decide) hw2 (by show 0 <= 4096; omega))]
  rw [Ztv (n := 0) (Zj _ _) (by decide) (Nat.zero_le _) (by show addN A (1 + U) = addN (addN A (1 + U)) 0; rw [Zbr]; rfl) (by show (w : Int) ≠ 0; omega)]
  have hA := Zzi (st := st) (src := src) (dst := dst) (A := A) (R := R) (D := D) (U := U) (tries := tries) (G := G) (N := N) (shut := shut) (sure := sure) (got := false) (u := U) (w := w) (Nat.le_refl _) hU; rw [Nat.sub_self] at hA; have e : (⟨st, src, dst, A, addN (addN A (1 + U)) 0, (D.drop U).drop 0, D.length - U - 0, ((w : Nat) : Int).toNat, 1460, tries, some ⟨addN R (1 + N), G, fun _ => none⟩, shut, shut, sure, false⟩ : Cn) = cnF st src dst A R D U w tries G N shut sure false := by rw [Int.toNat_natCast]; exact hA
  show (if (true : Bool) = true then Cn.rest ⟨st, src, dst, A, addN (addN A (1 + U)) 0, (D.drop U).drop 0, D.length - U - 0, ((w : Nat) : Int).toNat, 1460, tries, some ⟨addN R (1 + N), G, fun _ => none⟩, shut, shut, sure, false⟩ _ else _) = _
  rw [if_pos rfl, e]; unfold Cn.rest; rw [if_neg (by show ¬ st = 0; omega)]
  have ht : (cnF st src dst A R D U w tries G N shut sure false).takes (sgm dst src (addN R (1 + N)) (addN A (1 + U)) 17 w []) = cnF 6 src dst A R D U w tries G N shut sure true := by
    show (if st = 3 ∨ st = 4 ∨ st = 5 then (cnF st src dst A R D U w tries G N shut sure false).joined (sgm dst src (addN R (1 + N)) (addN A (1 + U)) 17 w []) ((⟨addN R (1 + N), G, fun _ => none⟩ : Jn).add (addN R (1 + N)) []) else _) = _
    rw [if_pos (by omega), Zjv (Zj _ _) (by simp; omega), List.append_nil]
    unfold Cn.joined; have hn : decide (addN (sgm dst src (addN R (1 + N)) (addN A (1 + U)) 17 w []).seq (sgm dst src (addN R (1 + N)) (addN A (1 + U)) 17 w []).data.length = (⟨addN (addN R (1 + N)) ([] : List Int).length, G, fun _ => none⟩ : Jn).next) = true := decide_eq_true rfl; rw [f4, Bool.true_and, if_pos hn, show addN (addN R (1 + N)) ([] : List Int).length = addN R (1 + N) from Zbr _ _ _]
    show (⟨if st = 3 then 6 else if st = 4 then 7 else 9, src, dst, A, addN A (1 + U), D.drop U, D.length - U, w, 1460, tries, some ⟨addN R (1 + N), G, fun _ => none⟩, shut, shut, sure, true⟩ : Cn) = _
    rw [if_pos hst]; rfl
  simp only [ht]; rw [Zhe.flush]; show (if _ then _ else _, _, _) = _
  rw [if_pos ⟨rfl, by rw [hsp]; omega⟩]
theorem Zcfe (hD : D.length <= 100000) (hl : G.length < 4096) (h1 : i16 src = true) (h2 : i16 dst = true) (hw : 0 < w) (hw2 : w <= 4096) :
    (cnF 4 src dst A R D D.length win tries G N true false false).Take (sgm dst src (addN R (1 + N)) (addN A (2 + D.length)) 16 w []) = ([], 0, cnF 5 src dst A R D D.length w 0 G N true true false) := by
  obtain ⟨f1, f2, f3, f4⟩ := fl16 (src := dst) (dst := src) (q := addN R (1 + N)) (k := addN A (2 + D.length)) (w := w) (d := []); have hsp : (sgm dst src (addN R (1 + N)) (addN A (2 + D.length)) 16 w []).span = 0 := by unfold Sg.span; rw [f2, f4]; rfl
  rw [Zjb (by show 3 <= 4; omega) (j := ⟨addN R (1 + N), G, fun _ => none⟩) rfl (Zj _ _) (by rw [Zhs]; rfl) (by show 0 < 4096 - G.length; omega) (by show 4096 - G.length <= 4096; omega) (by rw [hsp]; omega) f1 f2 f3 (Zhy h2 h1 (by decide) (by decide) hw2 (by show 0 <= 4096; omega))]
  rw [Zxq (s := sgm dst src (addN R (1 + N)) (addN A (2 + D.length)) 16 w []) rfl rfl hw hD]; show (if (true : Bool) = true then Cn.rest (cnF 5 src dst A R D D.length w 0 G N true true false) _ else ([Cn.nod (cnF 5 src dst A R D D.length w 0 G N true true false)], 0, cnF 5 src dst A R D D.length w 0 G N true true false)) = _
  rw [if_pos rfl]; unfold Cn.rest; rw [if_neg (by show ¬ 5 = 0; omega)]
  have ht : (cnF 5 src dst A R D D.length w 0 G N true true false).takes (sgm dst src (addN R (1 + N)) (addN A (2 + D.length)) 16 w []) = cnF 5 src dst A R D D.length w 0 G N true true false := by
    show (if 5 = 3 ∨ 5 = 4 ∨ 5 = 5 then (cnF 5 src dst A R D D.length w 0 G N true true false).joined (sgm dst src (addN R (1 + N)) (addN A (2 + D.length)) 16 w []) ((⟨addN R (1 + N), G, fun _ => none⟩ : Jn).add (addN R (1 + N)) []) else cnF 5 src dst A R D D.length w 0 G N true true false) = _
    rw [if_pos (by omega), Zjv (Zj _ _) (by simp; omega), List.append_nil]
    unfold Cn.joined; rw [f4, Bool.false_and, if_neg (by decide), show addN (addN R (1 + N)) ([] : List Int).length = addN R (1 + N) from Zbr _ _ _]
    rfl
  simp only [ht]; rw [Zhe.flush]; show (if _ then _ else _, _, _) = _
  rw [if_neg (fun h => h.2 hsp)]
theorem Zbrh (hD : D.length <= 100000) (hl : G.length < 4096) (h1 : i16 src = true) (h2 : i16 dst = true) (hw : 0 < w) (hw2 : w <= 4096) :
    (cnF 5 src dst A R D D.length win tries G N true true false).Take (sgm dst src (addN R (1 + N)) (addN A (2 + D.length)) 17 w []) = ([(cnF 9 src dst A R D D.length w tries G N true true true).nod], 0, cnF 9 src dst A R D D.length w tries G N true true true) := by
  obtain ⟨f1, f2, f3, f4⟩ := fl17 (src := dst) (dst := src) (q := addN R (1 + N)) (k := addN A (2 + D.length)) (w := w) (d := []); have hsp : (sgm dst src (addN R (1 + N)) (addN A (2 + D.length)) 17 w []).span = 1 := by unfold Sg.span; rw [f2, f4]; rfl
  rw [Zjb (by show 3 <= 5; omega) (j := ⟨addN R (1 + N), G, fun _ => none⟩) rfl (Zj _ _) (by rw [Zhs]; rfl) (by show 0 < 4096 - G.length; omega) (by show 4096 - G.length <= 4096; omega) (by rw [hsp]; omega) f1 f2 f3 (Zhy h2 h1 (by decide) (by decide) hw2 (by show 0 <= 4096; omega))]
  rw [Zxq (s := sgm dst src (addN R (1 + N)) (addN A (2 + D.length)) 17 w []) rfl rfl hw hD]; show (if (true : Bool) = true then Cn.rest (cnF 5 src dst A R D D.length w tries G N true true false) _ else ([Cn.nod (cnF 5 src dst A R D D.length w tries G N true true false)], 0, cnF 5 src dst A R D D.length w tries G N true true false)) = _
  rw [if_pos rfl]; unfold Cn.rest; rw [if_neg (by show ¬ 5 = 0; omega)]
  have ht : (cnF 5 src dst A R D D.length w tries G N true true false).takes (sgm dst src (addN R (1 + N)) (addN A (2 + D.length)) 17 w []) = cnF 9 src dst A R D D.length w tries G N true true true := by
    show (if 5 = 3 ∨ 5 = 4 ∨ 5 = 5 then (cnF 5 src dst A R D D.length w tries G N true true false).joined (sgm dst src (addN R (1 + N)) (addN A (2 + D.length)) 17 w []) ((⟨addN R (1 + N), G, fun _ => none⟩ : Jn).add (addN R (1 + N)) []) else cnF 5 src dst A R D D.length w tries G N true true false) = _
    rw [if_pos (by omega), Zjv (Zj _ _) (by simp; omega), List.append_nil]
    unfold Cn.joined; have hn : decide (addN (sgm dst src (addN R (1 + N)) (addN A (2 + D.length)) 17 w []).seq (sgm dst src (addN R (1 + N)) (addN A (2 + D.length)) 17 w []).data.length = (⟨addN (addN R (1 + N)) ([] : List Int).length, G, fun _ => none⟩ : Jn).next) = true := decide_eq_true rfl; rw [f4, Bool.true_and, if_pos hn, show addN (addN R (1 + N)) ([] : List Int).length = addN R (1 + N) from Zbr _ _ _]
    rfl
  simp only [ht]; rw [Zhe.flush]; show (if _ then _ else _, _, _) = _
  rw [if_pos ⟨rfl, by rw [hsp]; omega⟩]
theorem Zbqa (hD : D.length <= 100000) (hl : G.length < 4096) (h1 : i16 src = true) (h2 : i16 dst = true) (hw : 0 < w) (hw2 : w <= 4096) :
    (cnF 8 src dst A R D D.length win tries G N true false true).Take (sgm dst src (addN R (2 + N)) (addN A (2 + D.length)) 16 w []) = ([], 0, cnF 0 src dst A R D D.length w 0 G N true true true) := by
  obtain ⟨f1, f2, f3, f4⟩ := fl16 (src := dst) (dst := src) (q := addN R (2 + N)) (k := addN A (2 + D.length)) (w := w) (d := []); have hsp : (sgm dst src (addN R (2 + N)) (addN A (2 + D.length)) 16 w []).span = 0 := by unfold Sg.span; rw [f2, f4]; rfl
  rw [Zjb (by show 3 <= 8; omega) (j := ⟨addN R (1 + N), G, fun _ => none⟩) rfl (Zj _ _) (by rw [Zhs]; show addN R (2 + N) = addN R (1 + N + 1); congr 1; omega) (by show 0 < 4096 - G.length; omega) (by show 4096 - G.length <= 4096; omega) (by rw [hsp]; omega) f1 f2 f3 (Zhy h2 h1 (by decide) (by decide) hw2 (by show 0 <= 4096; omega))]
  rw [Zxq (s := sgm dst src (addN R (2 + N)) (addN A (2 + D.length)) 16 w []) rfl rfl hw hD]; rfl
theorem Zbks (hst : st = 3 ∨ st = 6) (hU : U <= D.length) (hg : got = true ↔ st = 6) :
    (cnF st src dst A R D U win tries G N false sure got).end_ = ([sgm src dst (addN A (1 + D.length)) (addN R (1 + N + if got then 1 else 0)) 17 (4096 - G.length) []], 0, cnF (if st = 3 then 4 else 8) src dst A R D U win tries G N true sure got) := by
  unfold Cn.end_; rw [if_pos (by show st = 3 ∨ st = 6; exact hst)]
  have hfl : Cn.flush { cnF st src dst A R D U win tries G N false sure got with st := if (cnF st src dst A R D U win tries G N false sure got).st = 3 then 4 else 8, shut := true } = ([sgm src dst (addN A (1 + D.length)) (addN R (1 + N + if got then 1 else 0)) 17 (4096 - G.length) []], cnF (if st = 3 then 4 else 8) src dst A R D U win tries G N true sure got) := by
    unfold Cn.flush; have hst' : (if st = 3 then 4 else 8) = 4 ∨ (if st = 3 then 4 else 8) = 8 := by split <;> simp
    rw [if_pos (by
      show (if st = 3 then 4 else 8) = 3 ∨ (if st = 3 then 4 else 8) = 4 ∨ (if st = 3 then 4 else 8) = 6 ∨ (if st = 3 then 4 else 8) = 7 ∨ (if st = 3 then 4 else 8) = 8
      omega)]
    have hmay : Cn.may { cnF st src dst A R D U win tries G N false sure got with st := if (cnF st src dst A R D U win tries G N false sure got).st = 3 then 4 else 8, shut := true } = 0 := by show min (min 1460 ((D.drop U).length - (D.length - U))) _ = 0; rw [List.length_drop]; omega
    have hs : Cn.sends 4097 { cnF st src dst A R D U win tries G N false sure got with st := if (cnF st src dst A R D U win tries G N false sure got).st = 3 then 4 else 8, shut := true } = ([], { cnF st src dst A R D U win tries G N false sure got with st := if (cnF st src dst A R D U win tries G N false sure got).st = 3 then 4 else 8, shut := true }) := by
      show (if _ = 0 then _ else _) = _
      rw [if_pos hmay]
    have hfin : Cn.fin { cnF st src dst A R D U win tries G N false sure got with st := if (cnF st src dst A R D U win tries G N false sure got).st = 3 then 4 else 8, shut := true } = sgm src dst (addN A (1 + D.length)) (addN R (1 + N + if got then 1 else 0)) 17 (4096 - G.length) [] := by
      unfold Cn.fin Cn.mk'; have ho : Cn.onext { cnF st src dst A R D U win tries G N false sure got with st := if (cnF st src dst A R D U win tries G N false sure got).st = 3 then 4 else 8, shut := true } = addN A (1 + D.length) := by show addN (addN A (1 + U)) (D.length - U) = _; rw [Zbr]; congr 1; omega
      have hwn : Cn.wants { cnF st src dst A R D U win tries G N false sure got with st := if (cnF st src dst A R D U win tries G N false sure got).st = 3 then 4 else 8, shut := true } = addN R (1 + N + if got then 1 else 0) := by
        show (if got then addN (addN R (1 + N)) 1 else addN R (1 + N)) = _
        cases got; rfl; exact Zbr _ _ _
      rw [ho, hwn]; rfl
    simp only [hs]; have hc : (true && !false && decide (D.length - U = (D.drop U).length)) = true := by rw [List.length_drop, decide_eq_true rfl]; rfl
    have hb : Cn.byes { cnF st src dst A R D U win tries G N false sure got with st := if (cnF st src dst A R D U win tries G N false sure got).st = 3 then 4 else 8, shut := true } = ([sgm src dst (addN A (1 + D.length)) (addN R (1 + N + if got then 1 else 0)) 17 (4096 - G.length) []], cnF (if st = 3 then 4 else 8) src dst A R D U win tries G N true sure got) := by unfold Cn.byes; refine Eq.trans (if_pos hc) ?_; rw [hfin]; rfl
    rw [hb]; rfl
  simp only [hfl]
theorem Zbln {n : Nat} (hn : G.length <= n) (hl : G.length < 4096) : (cnF st src dst A R D U win tries G N shut sure got).read n = (G, [], cnF st src dst A R D U win tries [] N shut sure got) := by refine Prod.ext (List.take_of_length_le hn) (Prod.ext ?_ ?_); refine if_neg fun h => ?_; have h : 4096 - G.length = 0 := h.1; omega; show (⟨st, src, dst, A, addN A (1 + U), D.drop U, D.length - U, win, 1460, tries, some ⟨addN R (1 + N), G.drop n, fun _ => none⟩, shut, shut, sure, got⟩ : Cn) = _; rw [List.drop_of_length_le hn]; rfl
def cuts : Nat -> Nat -> Nat -> List (Nat × Nat)
  | 0, _, _ => []
  | f + 1, s, L => if L <= s then [] else (s, s + min 1460 (L - s)) :: cuts f (s + min 1460 (L - s)) L
def Zej (src dst : Int) (A k w : Nat) (D : List Int) (p : Nat × Nat) : Sg := sgm src dst (addN A (1 + p.1)) k 24 w ((D.drop p.1).take (p.2 - p.1))
def cnS (src dst : Int) (A R : Nat) (D : List Int) (s tries : Nat) (G : List Int) (N : Nat) : Cn := ⟨3, src, dst, A, addN A 1, D, s, 4096, 1460, tries, some ⟨addN R (1 + N), G, fun _ => none⟩, false, false, false, false⟩
theorem Zbff (hD : D.length <= 3000) : ∀ (f s : Nat), s <= D.length -> D.length - s <= f -> (cnS src dst A R D s tries G N).sends f = ((cuts f s D.length).map (Zej src dst A (addN R (1 + N)) (4096 - G.length) D), cnS src dst A R D D.length tries G N)
  | 0, s, h1, h2 => by
    have : s = D.length := by omega
    subst this; rfl
  | f + 1, s, h1, h2 => by
    have hm : (cnS src dst A R D s tries G N).may = min 1460 (D.length - s) := by show min (min 1460 (D.length - s)) (4096 - s) = _; omega
    unfold Cn.sends cuts; by_cases e : D.length <= s
    . have : s = D.length := by omega
      rw [if_pos (by rw [hm]; omega), if_pos e, this]; rfl
    . rw [if_neg (by rw [hm]; omega), if_neg e]
      have hs2 : ({ cnS src dst A R D s tries G N with sent := (cnS src dst A R D s tries G N).sent + (cnS src dst A R D s tries G N).may } : Cn) = cnS src dst A R D (s + min 1460 (D.length - s)) tries G N := by rw [hm]; rfl
      rw [hs2]; have ih := Zbff hD f (s + min 1460 (D.length - s)) (by omega) (by omega)
      simp only [ih, List.map_cons]; have hp : (cnS src dst A R D s tries G N).piece (cnS src dst A R D s tries G N).may = Zej src dst A (addN R (1 + N)) (4096 - G.length) D (s, s + min 1460 (D.length - s)) := by
        rw [hm]; unfold Cn.piece Cn.mk' Zej; have ho : (cnS src dst A R D s tries G N).onext = addN A (1 + s) := by show addN (addN A 1) s = _; rw [Zbr]
        rw [ho]; have e2 : s + min 1460 (D.length - s) - s = min 1460 (D.length - s) := by omega
        show _ = sgm src dst (addN A (1 + s)) (addN R (1 + N)) 24 (4096 - G.length) ((D.drop s).take (s + min 1460 (D.length - s) - s)); rw [e2]; rfl
      rw [hp]
theorem Zbch (hD : D.length <= 3000) : (cnF 3 src dst A R [] 0 4096 tries G N false false false).write D = (D.length, (cuts 4097 0 D.length).map (Zej src dst A (addN R (1 + N)) (4096 - G.length) D), 0, cnF 3 src dst A R D 0 4096 tries G N false false false) := by
  unfold Cn.write; rw [if_neg (by show ¬ (3 ≠ 3 ∧ 3 ≠ 6); omega)]
  have hm : min D.length (4096 - (cnF 3 src dst A R [] 0 4096 tries G N false false false).data.length) = D.length := by show min D.length (4096 - 0) = _; omega
  have e0 : ({ cnF 3 src dst A R [] 0 4096 tries G N false false false with data := (cnF 3 src dst A R [] 0 4096 tries G N false false false).data ++ D.take D.length } : Cn) = cnS src dst A R D 0 tries G N := by rw [List.take_length]; rfl
  rw [hm]; show (D.length, (Cn.flush ({ cnF 3 src dst A R [] 0 4096 tries G N false false false with data := (cnF 3 src dst A R [] 0 4096 tries G N false false false).data ++ D.take D.length } : Cn)).1, (0 : Int), (Cn.flush ({ cnF 3 src dst A R [] 0 4096 tries G N false false false with data := (cnF 3 src dst A R [] 0 4096 tries G N false false false).data ++ D.take D.length } : Cn)).2) = _
  rw [e0]; have hf : (cnS src dst A R D 0 tries G N).flush = ((cuts 4097 0 D.length).map (Zej src dst A (addN R (1 + N)) (4096 - G.length) D), cnS src dst A R D D.length tries G N) := by
    unfold Cn.flush; rw [if_pos (.inl rfl), Zbff hD 4097 0 (Nat.zero_le _) (by omega)]
    show (_ ++ (Cn.byes (cnS src dst A R D D.length tries G N)).1, (Cn.byes (cnS src dst A R D D.length tries G N)).2) = _; have hb : Cn.byes (cnS src dst A R D D.length tries G N) = ([], cnS src dst A R D D.length tries G N) := rfl; rw [hb, List.append_nil]
  rw [hf]; rfl
end
end Go.Conn
end
section
noncomputable section
namespace Go.Conn
def recv : Cn -> List Sg -> Cn × List Sg
  | c, [] => (c, [])
  | c, g :: gs => ((recv (c.Take g).2.2 gs).1, (c.Take g).1 ++ (recv (c.Take g).2.2 gs).2)
def Zcm : Cn -> List Sg -> Prop
  | _, [] => True
  | c, g :: gs => (c.Take g).2.2.st ≠ 0 ∧ Zcm (c.Take g).2.2 gs
theorem Zqj : ∀ (c : Cn) (xs ys : List Sg), recv c (xs ++ ys) = ((recv (recv c xs).1 ys).1, (recv c xs).2 ++ (recv (recv c xs).1 ys).2)
  | c, [], ys => rfl
  | c, x :: xs, ys => by simp only [List.cons_append, recv, Zqj (c.Take x).2.2 xs ys, List.append_assoc]
theorem Zov : ∀ (c : Cn) (xs ys : List Sg), Zcm c xs -> Zcm (recv c xs).1 ys -> Zcm c (xs ++ ys)
  | c, [], ys, _, h => h
  | c, x :: xs, ys, h1, h2 => ⟨h1.1, Zov (c.Take x).2.2 xs ys h1.2 h2⟩
section
variable {st : Nat} {src dst : Int} {A R : Nat} {D E : List Int} {U win tries : Nat} {G : List Int} {N : Nat} {shut sure got : Bool} {w : Nat}
def nodP (src dst : Int) (q R : Nat) (p : Nat × Nat) : Sg := sgm src dst q (addN R (1 + p.2)) 16 (4096 - p.2) []
theorem Zyr (hst : st = 3 ∨ st = 4) (hU : U <= D.length) (hD : D.length <= 100000) (hE : E.length <= 3000) (h1 : i16 src = true) (h2 : i16 dst = true) : ∀ (f s : Nat), s <= E.length -> E.length - s <= f ->
    recv (cnF st src dst A R D U 4096 tries (E.take s) s shut sure false) ((cuts f s E.length).map (Zej dst src R (addN A (1 + U)) 4096 E)) = (cnF st src dst A R D U 4096 tries E E.length shut sure false, (cuts f s E.length).map (nodP src dst (addN A (1 + D.length + if shut then 1 else 0)) R)) ∧
    Zcm (cnF st src dst A R D U 4096 tries (E.take s) s shut sure false) ((cuts f s E.length).map (Zej dst src R (addN A (1 + U)) 4096 E))
  | 0, s, hs, hf => by
    have : s = E.length := by omega
    subst this; rw [List.take_length]; exact ⟨rfl, trivial⟩
  | f + 1, s, hs, hf => by
    unfold cuts; by_cases e : E.length <= s
    . have : s = E.length := by omega
      subst this; rw [if_pos e, List.take_length]; exact ⟨rfl, trivial⟩
    rw [if_neg e]; have hm : 0 < min 1460 (E.length - s) := by omega
    obtain ⟨ih1, ih2⟩ := Zyr hst hU hD hE h1 h2 f (s + min 1460 (E.length - s)) (by omega) (by omega)
    generalize hmm : min 1460 (E.length - s) = m at *; have hdl : ((E.drop s).take m).length = m := by rw [List.length_take, List.length_drop]; omega
    have htk : E.take s ++ (E.drop s).take m = E.take (s + m) := by rw [List.take_add]
    have hp : Zej dst src R (addN A (1 + U)) 4096 E (s, s + m) = sgm dst src (addN R (1 + s)) (addN A (1 + U)) 24 4096 ((E.drop s).take m) := by unfold Zej; show sgm dst src (addN R (1 + s)) (addN A (1 + U)) 24 4096 ((E.drop s).take (s + m - s)) = _; rw [Nat.add_sub_cancel_left]
    have hT := Zbvy (st := st) (src := src) (dst := dst) (A := A) (R := R) (D := D) (U := U) (win := 4096) (tries := tries) (G := E.take s) (N := s) (shut := shut) (sure := sure) (d := (E.drop s).take m) (w := 4096) hst hU hD (by rw [List.length_take, hdl]; omega) (fun h => by rw [h] at hdl; simp at hdl; omega) h1 h2 (by omega) (Nat.le_refl _)
    rw [htk, hdl] at hT; simp only [List.map_cons]; rw [hp]; have hn : (cnF st src dst A R D U 4096 tries (E.take (s + m)) (s + m) shut sure false).nod = nodP src dst (addN A (1 + D.length + if shut then 1 else 0)) R (s, s + m) := by
      rw [Zoz hU, List.length_take, Nat.min_eq_left (by omega)]; rfl
    refine ⟨?_, ?_, ?_⟩; simp only [recv, hT, ih1, hn]; rfl; rw [hT]; show st ≠ 0; omega; rw [hT]; exact ih2
theorem Zbbb {q : Nat} (hst : st = 3 ∨ st = 4 ∨ st = 5 ∨ st = 6) (hD : D.length <= 3000) (hl : G.length < 4096) (h1 : i16 src = true) (h2 : i16 dst = true) (hg : got = true -> st = 6) (hq : q = addN R (1 + N + if got then 1 else 0)) : ∀ (f s win tries : Nat), s <= D.length -> D.length - s <= f ->
    ∃ w t, recv (cnF st src dst A R D s win tries G N shut sure got) ((cuts f s D.length).map (nodP dst src q A)) = (cnF st src dst A R D D.length w t G N shut sure got, []) ∧ Zcm (cnF st src dst A R D s win tries G N shut sure got) ((cuts f s D.length).map (nodP dst src q A))
  | 0, s, win, tries, hs, hf => by
    have : s = D.length := by omega
    subst this; exact ⟨win, tries, rfl, trivial⟩
  | f + 1, s, win, tries, hs, hf => by
    unfold cuts; by_cases e : D.length <= s
    . have : s = D.length := by omega
      subst this; rw [if_pos e]; exact ⟨win, tries, rfl, trivial⟩
    rw [if_neg e]; have hm : 0 < min 1460 (D.length - s) := by omega
    obtain ⟨t, hT⟩ := Zbsw (st := st) (src := src) (dst := dst) (A := A) (R := R) (D := D) (U := s) (win := win) (tries := tries) (G := G) (N := N) (shut := shut) (sure := sure) (got := got) (u := s + min 1460 (D.length - s)) (w := 4096 - (s + min 1460 (D.length - s))) hst (by omega) (by omega) (by omega) hl h1 h2 (by omega) (by omega) hg
    obtain ⟨w', t', ih1, ih2⟩ := Zbbb hst hD hl h1 h2 hg hq f (s + min 1460 (D.length - s)) (4096 - (s + min 1460 (D.length - s))) t (by omega) (by omega)
    have hp : nodP dst src q A (s, s + min 1460 (D.length - s)) = sgm dst src (addN R (1 + N + if got then 1 else 0)) (addN A (1 + (s + min 1460 (D.length - s)))) 16 (4096 - (s + min 1460 (D.length - s))) [] := by rw [← hq]; rfl
    simp only [List.map_cons]; rw [hp]; refine ⟨w', t', ?_, ?_, ?_⟩; simp only [recv, hT, ih1]; rfl; rw [hT]; show st ≠ 0; omega; rw [hT]; exact ih2
end
def two {α : Type} (z : Nat -> α) (x0 x1 : α) : Nat -> α := fun k => if k = 0 then x0 else if k = 1 then x1 else z k
theorem Zet {α : Type} {z : Nat -> α} {x0 x1 x : α} : upF (two z x0 x1) 0 x = two z x x1 := funext fun k => by unfold upF two; by_cases h : k = 0; rw [if_pos h, if_pos h]; rw [if_neg h, if_neg h, if_neg h]
theorem Zdo {α : Type} {z : Nat -> α} {x0 x1 x : α} : upF (two z x0 x1) 1 x = two z x0 x := funext fun k => by
  unfold upF two; by_cases h : k = 1; rw [if_pos h, if_neg (by omega), if_pos h]
  rw [if_neg h]; by_cases h0 : k = 0; rw [if_pos h0, if_pos h0]; rw [if_neg h0, if_neg h0, if_neg h, if_neg h]
def stE (me seed : Nat) (ports : List Int) (k : Key) (c : Cn) (n : Int) : Stk := ⟨me, seed, ports, [⟨k, 1, c⟩], 1, n⟩
structure Okg (src dst : Int) (g : Sg) : Prop where
  can : g.can = true
  seq : g.seq < 4294967296
  ack : g.ack < 4294967296
  src : g.src = src
  dst : g.dst = dst
theorem Zbvv {g : Sg} (h : g.can = true) : g.fits = true := by
  unfold Sg.can at h; cases e : g.fits with
  | true => rfl
  | false => rw [e] at h; cases h
theorem Okg.read {src dst : Int} {g : Sg} (h : Okg src dst g) (x y : Nat) : Zbv x y (outV x y g) = some g := by unfold outV; rw [if_pos h.can]; exact Zbnx x y (Zbvv h.can) h.seq h.ack
theorem Zlu {me seed fr : Nat} {ports : List Int} {src dst : Int} {c : Cn} {n now : Int} {g : Sg} (h : Okg src dst g) :
    (stE me seed ports ((fr : Int), src, dst) c n).take now fr (outV fr me g) = ⟨(c.Take g).1, evs 1 c.st c.ready (c.Take g).2.2, if (c.Take g).2.2.st = 0 then ⟨me, seed, ports, [], 1, now⟩ else stE me seed ports ((fr : Int), src, dst) (c.Take g).2.2 now⟩ := by
  unfold Stk.take; have hm : (stE me seed ports ((fr : Int), src, dst) c n).me = me := rfl; rw [hm, h.read]; simp only; unfold Stk.meet; have hb : ((stE me seed ports ((fr : Int), src, dst) c n).at_ now).byK ((fr : Int), g.src, g.dst) = some ⟨((fr : Int), src, dst), 1, c⟩ := by rw [h.src, h.dst]; show List.find? _ [_] = _; rw [List.find?_cons]; simp
  rw [hb]; simp only; have ht : ((stE me seed ports ((fr : Int), src, dst) c n).at_ now).turn 1 (c.Take g).2.2 = stE me seed ports ((fr : Int), src, dst) (c.Take g).2.2 now := rfl; rw [ht]; unfold Stk.settle; by_cases e : (c.Take g).2.2.st = 0; rw [if_pos e, if_pos e]; rfl; rw [if_neg e, if_neg e]
theorem Zbin {z : Nat -> Stk} {seed : Nat} {ports : List Int} {src dst : Int} {now : Int} {S1 : Stk} : ∀ (gs : List Sg) (c : Cn) (n : Int) (Y1 : List (List Int)) (y0 : List (List Int)), (∀ g ∈ gs, Okg src dst g) -> Zcm c gs ->
    ∃ n', (n' = n ∨ n' = now) ∧ (LW.more now 0 (gs.map (outV 11 10)) ⟨two z (stE 10 seed ports (11, src, dst) c n) S1, two (fun _ => []) y0 Y1⟩).1 = ⟨two z (stE 10 seed ports (11, src, dst) (recv c gs).1 n') S1, two (fun _ => []) y0 (Y1 ++ (recv c gs).2.map (outV 10 11))⟩
  | [], c, n, Y1, y0, _, _ => ⟨n, .inl rfl, by simp only [List.map_nil, LW.more, recv, List.append_nil]⟩
  | g :: gs, c, n, Y1, y0, hg, ha => by
    have hT := Zlu (me := 10) (seed := seed) (fr := 11) (ports := ports) (src := src) (dst := dst) (c := c) (n := n) (now := now) (hg g List.mem_cons_self); rw [if_neg ha.1] at hT; have hT : (stE 10 seed ports (11, src, dst) c n).take now 11 (outV 11 10 g) = _ := hT; have h1 : (LW.one ⟨two z (stE 10 seed ports (11, src, dst) c n) S1, two (fun _ => []) y0 Y1⟩ now 0 (outV 11 10 g)).1 = ⟨two z (stE 10 seed ports (11, src, dst) (c.Take g).2.2 now) S1, two (fun _ => []) y0 (Y1 ++ (c.Take g).1.map (outV 10 11))⟩ := by unfold LW.one; show (⟨upF (two z (stE 10 seed ports (11, src, dst) c n) S1) 0 ((stE 10 seed ports (11, src, dst) c n).take now 11 (outV 11 10 g)).S, upF (two (fun _ => []) y0 Y1) 1 (Y1 ++ ((stE 10 seed ports (11, src, dst) c n).take now 11 (outV 11 10 g)).outs.map (outV 10 11))⟩ : LW) = _; rw [hT, Zet, Zdo]; rfl
    obtain ⟨n', hn, ih⟩ := Zbin (z := z) (seed := seed) (ports := ports) (S1 := S1) gs (c.Take g).2.2 now (Y1 ++ (c.Take g).1.map (outV 10 11)) y0 (fun x hx => hg x (List.mem_cons_of_mem _ hx)) ha.2; refine ⟨n', .inr (hn.elim id id), ?_⟩; simp only [List.map_cons, LW.more, h1, ih, recv, List.map_append, List.append_assoc]
theorem Zblx {z : Nat -> Stk} {seed : Nat} {ports : List Int} {src dst : Int} {now : Int} {S0 : Stk} : ∀ (gs : List Sg) (c : Cn) (n : Int) (Y0 : List (List Int)) (y1 : List (List Int)), (∀ g ∈ gs, Okg src dst g) -> Zcm c gs ->
    ∃ n', (n' = n ∨ n' = now) ∧ (LW.more now 1 (gs.map (outV 10 11)) ⟨two z S0 (stE 11 seed ports (10, src, dst) c n), two (fun _ => []) Y0 y1⟩).1 = ⟨two z S0 (stE 11 seed ports (10, src, dst) (recv c gs).1 n'), two (fun _ => []) (Y0 ++ (recv c gs).2.map (outV 11 10)) y1⟩
  | [], c, n, Y0, y1, _, _ => ⟨n, .inl rfl, by simp only [List.map_nil, LW.more, recv, List.append_nil]⟩
  | g :: gs, c, n, Y0, y1, hg, ha => by
    have hT := Zlu (me := 11) (seed := seed) (fr := 10) (ports := ports) (src := src) (dst := dst) (c := c) (n := n) (now := now) (hg g List.mem_cons_self); rw [if_neg ha.1] at hT; have hT : (stE 11 seed ports (10, src, dst) c n).take now 10 (outV 10 11 g) = _ := hT; have h1 : (LW.one ⟨two z S0 (stE 11 seed ports (10, src, dst) c n), two (fun _ => []) Y0 y1⟩ now 1 (outV 10 11 g)).1 = ⟨two z S0 (stE 11 seed ports (10, src, dst) (c.Take g).2.2 now), two (fun _ => []) (Y0 ++ (c.Take g).1.map (outV 11 10)) y1⟩ := by unfold LW.one; show (⟨upF (two z S0 (stE 11 seed ports (10, src, dst) c n)) 1 ((stE 11 seed ports (10, src, dst) c n).take now 10 (outV 10 11 g)).S, upF (two (fun _ => []) Y0 y1) 0 (Y0 ++ ((stE 11 seed ports (10, src, dst) c n).take now 10 (outV 10 11 g)).outs.map (outV 11 10))⟩ : LW) = _; rw [hT, Zet, Zdo]; rfl
    obtain ⟨n', hn, ih⟩ := Zblx (z := z) (seed := seed) (ports := ports) (S0 := S0) gs (c.Take g).2.2 now (Y0 ++ (c.Take g).1.map (outV 11 10)) y1 (fun x hx => hg x (List.mem_cons_of_mem _ hx)) ha.2; refine ⟨n', .inr (hn.elim id id), ?_⟩; simp only [List.map_cons, LW.more, h1, ih, recv, List.map_append, List.append_assoc]
end Go.Conn
end
section
set_option maxRecDepth 100000
noncomputable section
namespace Go.Conn
theorem okg {src dst : Int} {q k : Nat} {fl : Int} {w : Nat} {d : List Int} (h1 : i16 src = true) (h2 : i16 dst = true) (h3 : 0 <= fl) (h4 : fl < 64) (hw : w <= 4096) (hd : d.length <= 4096) (hq : q < 4294967296) (hk : k < 4294967296) : Okg src dst (sgm src dst q k fl w d) :=
  ⟨Zhy h1 h2 h3 h4 hw hd, hq, hk, rfl, rfl⟩
theorem Zce : i16 49153 = true := by decide
theorem Zch : i16 179 = true := by decide
def S0 (a : Nat) (c : Cn) (n : Int) : Stk := stE 10 a [] (11, 179, 49153) c n
def S1 (b : Nat) (c : Cn) (n : Int) : Stk := stE 11 b [179] (10, 49153, 179) c n
def zS (a b : Nat) : Nat -> Stk := (LW.start a b).s
def lw (a b : Nat) (s0 s1 : Stk) (y0 y1 : List Sg) : LW := ⟨two (zS a b) s0 s1, two (fun _ => []) (y0.map (outV 11 10)) (y1.map (outV 10 11))⟩
section
variable {a b : Nat}
theorem Zcaq : LW.start a b = lw a b ⟨10, a, [], [], 0, 0⟩ ⟨11, b, [179], [], 0, 0⟩ [] [] := by
  show (⟨_, _⟩ : LW) = ⟨_, _⟩; congr 1
  . funext k; by_cases h : k = 0; subst h; rfl
    . by_cases h1 : k = 1; subst h1; rfl
      . show (if k = 0 then _ else _) = (if k = 0 then _ else if k = 1 then _ else (if k = 0 then _ else _) : Stk)
        rw [if_neg h, if_neg h, if_neg h1]
  . funext k; by_cases h : k = 0; subst h; rfl
    . by_cases h1 : k = 1; subst h1; rfl
      . show [] = (if k = 0 then _ else if k = 1 then _ else [] : List (List Int))
        rw [if_neg h, if_neg h1]
theorem Zbvj {s0 s1 : Stk} {y0 y1 g : List Sg} : (lw a b s0 s1 y0 y1).put 0 (g.map (outV 10 11)) = lw a b s0 s1 y0 (y1 ++ g) := by show (⟨two (zS a b) s0 s1, upF (two (fun _ => []) (y0.map (outV 11 10)) (y1.map (outV 10 11))) 1 (y1.map (outV 10 11) ++ g.map (outV 10 11))⟩ : LW) = _; rw [Zdo, ← List.map_append]; rfl
theorem Zbnn {s0 s1 : Stk} {y0 y1 g : List Sg} : (lw a b s0 s1 y0 y1).put 1 (g.map (outV 11 10)) = lw a b s0 s1 (y0 ++ g) y1 := by show (⟨two (zS a b) s0 s1, upF (two (fun _ => []) (y0.map (outV 11 10)) (y1.map (outV 10 11))) 0 (y0.map (outV 11 10) ++ g.map (outV 11 10))⟩ : LW) = _; rw [Zet, ← List.map_append]; rfl
theorem Zrq {s0 s1 s : Stk} {y0 y1 : List Sg} : ({ lw a b s0 s1 y0 y1 with s := upF (lw a b s0 s1 y0 y1).s 0 s } : LW) = lw a b s s1 y0 y1 := by show (⟨upF (two (zS a b) s0 s1) 0 s, _⟩ : LW) = _; rw [Zet]; rfl
theorem Zzy {s0 s1 s : Stk} {y0 y1 : List Sg} : ({ lw a b s0 s1 y0 y1 with s := upF (lw a b s0 s1 y0 y1).s 1 s } : LW) = lw a b s0 s y0 y1 := by show (⟨upF (two (zS a b) s0 s1) 1 s, _⟩ : LW) = _; rw [Zdo]; rfl
theorem Zbhh {c : Cn} {n now : Int} {s1 : Stk} {y0 y1 : List Sg} (hg : ∀ g ∈ y0, Okg 179 49153 g) (ha : Zcm c y0) : ∃ n', (n' = n ∨ n' = now) ∧ ((lw a b (S0 a c n) s1 y0 y1).come now 0).1 = lw a b (S0 a (recv c y0).1 n') s1 [] (y1 ++ (recv c y0).2) := by obtain ⟨n', hn, h⟩ := Zbin (z := zS a b) (seed := a) (ports := []) (now := now) (S1 := s1) y0 c n (y1.map (outV 10 11)) [] hg ha; refine ⟨n', hn, ?_⟩; show (LW.more now 0 (y0.map (outV 11 10)) ⟨two (zS a b) (S0 a c n) s1, upF (two (fun _ => []) (y0.map (outV 11 10)) (y1.map (outV 10 11))) 0 []⟩).1 = _; rw [Zet]; refine h.trans ?_; unfold lw; rw [List.map_append]; rfl
theorem Zbju {c : Cn} {n now : Int} {s0 : Stk} {y0 y1 : List Sg} (hg : ∀ g ∈ y1, Okg 49153 179 g) (ha : Zcm c y1) : ∃ n', (n' = n ∨ n' = now) ∧ ((lw a b s0 (S1 b c n) y0 y1).come now 1).1 = lw a b s0 (S1 b (recv c y1).1 n') (y0 ++ (recv c y1).2) [] := by obtain ⟨n', hn, h⟩ := Zblx (z := zS a b) (seed := b) (ports := [179]) (now := now) (S0 := s0) y1 c n (y0.map (outV 11 10)) [] hg ha; refine ⟨n', hn, ?_⟩; show (LW.more now 1 (y1.map (outV 10 11)) ⟨two (zS a b) s0 (S1 b c n), upF (two (fun _ => []) (y0.map (outV 11 10)) (y1.map (outV 10 11))) 1 []⟩).1 = _; rw [Zdo]; refine h.trans ?_; unfold lw; rw [List.map_append]; rfl
theorem Zbao {s0 s1 : Stk} {y1 : List Sg} {now : Int} : ((lw a b s0 s1 [] y1).come now 0).1 = lw a b s0 s1 [] y1 := by show (⟨two (zS a b) s0 s1, upF (two (fun _ => []) (([] : List Sg).map (outV 11 10)) (y1.map (outV 10 11))) 0 []⟩ : LW) = _; rw [Zet]; rfl
theorem Zbfl {s0 s1 : Stk} {y0 : List Sg} {now : Int} : ((lw a b s0 s1 y0 []).come now 1).1 = lw a b s0 s1 y0 [] := by show (⟨two (zS a b) s0 s1, upF (two (fun _ => []) (y0.map (outV 11 10)) (([] : List Sg).map (outV 10 11))) 1 []⟩ : LW) = _; rw [Zdo]; rfl
def Zcl (A : Nat) : Sg := ⟨49153, 179, A, 0, 2, 4096, 0, 1460, []⟩
def Zbs (A B : Nat) : Sg := ⟨179, 49153, B, addN A 1, 18, 4096, 0, 1460, []⟩
def cD (A : Nat) : Cn := ⟨1, 49153, 179, A, addN A 1, [], 0, 0, 536, 0, none, false, false, false, false⟩
def cA (A B : Nat) : Cn := ⟨2, 179, 49153, B, addN B 1, [], 0, 0, 1460, 0, some ⟨addN A 1, [], fun _ => none⟩, false, false, false, false⟩
def c0g (A B : Nat) : Cn := cnF 3 49153 179 A B [] 0 4096 0 [] 0 false false false
def c1g (A B : Nat) : Cn := cnF 3 179 49153 B A [] 0 4096 0 [] 0 false false false
def nod0 (A B : Nat) : Sg := sgm 49153 179 (addN A 1) (addN B 1) 16 4096 []
variable {A B : Nat}
theorem Zcey (hA : A < 4294967296) (hB : B < 4294967296) : (cD A).Take (Zbs A B) = ([nod0 A B], 0, c0g A B) := by
  have hcan : (Zbs A B).can = true := rfl; have hacks : (Zbs A B).acks = true := show bitB 18 4 = true by decide
  have hrst : (Zbs A B).rst = false := show bitB 18 2 = false by decide
  have hsyn : (Zbs A B).syn = true := show bitB 18 1 = true by decide
  unfold Cn.Take; rw [hcan, if_neg (by decide), if_neg (by show ¬ 1 = 0; decide), if_pos (show (cD A).st = 1 from rfl)]
  unfold Cn.answer; have hk : decide ((Zbs A B).ack ≠ addN (cD A).first 1) = false := decide_eq_false (fun h => h rfl); rw [hacks, hrst, hsyn, hk, if_neg (by decide), if_neg (by decide), if_neg (by decide)]
  simp only; rw [if_neg (by decide)]
  have hw : ((cD A).begin (Zbs A B)).welcome (Zbs A B) = c0g A B := by
    unfold Cn.welcome; have hu : (Zbs A B).ack = addN (addN A 1) 0 := by rw [Zbr]; rfl
    have h1 := Zmt (c := { (cD A).begin (Zbs A B) with st := 3, tries := 0 }) (n := 0) (w := 4096) (Zj _ _) (by decide) (Nat.zero_le _)
    rw [hu]; show pick (Cn.ackd { (cD A).begin (Zbs A B) with st := 3, tries := 0 } (addN (Cn.una { (cD A).begin (Zbs A B) with st := 3, tries := 0 }) 0) 4096) _ = _
    rw [h1]; show (⟨3, 49153, 179, A, addN (addN A 1) 0, [], 0, 4096, 1460, 0, some ⟨addN B 1, [], fun _ => none⟩, false, false, false, false⟩ : Cn) = _; rw [Zbr]; rfl
  rw [hw]; have hf : (c0g A B).flush = ([], c0g A B) := Full.flush Zhe; rw [hf]; show ([(c0g A B).nod], _, _) = _; have hn : (c0g A B).nod = nod0 A B := by refine (Zoz (Nat.zero_le _)).trans ?_; rfl
  rw [hn]
theorem Zbpi (hA : A < 4294967296) (hB : B < 4294967296) : (cA A B).Take (nod0 A B) = ([], 0, c1g A B) := by
  obtain ⟨f1, f2, f3, f4⟩ := fl16 (src := 49153) (dst := 179) (q := addN A 1) (k := addN B 1) (w := 4096) (d := []); have hcan : (nod0 A B).can = true := rfl; have f1 : (nod0 A B).acks = true := f1; have f2 : (nod0 A B).syn = false := f2; have f3 : (nod0 A B).rst = false := f3; have f4 : (nod0 A B).fin = false := f4; have hsp : (nod0 A B).span = 0 := by unfold Sg.span; rw [f2, f4]; rfl
  unfold Cn.Take; rw [hcan, if_neg (by decide), if_neg (by show ¬ 2 = 0; decide), if_neg (by show ¬ 2 = 1; decide)]
  unfold Cn.take; have hacc : Zco (cA A B).wants (cA A B).jwin (nod0 A B).seq (nod0 A B).span = true := by rw [hsp]; exact Zbjo (Zj A 1) (by show 0 < 4096; decide) (Nat.le_refl _) (by decide)
  simp only [hacc, f1, f2, f3]; rw [if_neg (by simp), if_neg (by simp), if_neg (by simp), if_neg (by simp), if_neg (by show ¬ 2 ≠ 2; simp), if_neg (by show ¬ addN B 1 ≠ addN B 1; simp)]
  have hw : (cA A B).welcome (nod0 A B) = c1g A B := by
    unfold Cn.welcome; have hu : (nod0 A B).ack = addN (addN B 1) 0 := by rw [Zbr]; rfl
    have h1 := Zmt (c := { cA A B with st := 3, tries := 0 }) (n := 0) (w := 4096) (Zj _ _) (by decide) (Nat.zero_le _)
    rw [hu]; show pick (Cn.ackd { cA A B with st := 3, tries := 0 } (addN (Cn.una { cA A B with st := 3, tries := 0 }) 0) 4096) _ = _
    rw [h1]; show (⟨3, 179, 49153, B, addN (addN B 1) 0, [], 0, 4096, 1460, 0, some ⟨addN A 1, [], fun _ => none⟩, false, false, false, false⟩ : Cn) = _; rw [Zbr]; rfl
  rw [hw]; unfold Cn.rest; rw [if_neg (by show ¬ 3 = 0; decide)]
  have ht : (c1g A B).takes (nod0 A B) = c1g A B := by
    show (if 3 = 3 ∨ 3 = 4 ∨ 3 = 5 then (c1g A B).joined (nod0 A B) ((⟨addN A (1 + 0), [], fun _ => none⟩ : Jn).add (addN A 1) []) else c1g A B) = _
    rw [if_pos (.inl rfl), show addN A 1 = addN A (1 + 0) from rfl, Zjv (Zj _ _) (by decide)]
    unfold Cn.joined; rw [f4, Bool.false_and, if_neg (by decide), show addN (addN A (1 + 0)) ([] : List Int).length = addN A (1 + 0) from Zbr _ _ _]
    rfl
  simp only [ht]; have hf : (c1g A B).flush = ([], c1g A B) := Full.flush Zhe; rw [hf]; show (if _ then _ else _, _, _) = _
  rw [if_neg (fun h => h.2 hsp)]
end
end Go.Conn
end
section
set_option maxRecDepth 100000
noncomputable section
namespace Go.Conn
section
variable {a b : Nat}
theorem hand1 (ha : a < 4294967296) (hb : b < 4294967296) : (lw a b (S0 a (cD (addN a 64000)) 0) ⟨11, b, [179], [], 0, 0⟩ [] [Zcl (addN a 64000)]).come 0 1 = (lw a b (S0 a (cD (addN a 64000)) 0) (S1 b (cA (addN a 64000) (addN b 64000)) 0) [Zbs (addN a 64000) (addN b 64000)] [], []) := by
  have hok : Okg 49153 179 (Zcl (addN a 64000)) := ⟨rfl, Zj _ _, (show 0 < 4294967296 by decide), rfl, rfl⟩
  have ht : (⟨11, b, [179], [], 0, 0⟩ : Stk).take 0 10 (outV 10 11 (Zcl (addN a 64000))) = ⟨[Zbs (addN a 64000) (addN b 64000)], [], S1 b (cA (addN a 64000) (addN b 64000)) 0⟩ := by
    unfold Stk.take; show (match Zbv 10 11 (outV 10 11 (Zcl (addN a 64000))) with | none => _ | some s => _) = _
    rw [hok.read]; have g1 : (Zcl (addN a 64000)).syn = true := show bitB 2 1 = true by decide
    have g2 : (Zcl (addN a 64000)).fin = false := show bitB 2 0 = false by decide
    have g3 : (Zcl (addN a 64000)).rst = false := show bitB 2 2 = false by decide
    have g4 : (Zcl (addN a 64000)).acks = false := show bitB 2 4 = false by decide
    have hsp : (Zcl (addN a 64000)).span = 1 := by unfold Sg.span; rw [g1, g2]; rfl
    have hd : (⟨11, b, [179], [], 0, 0⟩ : Stk).dials (Zcl (addN a 64000)) = true := by unfold Stk.dials; rw [g1, g2, g3, g4, hsp]; rfl
    show (⟨((⟨11, b, [179], [], 0, 0⟩ : Stk).stranger (10, 49153, 179) (Zcl (addN a 64000))).1, [], ((⟨11, b, [179], [], 0, 0⟩ : Stk).stranger (10, 49153, 179) (Zcl (addN a 64000))).2⟩ : Took) = _; have hs : (⟨11, b, [179], [], 0, 0⟩ : Stk).stranger (10, 49153, 179) (Zcl (addN a 64000)) = ([Zbs (addN a 64000) (addN b 64000)], S1 b (cA (addN a 64000) (addN b 64000)) 0) := by
      unfold Stk.stranger; rw [hd, if_pos rfl, if_neg (by show ¬ 16 <= 0; decide)]
      rfl
    rw [hs]
  show (((⟨upF (two (zS a b) (S0 a (cD (addN a 64000)) 0) ⟨11, b, [179], [], 0, 0⟩) 1 ((⟨11, b, [179], [], 0, 0⟩ : Stk).take 0 10 (outV 10 11 (Zcl (addN a 64000)))).S, upF (upF (two (fun _ => []) (([] : List Sg).map (outV 11 10)) ([Zcl (addN a 64000)].map (outV 10 11))) 1 []) 0 ([] ++ ((⟨11, b, [179], [], 0, 0⟩ : Stk).take 0 10 (outV 10 11 (Zcl (addN a 64000)))).outs.map (outV 11 10))⟩ : LW)), ((⟨11, b, [179], [], 0, 0⟩ : Stk).take 0 10 (outV 10 11 (Zcl (addN a 64000)))).evs ++ []) = _; rw [ht, Zdo, Zdo, Zet]; rfl
theorem hand2 (ha : a < 4294967296) (hb : b < 4294967296) {s1 : Stk} : (lw a b (S0 a (cD (addN a 64000)) 0) s1 [Zbs (addN a 64000) (addN b 64000)] []).come 0 0 = (lw a b (S0 a (c0g (addN a 64000) (addN b 64000)) 0) s1 [] [nod0 (addN a 64000) (addN b 64000)], [(1, 1)]) := by
  have hok : Okg 179 49153 (Zbs (addN a 64000) (addN b 64000)) := ⟨rfl, Zj _ _, Zj _ _, rfl, rfl⟩; have hT := Zlu (me := 10) (seed := a) (fr := 11) (ports := []) (src := 179) (dst := 49153) (c := cD (addN a 64000)) (n := 0) (now := 0) hok; rw [Zcey (Zj _ _) (Zj _ _), if_neg (by show ¬ 3 = 0; decide)] at hT
  have hT : (S0 a (cD (addN a 64000)) 0).take 0 11 (outV 11 10 (Zbs (addN a 64000) (addN b 64000))) = ⟨[nod0 (addN a 64000) (addN b 64000)], [(1, 1)], S0 a (c0g (addN a 64000) (addN b 64000)) 0⟩ := hT; show (((⟨upF (two (zS a b) (S0 a (cD (addN a 64000)) 0) s1) 0 ((S0 a (cD (addN a 64000)) 0).take 0 11 (outV 11 10 (Zbs (addN a 64000) (addN b 64000)))).S, upF (upF (two (fun _ => []) ([Zbs (addN a 64000) (addN b 64000)].map (outV 11 10)) (([] : List Sg).map (outV 10 11))) 0 []) 1 ([] ++ ((S0 a (cD (addN a 64000)) 0).take 0 11 (outV 11 10 (Zbs (addN a 64000) (addN b 64000)))).outs.map (outV 10 11))⟩ : LW)), ((S0 a (cD (addN a 64000)) 0).take 0 11 (outV 11 10 (Zbs (addN a 64000) (addN b 64000)))).evs ++ []) = _; rw [hT, Zet, Zet, Zdo]; rfl
theorem hand3 (ha : a < 4294967296) (hb : b < 4294967296) {s0 : Stk} : (lw a b s0 (S1 b (cA (addN a 64000) (addN b 64000)) 0) [] [nod0 (addN a 64000) (addN b 64000)]).come 0 1 = (lw a b s0 (S1 b (c1g (addN a 64000) (addN b 64000)) 0) [] [], [(1, 1)]) := by
  have hok : Okg 49153 179 (nod0 (addN a 64000) (addN b 64000)) := okg Zce Zch (by decide) (by decide) (by decide) (by decide) (Zj _ _) (Zj _ _)
  have hT := Zlu (me := 11) (seed := b) (fr := 10) (ports := [179]) (src := 49153) (dst := 179) (c := cA (addN a 64000) (addN b 64000)) (n := 0) (now := 0) hok; rw [Zbpi (Zj _ _) (Zj _ _), if_neg (by show ¬ 3 = 0; decide)] at hT
  have hT : (S1 b (cA (addN a 64000) (addN b 64000)) 0).take 0 10 (outV 10 11 (nod0 (addN a 64000) (addN b 64000))) = ⟨[], [(1, 1)], S1 b (c1g (addN a 64000) (addN b 64000)) 0⟩ := hT; show (((⟨upF (two (zS a b) s0 (S1 b (cA (addN a 64000) (addN b 64000)) 0)) 1 ((S1 b (cA (addN a 64000) (addN b 64000)) 0).take 0 10 (outV 10 11 (nod0 (addN a 64000) (addN b 64000)))).S, upF (upF (two (fun _ => []) (([] : List Sg).map (outV 11 10)) ([nod0 (addN a 64000) (addN b 64000)].map (outV 10 11))) 1 []) 0 ([] ++ ((S1 b (cA (addN a 64000) (addN b 64000)) 0).take 0 10 (outV 10 11 (nod0 (addN a 64000) (addN b 64000)))).outs.map (outV 11 10))⟩ : LW)), ((S1 b (cA (addN a 64000) (addN b 64000)) 0).take 0 10 (outV 10 11 (nod0 (addN a 64000) (addN b 64000)))).evs ++ []) = _; rw [hT, Zdo, Zdo, Zet]; rfl
end
section
variable {a b A B : Nat} {D E : List Int}
def pcs0 (A B : Nat) (D : List Int) : List Sg := (cuts 4097 0 D.length).map (Zej 49153 179 A (addN B 1) 4096 D)
def pcs1 (A B : Nat) (E : List Int) : List Sg := (cuts 4097 0 E.length).map (Zej 179 49153 B (addN A 1) 4096 E)
def fin0 (A B : Nat) (D : List Int) : Sg := sgm 49153 179 (addN A (1 + D.length)) (addN B 1) 17 4096 []
def Zfj (A B : Nat) (D E : List Int) : List Sg := (cuts 4097 0 D.length).map (nodP 179 49153 (addN B (1 + E.length)) A)
def Zfb (A B : Nat) (D E : List Int) : List Sg := (cuts 4097 0 E.length).map (nodP 49153 179 (addN A (2 + D.length)) B)
def nodf (A B : Nat) (D E : List Int) : Sg := sgm 179 49153 (addN B (1 + E.length)) (addN A (2 + D.length)) 16 (4096 - D.length) []
def c0s (A B : Nat) (D : List Int) : Cn := cnF 4 49153 179 A B D 0 4096 0 [] 0 true false false
def c1w (A B : Nat) (E : List Int) : Cn := cnF 3 179 49153 B A E 0 4096 0 [] 0 false false false
def c1f (A B : Nat) (D E : List Int) : Cn := cnF 6 179 49153 B A E 0 4096 0 D D.length false false true
theorem e2 (X n : Nat) : addN X (1 + n + 1) = addN X (2 + n) := by congr 1; omega
theorem Zbdf {src dst : Int} {A k : Nat} {D : List Int} (h1 : i16 src = true) (h2 : i16 dst = true) (hk : k < 4294967296) (hD : D.length <= 3000) (f s : Nat) : ∀ g ∈ (cuts f s D.length).map (Zej src dst A k 4096 D), Okg src dst g := by intro g hg; obtain ⟨p, _, rfl⟩ := List.mem_map.1 hg; exact okg h1 h2 (by decide) (by decide) (Nat.le_refl _) (by rw [List.length_take, List.length_drop]; omega) (Zj _ _) hk
theorem Zbkj {src dst : Int} {q R : Nat} (h1 : i16 src = true) (h2 : i16 dst = true) (hq : q < 4294967296) (l : List (Nat × Nat)) : ∀ g ∈ l.map (nodP src dst q R), Okg src dst g := by intro g hg; obtain ⟨p, _, rfl⟩ := List.mem_map.1 hg; exact okg h1 h2 (by decide) (by decide) (Nat.sub_le _ _) (by show 0 <= 4096; decide) hq (Zj _ _)
theorem run1 (hD : D.length <= 3000) (hE : E.length <= 3000) : recv (c1w A B E) (pcs0 A B D ++ [fin0 A B D]) = (c1f A B D E, Zfj A B D E ++ [nodf A B D E]) ∧ Zcm (c1w A B E) (pcs0 A B D ++ [fin0 A B D]) := by
  obtain ⟨r1, r2⟩ := Zyr (st := 3) (src := 179) (dst := 49153) (A := B) (R := A) (D := E) (E := D) (U := 0) (tries := 0) (shut := false) (sure := false) (.inl rfl) (Nat.zero_le _) (by omega) hD Zch Zce 4097 0 (Nat.zero_le _) (by omega)
  have r1 : recv (c1w A B E) (pcs0 A B D) = (cnF 3 179 49153 B A E 0 4096 0 D D.length false false false, Zfj A B D E) := r1; have r2 : Zcm (c1w A B E) (pcs0 A B D) := r2; have hT := Zcbb (st := 3) (src := 179) (dst := 49153) (A := B) (R := A) (D := E) (U := 0) (win := 4096) (tries := 0) (G := D) (N := D.length) (shut := false) (sure := false) (w := 4096) rfl (Nat.zero_le _) (by omega) (by omega) Zch Zce (by decide) (Nat.le_refl _)
  have hn : (cnF 6 179 49153 B A E 0 4096 0 D D.length false false true).nod = nodf A B D E := by rw [Zoz (Nat.zero_le _)]; show sgm 179 49153 (addN B (1 + E.length)) (addN A (1 + D.length + 1)) 16 (4096 - D.length) [] = _; rw [e2]; rfl
  rw [hn] at hT; have hT : (cnF 3 179 49153 B A E 0 4096 0 D D.length false false false).Take (fin0 A B D) = ([nodf A B D E], 0, c1f A B D E) := hT; refine ⟨?_, Zov _ _ _ r2 ?_⟩; rw [Zqj, r1]; show (((recv (Cn.Take _ (fin0 A B D)).2.2 []).1, Zfj A B D E ++ ((Cn.Take _ (fin0 A B D)).1 ++ (recv (Cn.Take _ (fin0 A B D)).2.2 []).2)) : Cn × List Sg) = _; rw [hT]; rfl; rw [r1]; refine ⟨?_, trivial⟩; rw [hT]; show 6 ≠ 0; decide
def c0b (A B : Nat) (D E : List Int) (w t : Nat) (G : List Int) : Cn := cnF 5 49153 179 A B D D.length w t G E.length true true false
theorem run2 (hD : D.length <= 3000) (hE : E.length <= 3000) : ∃ w t, recv (c0s A B D) (pcs1 A B E ++ (Zfj A B D E ++ [nodf A B D E])) = (c0b A B D E w t E, Zfb A B D E) ∧ Zcm (c0s A B D) (pcs1 A B E ++ (Zfj A B D E ++ [nodf A B D E])) := by
  obtain ⟨r1, r2⟩ := Zyr (st := 4) (src := 49153) (dst := 179) (A := A) (R := B) (D := D) (E := E) (U := 0) (tries := 0) (shut := true) (sure := false) (.inr rfl) (Nat.zero_le _) (by omega) hE Zce Zch 4097 0 (Nat.zero_le _) (by omega)
  have hq : addN A (1 + D.length + if (true : Bool) = true then 1 else 0) = addN A (2 + D.length) := e2 A D.length
  rw [hq] at r1; have r1 : recv (c0s A B D) (pcs1 A B E) = (cnF 4 49153 179 A B D 0 4096 0 E E.length true false false, Zfb A B D E) := r1; have r2 : Zcm (c0s A B D) (pcs1 A B E) := r2; obtain ⟨w, t, q1, q2⟩ := Zbbb (st := 4) (src := 49153) (dst := 179) (A := A) (R := B) (D := D) (G := E) (N := E.length) (shut := true) (sure := false) (got := false) (q := addN B (1 + E.length)) (.inr (.inl rfl)) hD (by omega) Zce Zch (fun h => by cases h) rfl 4097 0 4096 0 (Nat.zero_le _) (by omega)
  have q1 : recv (cnF 4 49153 179 A B D 0 4096 0 E E.length true false false) (Zfj A B D E) = (cnF 4 49153 179 A B D D.length w t E E.length true false false, []) := q1; have q2 : Zcm (cnF 4 49153 179 A B D 0 4096 0 E E.length true false false) (Zfj A B D E) := q2; have hT := Zcfe (src := 49153) (dst := 179) (A := A) (R := B) (D := D) (win := w) (tries := t) (G := E) (N := E.length) (w := 4096 - D.length) (by omega) (by omega) Zce Zch (by omega) (by omega)
  have hT : (cnF 4 49153 179 A B D D.length w t E E.length true false false).Take (nodf A B D E) = ([], 0, c0b A B D E (4096 - D.length) 0 E) := hT; refine ⟨4096 - D.length, 0, ?_, Zov _ _ _ r2 ?_⟩; rw [Zqj, r1]; simp only; rw [Zqj, q1]; show (((recv (Cn.Take _ (nodf A B D E)).2.2 []).1, Zfb A B D E ++ ([] ++ ((Cn.Take _ (nodf A B D E)).1 ++ (recv (Cn.Take _ (nodf A B D E)).2.2 []).2))) : Cn × List Sg) = _; rw [hT]; show (_, Zfb A B D E ++ ([] ++ ([] ++ []))) = _; simp only [List.append_nil]; rfl; rw [r1]; refine Zov _ _ _ q2 ?_; rw [q1]; refine ⟨?_, trivial⟩; rw [hT]; show 5 ≠ 0; decide
def c1b (A B : Nat) (D E : List Int) (w t : Nat) (G : List Int) : Cn := cnF 6 179 49153 B A E E.length w t G D.length false false true
theorem run3 (hD : D.length <= 3000) (hE : E.length <= 3000) : ∃ w t, recv (c1f A B D E) (Zfb A B D E) = (c1b A B D E w t D, []) ∧ Zcm (c1f A B D E) (Zfb A B D E) :=
  Zbbb (st := 6) (src := 179) (dst := 49153) (A := B) (R := A) (D := E) (G := D) (N := D.length) (shut := false) (sure := false) (got := true) (q := addN A (2 + D.length)) (.inr (.inr (.inr rfl))) hE (by omega) Zch Zce (fun _ => rfl) (e2 A D.length).symm 4097 0 4096 0 (Nat.zero_le _) (by omega)
def fin1 (A B : Nat) (D E : List Int) : Sg := sgm 179 49153 (addN B (1 + E.length)) (addN A (2 + D.length)) 17 4096 []
def nodl (A B : Nat) (D E : List Int) : Sg := sgm 49153 179 (addN A (2 + D.length)) (addN B (2 + E.length)) 16 4096 []
def c1c (A B : Nat) (D E : List Int) (w t : Nat) : Cn := cnF 8 179 49153 B A E E.length w t [] D.length true false true
def c0c (A B : Nat) (D E : List Int) (w t : Nat) : Cn := cnF 9 49153 179 A B D D.length w t [] E.length true true true
theorem end1 {w t : Nat} : (c1b A B D E w t []).end_ = ([fin1 A B D E], 0, c1c A B D E w t) := by
  have h := Zbks (st := 6) (src := 179) (dst := 49153) (A := B) (R := A) (D := E) (U := E.length) (win := w) (tries := t) (G := []) (N := D.length) (sure := false) (got := true) (.inr rfl) (Nat.le_refl _) ⟨fun _ => rfl, fun _ => rfl⟩; have hq : addN A (1 + D.length + if (true : Bool) = true then 1 else 0) = addN A (2 + D.length) := e2 A D.length
  rw [hq] at h; exact h
theorem run4 (hD : D.length <= 3000) {w t : Nat} : (c0b A B D E w t []).Take (fin1 A B D E) = ([nodl A B D E], 0, c0c A B D E 4096 t) := by
  have h := Zbrh (src := 49153) (dst := 179) (A := A) (R := B) (D := D) (win := w) (tries := t) (G := []) (N := E.length) (w := 4096) (by omega) (by decide) Zce Zch (by decide) (Nat.le_refl _)
  have hn : (cnF 9 49153 179 A B D D.length 4096 t [] E.length true true true).nod = nodl A B D E := by rw [Zoz (Nat.le_refl _)]; show sgm 49153 179 (addN A (1 + D.length + 1)) (addN B (1 + E.length + 1)) 16 4096 [] = _; rw [e2, e2]; rfl
  rw [hn] at h; exact h
theorem run5 (hE : E.length <= 3000) {w t : Nat} : ∃ c, (c1c A B D E w t).Take (nodl A B D E) = ([], 0, c) ∧ c.st = 0 :=
  ⟨_, Zbqa (src := 179) (dst := 49153) (A := B) (R := A) (D := E) (win := w) (tries := t) (G := []) (N := D.length) (w := 4096) (by omega) (by decide) Zch Zce (by decide) (Nat.le_refl _), rfl⟩
end
end Go.Conn
end
