/-
  Layer 15 in plain terms: segments, joints, outboxes, connections, and what calls make of them.
  Layer 15 in plain terms: numbers, joints: what is genuine joins to a stream's beginning.
  Layer 15 in plain terms: what a side says is genuine, and what it hears is the other side's stream.
  Layer 15 in plain terms: what calls answer is genuine, and what is heard is the other side's stream.
  Layer 15 in plain terms: what is heard stays the other side's stream.
  Layer 15 in plain terms: two that talk: what each read is a beginning of what the other one wrote.
  Layer 15 in plain terms: two that talk.
  Layer 15 in plain terms: how much goes out; two that talk, by their numbers.
  Layer 15 in plain terms: two connections begin, and are established.
-/
section
set_option linter.all false
noncomputable section
namespace Go.Conn

/-- A segment. -/
structure Sg where
  src : Int
  dst : Int
  seq : Nat
  ack : Nat
  flags : Int
  win : Int
  urg : Int
  big : Int
  data : List Int
def i16 (n : Int) : Bool := decide (0 ≤ n) && decide (n ≤ 65535)
def Sg.fits (s : Sg) : Bool := i16 s.src && i16 s.dst && i16 s.win && i16 s.urg && i16 s.big && decide (0 ≤ s.flags) && decide (s.flags < 64)
/-- May a segment be built? -/
def Sg.can (s : Sg) : Bool := s.fits && decide (s.data.length ≤ 65495)
def bitB (f : Int) (b : Nat) : Bool := decide (f.toNat / 2 ^ b % 2 = 1)
def Sg.has (s : Sg) (b : Nat) : Bool := bitB s.flags b
def Sg.fin (s : Sg) : Bool := s.has 0
def Sg.syn (s : Sg) : Bool := s.has 1
def Sg.rst (s : Sg) : Bool := s.has 2
def Sg.acks (s : Sg) : Bool := s.has 4
def Sg.span (s : Sg) : Nat := s.data.length + (if s.syn then 1 else 0) + (if s.fin then 1 else 0)

/-- Numbers that go round (chosen, so that nobody reckons them out by unfolding). -/
noncomputable def addN (a n : Nat) : Nat := Classical.choose (⟨_, rfl⟩ : ∃ x, x = (a + n) % 4294967296)
theorem addN_eq (a n : Nat) : addN a n = (a + n) % 4294967296 := Classical.choose_spec (⟨_, rfl⟩ : ∃ x, x = (a + n) % 4294967296)
noncomputable def wayN (a b : Nat) : Nat := Classical.choose (⟨_, rfl⟩ : ∃ x, x = (b + 4294967296 - a) % 4294967296)
theorem wayN_eq (a b : Nat) : wayN a b = (b + 4294967296 - a) % 4294967296 := Classical.choose_spec (⟨_, rfl⟩ : ∃ x, x = (b + 4294967296 - a) % 4294967296)
def aheadN (a b : Nat) : Bool := decide (wayN a b ≠ 0) && decide (wayN a b < 2147483648)
/-- What answers a segment of no connection. -/
def Sg.reset (s : Sg) : Option Sg :=
  if s.rst then none else if s.acks then some ⟨s.dst, s.src, s.ack, 0, 4, 0, 0, 0, []⟩ else some ⟨s.dst, s.src, 0, addN s.seq s.span, 20, 0, 0, 0, []⟩

/-! ### Numbers -/
def withinN (a from_ size : Nat) : Bool := decide (size ≤ 65535) && decide (wayN from_ a < size)
def acceptsN (next size from_ n : Nat) : Bool :=
  if 65535 < size ∨ 1073741824 < n then false
  else if n = 0 ∧ size = 0 then decide (from_ = next)
  else if n = 0 then withinN from_ next size
  else withinN from_ next size || withinN (addN from_ (n - 1)) next size
def trimN (next size from_ n : Nat) : Nat × Nat :=
  if 65535 < size ∨ 1073741824 < n then (0, 0)
  else if wayN next from_ < size then (0, min n (size - wayN next from_))
  else if n ≤ wayN from_ next ∨ size = 0 then (0, 0)
  else (wayN from_ next, min (n - wayN from_ next) size)

/-! ### Joints -/
structure Jn where
  next : Nat
  rdy : List Int
  held : Nat → Option Int
def Jn.win (j : Jn) : Nat := 4096 - j.rdy.length
def Jn.hold (j : Jn) (behind : Nat) (b : List Int) : Jn := { j with held := fun i => (j.held i).or (if behind ≤ i then b[i - behind]? else none) }
def Jn.step (j : Jn) (x : Int) : Jn := ⟨addN j.next 1, j.rdy ++ [x], fun i => j.held (i + 1)⟩
def Jn.move : Nat → Jn → Jn
  | 0, j => j
  | f + 1, j => match j.held 0 with
    | some x => (j.step x).move f
    | none => j
def Jn.add (j : Jn) (at_ : Nat) (b : List Int) : Jn :=
  if 65536 < b.length then j else
  let t := trimN j.next j.win at_ b.length
  (j.hold (wayN j.next (addN at_ t.1)) ((b.drop t.1).take t.2)).move 4096
def Jn.read (j : Jn) (n : Nat) : List Int × Jn := (j.rdy.take n, { j with rdy := j.rdy.drop n })
structure Jn.Ok (j : Jn) : Prop where
  next : j.next < 4294967296
  len : j.rdy.length ≤ 4096
  held : ∀ i, j.held i ≠ none → i + j.rdy.length < 4096

/-! ### Connections -/
structure Cn where
  st : Nat
  src : Int
  dst : Int
  first : Nat
  una : Nat
  data : List Int
  sent : Nat
  win : Nat
  big : Nat
  tries : Nat
  inn : Option Jn
  shut : Bool
  bye : Bool
  sure : Bool
  got : Bool
structure Cn.Ok (c : Cn) : Prop where
  st : c.st ≤ 9
  first : c.first < 4294967296
  una : c.una < 4294967296
  len : c.data.length ≤ 4096
  sent : c.sent ≤ c.data.length
  win : c.win ≤ 65535
  big : 1 ≤ c.big ∧ c.big ≤ 1460
  tries : c.tries ≤ 8
  inn : ∀ j, c.inn = some j → j.Ok
  some : 2 ≤ c.st → c.inn ≠ none
  got : c.got = true → c.inn ≠ none
def Cn.wants (c : Cn) : Nat := match c.inn with
  | none => if c.got then 1 else 0
  | some j => if c.got then addN j.next 1 else j.next
def Cn.onext (c : Cn) : Nat := addN c.una c.sent
def Cn.last (c : Cn) : Nat := if c.bye then addN c.onext 1 else c.onext
def Cn.room (c : Cn) : Nat := match c.inn with
  | none => 4096
  | some j => j.win
def Cn.mk' (c : Cn) (at_ : Nat) (flags : Int) (b : List Int) : Sg := ⟨c.src, c.dst, at_, c.wants, flags, c.room, 0, 0, b⟩
def Cn.hello (c : Cn) : Sg := { c.mk' c.first (if c.st = 2 then 18 else if c.st = 1 then 2 else 0) [] with big := 1460 }
def Cn.nod (c : Cn) : Sg := c.mk' c.last 16 []
def Cn.fin (c : Cn) : Sg := c.mk' c.onext 17 []
def Cn.fresh (c : Cn) (most : Nat) : Cn := { c with una := addN c.first 1, data := [], sent := 0, win := 0, big := most, tries := 0 }
def greatest (s : Sg) : Nat := if s.big = 0 then 536 else min s.big.toNat 1460
def Cn.begin (c : Cn) (s : Sg) : Cn := { c.fresh (greatest s) with inn := some ⟨addN s.seq 1, [], fun _ => none⟩ }
/-- How many bytes may go out. -/
def Cn.may (c : Cn) : Nat := min (min c.big (c.data.length - c.sent)) (c.win - c.sent)
def Cn.piece (c : Cn) (n : Nat) : Sg := c.mk' c.onext 24 ((c.data.drop c.sent).take n)
def Cn.sends : Nat → Cn → List Sg × Cn
  | 0, c => ([], c)
  | f + 1, c => if c.may = 0 then ([], c) else
    let r := Cn.sends f { c with sent := c.sent + c.may }
    (c.piece c.may :: r.1, r.2)
def Cn.byes (c : Cn) : List Sg × Cn := if c.shut && !c.bye && decide (c.sent = c.data.length) then ([c.fin], { c with bye := true }) else ([], c)
def Cn.flush (c : Cn) : List Sg × Cn :=
  if c.st = 3 ∨ c.st = 4 ∨ c.st = 6 ∨ c.st = 7 ∨ c.st = 8 then
    let a := Cn.sends 4097 c
    let b := a.2.byes
    (a.1 ++ b.1, b.2)
  else ([], c)
def Cn.news (c : Cn) : Cn := { c with tries := 0 }
/-- An acknowledgement; none: it is of what was not sent. -/
def Cn.ackd (c : Cn) (ack : Nat) (win : Nat) : Option (Nat × Cn) :=
  let n := wayN c.una ack
  if c.sent < n then none
  else some (n, { c with win := win, una := addN c.una n, data := c.data.drop n, sent := c.sent - n, tries := if n = 0 then c.tries else 0 })
def pick {α : Type} : Option (Nat × α) → α → α
  | some (_, e), _ => e
  | none, z => z
theorem pick_ind {α : Type} {p : α → Prop} : ∀ {o : Option (Nat × α)} {z : α}, (∀ n d, o = some (n, d) → p d) → p z → p (pick o z)
  | some (n, d), _, h1, _ => h1 n d rfl
  | none, _, _, h2 => h2
def Cn.welcome (c : Cn) (s : Sg) : Cn := pick (Cn.ackd { c with st := 3, tries := 0 } s.ack s.win.toNat) { c with st := 3, tries := 0 }
def Cn.finished (c : Cn) : Cn := if c.sure then c else
  { c with sure := true, st := if c.st = 4 then 5 else if c.st = 7 then 9 else if c.st = 8 then 0 else c.st }
def Cn.quiet (c : Cn) (s : Sg) : Cn := if s.win = 0 then { c with tries := 0 } else c
def lastN : Option (Nat × Cn) → Cn → Cn
  | some (n, d), c => if 0 < n ∨ c.sure = false then d.news else d
  | none, c => c
def ackG : Option (Nat × Cn) → Cn → Sg → Bool × Cn
  | some (_, d), _, s => (true, d.quiet s)
  | none, c, s => if c.bye && decide (s.ack = c.last) then (true, ((lastN (c.ackd c.onext s.win.toNat) c).finished).quiet s) else (aheadN s.ack c.una, c)
def Cn.acknowledged (c : Cn) (s : Sg) : Bool × Cn := ackG (c.ackd s.ack s.win.toNat) c s
/-- With the data of a segment joined. -/
def Cn.joined (c : Cn) (s : Sg) (k : Jn) : Cn :=
  if s.fin && decide (addN s.seq s.data.length = k.next) then { c with inn := some k, got := true, st := if c.st = 3 then 6 else if c.st = 4 then 7 else 9 } else { c with inn := some k }
def takesJ : Option Jn → Cn → Sg → Cn
  | none, c, _ => c
  | some j, c, s => if c.st = 3 ∨ c.st = 4 ∨ c.st = 5 then c.joined s (j.add s.seq s.data) else c
def Cn.takes (c : Cn) (s : Sg) : Cn := takesJ c.inn c s
/-- What a call answers: segments that go out, an error. -/
abbrev Ans := List Sg × Int × Cn
def Cn.lost (c : Cn) : Ans := ([], 151, { c with st := 0 })
def Cn.refuse (s : Sg) : List Sg := match s.reset with
  | some r => [r]
  | none => []
def Cn.answer (c : Cn) (s : Sg) : Ans :=
  if s.acks && decide (s.ack ≠ addN c.first 1) then (Cn.refuse s, 0, c)
  else if s.rst then (if s.acks then c.lost else ([], 0, c))
  else if !s.syn then ([], 0, c)
  else
    let d := c.begin s
    if !s.acks then
      let e := { d with st := 2 }
      ([e.hello], 0, e)
    else
      let f := (d.welcome s).flush
      (if f.1 = [] then [f.2.nod] else f.1, 0, f.2)
/-- What stands behind the acknowledgement. -/
def Cn.rest (c : Cn) (s : Sg) : Ans :=
  if c.st = 0 then ([], 0, c)
  else
    let f := (c.takes s).flush
    (if f.1 = [] ∧ s.span ≠ 0 then [f.2.nod] else f.1, 0, f.2)
def jwinJ : Option Jn → Nat
  | some j => j.win
  | none => 0
def Cn.jwin (c : Cn) : Nat := jwinJ c.inn
def Cn.take (c : Cn) (s : Sg) : Ans :=
  let ok := acceptsN c.wants c.jwin s.seq s.span
  if !ok && s.rst then ([], 0, c)
  else if !ok || (s.syn && !s.rst) || (s.rst && decide (s.seq ≠ c.wants)) then ([c.nod], 0, c)
  else if s.rst then c.lost
  else if !s.acks then ([], 0, c)
  else if c.st ≠ 2 then
    (let a := c.acknowledged s
     if a.1 then a.2.rest s else ([a.2.nod], 0, a.2))
  else if s.ack ≠ addN c.first 1 then (Cn.refuse s, 0, c)
  else (c.welcome s).rest s
def Cn.Take (c : Cn) (s : Sg) : Ans :=
  if !s.can then ([], 2, c)
  else if c.st = 0 then ([], 150, c)
  else if c.st = 1 then c.answer s
  else c.take s
def Cn.write (c : Cn) (b : List Int) : Nat × Ans :=
  if c.st ≠ 3 ∧ c.st ≠ 6 then (0, [], 150, c)
  else
    let n := min b.length (4096 - c.data.length)
    let f := Cn.flush { c with data := c.data ++ b.take n }
    (n, f.1, 0, f.2)
def readJ : Option Jn → Cn → Nat → List Int × List Sg × Cn
  | none, c, _ => ([], [], c)
  | some j, c, n => (j.rdy.take n, if j.win = 0 ∧ 0 < (j.read n).2.win ∧ 3 ≤ c.st ∧ c.st ≤ 5 then [Cn.nod { c with inn := some (j.read n).2 }] else [], { c with inn := some (j.read n).2 })
def Cn.read (c : Cn) (n : Nat) : List Int × List Sg × Cn := readJ c.inn c n
def Cn.end_ (c : Cn) : Ans :=
  if c.st = 3 ∨ c.st = 6 then
    let f := Cn.flush { c with st := if c.st = 3 then 4 else 8, shut := true }
    (f.1, 0, f.2)
  else ([], 150, c)
def Cn.abort (c : Cn) : List Sg × Cn := (if 2 ≤ c.st ∧ c.st ≤ 8 then [c.mk' c.last 20 []] else [], { c with st := 0 })
/-- What is said again. -/
def Cn.again (c : Cn) : Ans :=
  if c.st = 9 then ([], 0, { c with st := 0 })
  else if c.st = 1 ∨ c.st = 2 then (if c.tries = 8 then c.lost else let d := { c with tries := c.tries + 1 }; ([d.hello], 0, d))
  else if 0 < c.sent then (if c.tries = 8 then c.lost else ([c.mk' c.una 24 (c.data.take (min c.sent c.big))], 0, { c with tries := c.tries + 1 }))
  else if c.bye && !c.sure then (if c.tries = 8 then c.lost else ([c.fin], 0, { c with tries := c.tries + 1 }))
  else if 0 < c.win ∨ c.data = [] then c.lost
  else ([c.piece 1], 0, { c with sent := c.sent + 1 })
/-- What a tick may come to. -/
def Cn.ticks (c : Cn) (a : Ans) : Prop := a = ([], 0, c) ∨ (c.st ≠ 0 ∧ a = c.again)
/-- A connection that begins. -/
def Cn.new (src dst : Int) (first : Nat) : Cn := ⟨0, src, dst, first, addN first 1, [], 0, 0, 536, 0, none, false, false, false, false⟩
def portB (n : Int) : Bool := decide (1 ≤ n) && decide (n ≤ 65535)
def dial (src dst : Int) (first : Nat) : List Sg × Cn := ([Cn.hello { Cn.new src dst first with st := 1 }], { Cn.new src dst first with st := 1 })
def oddB (s : Sg) : Bool := !s.syn || s.acks || s.rst || s.fin || decide (0 < s.data.length)
def accept (s : Sg) (first : Nat) : List Sg × Cn := let c := ({ Cn.new s.dst s.src first with st := 2 } : Cn).begin s; ([c.hello], c)
end Go.Conn
end

section
set_option linter.all false
namespace Go.Conn

theorem addN_small {a n : Nat} (h : a + n < 4294967296) : addN a n = a + n := (addN_eq a n).trans (Nat.mod_eq_of_lt h)
theorem addN_lt (a n : Nat) : addN a n < 4294967296 := by rw [addN_eq]; exact Nat.mod_lt _ (by decide)
theorem wayN_le {a b : Nat} (h : a ≤ b) (hb : b < 4294967296) : wayN a b = b - a := by
  rw [wayN_eq]; omega
theorem wayN_gt {a b : Nat} (h : b < a) (ha : a < 4294967296) : wayN a b = 4294967296 - (a - b) := by
  rw [wayN_eq]; omega

/-- No number of a stream is greater. -/
def lim : Nat := 2147483648
theorem addN_lim {a n : Nat} (h : a + n < lim) : addN a n = a + n := (addN_eq a n).trans (Nat.mod_eq_of_lt (Nat.lt_trans h (by decide)))
/-! ### A stream -/
/-- What of the other side's stream w (which begins behind isn) is there: rd was read. -/
structure JHears (isn : Nat) (w : List Int) (j : Jn) (rd : List Int) (N : Nat) : Prop where
  le : N ≤ w.length
  next : j.next = isn + 1 + N
  rdy : rd ++ j.rdy = w.take N
  held : ∀ i x, j.held i = some x → w[N + i]? = some x
/-- A piece of the stream. -/
def Piece (isn : Nat) (w : List Int) (at_ : Nat) (b : List Int) : Prop := b = [] ∨ ∃ p, at_ = isn + 1 + p ∧ p + b.length ≤ w.length ∧ ∀ t, t < b.length → b[t]? = w[p + t]?

theorem JHears.move {isn : Nat} {w rd : List Int} : ∀ (f : Nat) {j : Jn} {N : Nat}, JHears isn w j rd N → isn + w.length + 1 < 4294967296 → ∃ N', N ≤ N' ∧ JHears isn w (j.move f) rd N'
  | 0, j, N, h, _ => ⟨N, Nat.le_refl _, h⟩
  | f + 1, j, N, h, hb => by
    unfold Jn.move
    cases hx : j.held 0 with
    | none => exact ⟨N, Nat.le_refl _, h⟩
    | some x =>
      have hw := h.held 0 x hx
      rw [Nat.add_zero] at hw
      have hlt : N < w.length := (List.getElem?_eq_some_iff.1 hw).1
      have h2 : JHears isn w (j.step x) rd (N + 1) :=
        { le := hlt
          next := by
            show addN j.next 1 = _
            rw [addN_small (by rw [h.next]; omega), h.next]; omega
          rdy := by
            show rd ++ (j.rdy ++ [x]) = _
            rw [← List.append_assoc, h.rdy, List.take_add_one, hw]; rfl
          held := fun i y hy => by
            have := h.held (i + 1) y hy
            rw [← this]; congr 1; omega }
      obtain ⟨N', h3, h4⟩ := JHears.move f h2 hb
      exact ⟨N', by omega, h4⟩
theorem trim_cases (next size at_ n : Nat) : trimN next size at_ n = (0, 0) ∨ (wayN next at_ < size ∧ trimN next size at_ n = (0, min n (size - wayN next at_))) ∨
    (¬ wayN next at_ < size ∧ wayN at_ next < n ∧ size ≠ 0 ∧ trimN next size at_ n = (wayN at_ next, min (n - wayN at_ next) size)) := by
  unfold trimN
  by_cases h1 : 65535 < size ∨ 1073741824 < n
  · rw [if_pos h1]; exact .inl rfl
  · rw [if_neg h1]
    by_cases h2 : wayN next at_ < size
    · rw [if_pos h2]; exact .inr (.inl ⟨h2, rfl⟩)
    · rw [if_neg h2]
      by_cases h3 : n ≤ wayN at_ next ∨ size = 0
      · rw [if_pos h3]; exact .inl rfl
      · rw [if_neg h3]; exact .inr (.inr ⟨h2, by omega, by omega, rfl⟩)
theorem trim_small {next size at_ n isn N p : Nat} (hs : size ≤ 4096) (hn : n ≤ 65536) (h1 : next = isn + 1 + N) (h2 : at_ = isn + 1 + p) (hN : isn + 1 + N < 2147483648) (hp : isn + 1 + p + n < 2147483648) (hm : 0 < (trimN next size at_ n).2) :
    (trimN next size at_ n).1 + (trimN next size at_ n).2 ≤ n ∧ N ≤ p + (trimN next size at_ n).1 ∧ wayN next (addN at_ (trimN next size at_ n).1) = p + (trimN next size at_ n).1 - N := by
  subst h1 h2
  have e1 : N ≤ p → wayN (isn + 1 + N) (isn + 1 + p) = p - N := fun hc => by rw [wayN_le (by omega) (by omega)]; omega
  have e2 : p < N → 65536 ≤ wayN (isn + 1 + N) (isn + 1 + p) := fun hc => by rw [wayN_eq]; omega
  have e3 : p < N → wayN (isn + 1 + p) (isn + 1 + N) = N - p := fun hc => by rw [wayN_le (by omega) (by omega)]; omega
  have e4 : N ≤ p → p ≠ N → 65536 ≤ wayN (isn + 1 + p) (isn + 1 + N) := fun hc he => by rw [wayN_eq]; omega
  have e5 : p = N → wayN (isn + 1 + p) (isn + 1 + N) = 0 := fun he => by rw [wayN_le (by omega) (by omega)]; omega
  have e6 : addN (isn + 1 + p) 0 = isn + 1 + p := by rw [addN_small (by omega)]; omega
  rcases trim_cases (isn + 1 + N) size (isn + 1 + p) n with h | ⟨hi, h⟩ | ⟨hi, ho, hs0, h⟩
  · rw [h] at hm; simp at hm
  · rw [h]
    simp only
    by_cases hc : N ≤ p
    · rw [e1 hc] at hi ⊢
      rw [e6, e1 hc]
      omega
    · have := e2 (by omega)
      omega
  · rw [h]
    simp only
    by_cases hc : N ≤ p
    · by_cases he : p = N
      · rw [e1 hc] at hi; omega
      · have := e4 hc he
        omega
    · rw [e3 (by omega)] at ho ⊢
      have e7 : addN (isn + 1 + p) (N - p) = isn + 1 + N := by rw [addN_small (by omega)]; omega
      have e8 : wayN (isn + 1 + N) (isn + 1 + N) = 0 := by rw [wayN_le (by omega) (by omega)]; omega
      rw [e7, e8]
      omega
theorem JHears.add {isn : Nat} {w rd : List Int} {j : Jn} {N at_ : Nat} {b : List Int} (h : JHears isn w j rd N) (hp : Piece isn w at_ b) (hb : isn + 1 + w.length < 2147483648) : ∃ N', N ≤ N' ∧ JHears isn w (j.add at_ b) rd N' := by
  unfold Jn.add
  by_cases hl : 65536 < b.length
  · rw [if_pos hl]; exact ⟨N, Nat.le_refl _, h⟩
  · rw [if_neg hl]
    refine JHears.move _ ?_ (by omega)
    refine ⟨h.le, h.next, h.rdy, fun i x hx => ?_⟩
    simp only [Jn.hold] at hx
    cases ho : j.held i with
    | some y => rw [ho, Option.some_or] at hx; cases hx; exact h.held i _ ho
    | none =>
      rw [ho, Option.none_or] at hx
      split at hx
      · rename_i hle
        obtain ⟨hlt, _⟩ := List.getElem?_eq_some_iff.1 hx
        rw [List.length_take, List.length_drop] at hlt
        rcases hp with rfl | ⟨p, hat, hpl, hget⟩
        · simp at hlt
        · have hle2 := h.le
          have hw : j.win ≤ 4096 := by unfold Jn.win; omega
          obtain ⟨q1, q2, q3⟩ := trim_small (next := j.next) (size := j.win) (at_ := at_) (n := b.length) hw (by omega) h.next hat (by omega) (by omega) (by omega)
          rw [q3] at hle hx hlt
          rw [List.getElem?_take_of_lt (by omega), List.getElem?_drop, hget _ (by omega)] at hx
          rw [← hx]; congr 1; omega
      · cases hx
theorem JHears.read {isn : Nat} {w rd : List Int} {j : Jn} {N : Nat} (h : JHears isn w j rd N) (n : Nat) : JHears isn w (j.read n).2 (rd ++ (j.read n).1) N :=
  ⟨h.le, h.next, by
    show (rd ++ j.rdy.take n) ++ j.rdy.drop n = _
    rw [List.append_assoc, List.take_append_drop, h.rdy], h.held⟩
theorem JHears.grow {isn : Nat} {w rd : List Int} {j : Jn} {N : Nat} (h : JHears isn w j rd N) (x : List Int) : JHears isn (w ++ x) j rd N :=
  ⟨by rw [List.length_append]; have := h.le; omega, h.next, by rw [h.rdy, List.take_append_of_le_length h.le], fun i y hy => by
    have := h.held i y hy
    rw [List.getElem?_append_left (List.getElem?_eq_some_iff.1 this).1]; exact this⟩
theorem Piece.grow {isn : Nat} {w : List Int} {at_ : Nat} {b : List Int} (h : Piece isn w at_ b) (x : List Int) : Piece isn (w ++ x) at_ b := by
  rcases h with h | ⟨p, h1, h2, h3⟩
  · exact .inl h
  · exact .inr ⟨p, h1, by rw [List.length_append]; omega, fun t ht => by rw [h3 t ht, List.getElem?_append_left (by omega)]⟩
end Go.Conn
end

section
set_option linter.all false
namespace Go.Conn

/-- A segment of a stream that begins behind isn. -/
structure Gen (isn : Nat) (w : List Int) (ended : Bool) (s : Sg) : Prop where
  syn : s.syn = true → s.seq = isn ∧ s.data = [] ∧ s.fin = false
  piece : s.syn = false → Piece isn w s.seq s.data
  fin : s.fin = true → ended = true ∧ s.seq + s.data.length = isn + 1 + w.length
/-- A side's own stream. -/
structure Side (isn : Nat) (w : List Int) (c : Cn) : Prop where
  first : c.first = isn
  una : ∃ U, U ≤ w.length ∧ c.una = isn + 1 + U ∧ c.data = w.drop U
  sent : c.sent ≤ c.data.length
  early : c.st = 1 ∨ c.st = 2 → w = []
  shut : c.shut = true → c.st ≠ 3 ∧ c.st ≠ 6 ∧ c.st ≠ 1 ∧ c.st ≠ 2
  bye : c.bye = true → c.shut = true ∧ c.sent = c.data.length
/-- What a side hears. -/
structure Hears (isn : Nat) (w : List Int) (ended : Bool) (c : Cn) (rd : List Int) : Prop where
  nil : c.inn = none → rd = [] ∧ c.got = false
  one : c.st = 1 → c.inn = none
  jn : ∀ j, c.inn = some j → ∃ N, JHears isn w j rd N ∧ (c.got = true → N = w.length ∧ ended = true)

theorem bits : bitB 16 0 = false ∧ bitB 16 1 = false ∧ bitB 4 0 = false ∧ bitB 4 1 = false ∧ bitB 20 0 = false ∧ bitB 20 1 = false ∧ bitB 24 0 = false ∧ bitB 24 1 = false ∧ bitB 17 1 = false ∧ bitB 18 0 = false ∧ bitB 2 0 = false ∧ bitB 0 0 = false ∧ bitB 0 1 = false := by decide
theorem Gen.plain {isn : Nat} {w : List Int} {e : Bool} {s : Sg} (h1 : s.syn = false) (h2 : s.fin = false) (h3 : s.data = []) : Gen isn w e s :=
  ⟨fun h => by (rw [h1] at h; cases h), fun _ => .inl h3, fun h => by (rw [h2] at h; cases h)⟩
theorem Gen.nod {isn : Nat} {w : List Int} {e : Bool} (c : Cn) : Gen isn w e c.nod := Gen.plain (show bitB 16 1 = false by decide) (show bitB 16 0 = false by decide) rfl
theorem Gen.refuse {isn : Nat} {w : List Int} {e : Bool} (s : Sg) : ∀ o ∈ Cn.refuse s, Gen isn w e o := by
  intro o ho
  unfold Cn.refuse at ho
  cases hr : s.reset with
  | none => rw [hr] at ho; cases ho
  | some r =>
    rw [hr] at ho
    rw [List.mem_singleton.1 ho]
    unfold Sg.reset at hr
    split at hr
    · cases hr
    · split at hr
      · cases hr; exact Gen.plain (show bitB 4 1 = false by decide) (show bitB 4 0 = false by decide) rfl
      · cases hr; exact Gen.plain (show bitB 20 1 = false by decide) (show bitB 20 0 = false by decide) rfl
theorem Gen.hello {isn : Nat} {w : List Int} {e : Bool} {c : Cn} (h : c.first = isn) : Gen isn w e c.hello := by
  have hf : c.hello.fin = false := by
    show bitB (if c.st = 2 then 18 else if c.st = 1 then 2 else 0) 0 = false
    split
    · decide
    · split <;> decide
  exact ⟨fun _ => ⟨h, rfl, hf⟩, fun hs => .inl rfl, fun h2 => by rw [hf] at h2; cases h2⟩
theorem Gen.grow {isn : Nat} {w : List Int} {s : Sg} (h : Gen isn w false s) (x : List Int) (e : Bool) : Gen isn (w ++ x) e s :=
  ⟨h.syn, fun hs => (h.piece hs).grow x, fun hf => by have := (h.fin hf).1; cases this⟩
theorem Gen.ends {isn : Nat} {w : List Int} {e : Bool} {s : Sg} (h : Gen isn w e s) : Gen isn w true s := ⟨h.syn, h.piece, fun hf => ⟨rfl, (h.fin hf).2⟩⟩
theorem Hears.grow {isn : Nat} {w rd : List Int} {c : Cn} (h : Hears isn w false c rd) (x : List Int) : Hears isn (w ++ x) false c rd :=
  ⟨h.nil, h.one, fun j hj => by
    obtain ⟨N, h1, h2⟩ := h.jn j hj
    exact ⟨N, h1.grow x, fun hg => by have := (h2 hg).2; cases this⟩⟩
theorem Hears.ends {isn : Nat} {w rd : List Int} {c : Cn} {e : Bool} (h : Hears isn w e c rd) : Hears isn w true c rd :=
  ⟨h.nil, h.one, fun j hj => by
    obtain ⟨N, h1, h2⟩ := h.jn j hj
    exact ⟨N, h1, fun hg => ⟨(h2 hg).1, rfl⟩⟩⟩

/-! ### What goes out -/
section
variable {isn : Nat} {w : List Int} {c : Cn}
theorem Side.onext (h : Side isn w c) (hb : isn + 1 + w.length < lim) : ∃ U, U ≤ w.length ∧ c.data = w.drop U ∧ c.una = isn + 1 + U ∧ c.onext = isn + 1 + U + c.sent ∧ U + c.data.length = w.length := by
  obtain ⟨U, h1, h2, h3⟩ := h.una
  have hs := h.sent
  have hl : c.data.length = w.length - U := by rw [h3, List.length_drop]
  refine ⟨U, h1, h3, h2, ?_, by omega⟩
  unfold Cn.onext
  rw [h2, addN_lim (by omega)]
theorem Side.piece (h : Side isn w c) (hb : isn + 1 + w.length < lim) (n : Nat) {e : Bool} : Gen isn w e (c.piece n) := by
  obtain ⟨U, h1, h2, h3, h4, h5⟩ := h.onext hb
  have hs := h.sent
  have b1 : (c.piece n).syn = false := show bitB 24 1 = false by decide
  have b0 : (c.piece n).fin = false := show bitB 24 0 = false by decide
  refine ⟨(fun hs => by rw [b1] at hs; cases hs), fun _ => .inr ⟨U + c.sent, by show c.onext = _; rw [h4]; omega, ?_, fun t ht => ?_⟩, (fun hf => by rw [b0] at hf; cases hf)⟩
  · show U + c.sent + ((c.data.drop c.sent).take n).length ≤ _
    rw [List.length_take, List.length_drop]; omega
  · show ((c.data.drop c.sent).take n)[t]? = _
    have ht' : t < ((c.data.drop c.sent).take n).length := ht
    rw [List.length_take, List.length_drop] at ht'
    rw [List.getElem?_take_of_lt (by omega), List.getElem?_drop, h2, List.getElem?_drop]
    congr 1; omega
theorem Side.first_ (h : Side isn w c) (hb : isn + 1 + w.length < lim) (n : Nat) {e : Bool} : Gen isn w e (c.mk' c.una 24 (c.data.take n)) := by
  obtain ⟨U, h1, h2, h3, h4, h5⟩ := h.onext hb
  have b1 : (c.mk' c.una 24 (c.data.take n)).syn = false := show bitB 24 1 = false by decide
  have b0 : (c.mk' c.una 24 (c.data.take n)).fin = false := show bitB 24 0 = false by decide
  refine ⟨(fun hs => by rw [b1] at hs; cases hs), fun _ => .inr ⟨U, h3, ?_, fun t ht => ?_⟩, (fun hf => by rw [b0] at hf; cases hf)⟩
  · show U + (c.data.take n).length ≤ _
    rw [List.length_take]; omega
  · show (c.data.take n)[t]? = _
    have ht' : t < (c.data.take n).length := ht
    rw [List.length_take] at ht'
    rw [List.getElem?_take_of_lt (by omega), h2, List.getElem?_drop]
theorem Side.fin_ (h : Side isn w c) (hb : isn + 1 + w.length < lim) (hs : c.sent = c.data.length) (he : c.shut = true) : Gen isn w c.shut c.fin := by
  obtain ⟨U, h1, h2, h3, h4, h5⟩ := h.onext hb
  have b1 : c.fin.syn = false := show bitB 17 1 = false by decide
  refine ⟨(fun hs => by rw [b1] at hs; cases hs), fun _ => .inl rfl, fun _ => ⟨he, ?_⟩⟩
  show c.onext + 0 = _
  rw [h4, hs]; omega

/-- Nothing of what a side hears, and of its state, is turned; its stream neither. -/
structure Like (c d : Cn) : Prop where
  st : d.st = c.st
  first : d.first = c.first
  una : d.una = c.una
  data : d.data = c.data
  inn : d.inn = c.inn
  shut : d.shut = c.shut
  got : d.got = c.got
theorem Like.refl (c : Cn) : Like c c := ⟨rfl, rfl, rfl, rfl, rfl, rfl, rfl⟩
theorem Like.trans {a b c : Cn} (h : Like a b) (k : Like b c) : Like a c := ⟨k.st.trans h.st, k.first.trans h.first, k.una.trans h.una, k.data.trans h.data, k.inn.trans h.inn, k.shut.trans h.shut, k.got.trans h.got⟩
theorem Cn.may_le (c : Cn) : c.sent ≤ c.data.length → c.sent + c.may ≤ c.data.length := by unfold Cn.may; omega
theorem Side.like {d : Cn} (h : Side isn w c) (l : Like c d) (hs : d.sent ≤ d.data.length) (hb : d.bye = true → d.shut = true ∧ d.sent = d.data.length) : Side isn w d :=
  ⟨by rw [l.first]; exact h.first, by rw [l.una, l.data]; exact h.una, hs, by rw [l.st]; exact h.early, by rw [l.st, l.shut]; exact h.shut, hb⟩
theorem Side.sends {e : Bool} (hb : isn + 1 + w.length < lim) : ∀ (f : Nat) {c : Cn}, Side isn w c → (∀ o ∈ (c.sends f).1, Gen isn w e o) ∧ Side isn w (c.sends f).2 ∧ Like c (c.sends f).2
  | 0, c, h => ⟨(fun o ho => by cases ho), h, Like.refl c⟩
  | f + 1, c, h => by
    unfold Cn.sends
    by_cases h0 : c.may = 0
    · rw [if_pos h0]; exact ⟨(fun o ho => by cases ho), h, Like.refl c⟩
    · rw [if_neg h0]
      have h2 : Side isn w { c with sent := c.sent + c.may } := h.like ⟨rfl, rfl, rfl, rfl, rfl, rfl, rfl⟩ (c.may_le h.sent) (fun x => absurd (by have := (h.bye x).2; unfold Cn.may; omega : c.may = 0) h0)
      obtain ⟨q1, q2, q3⟩ := Side.sends (e := e) hb f h2
      have q4 : Like c { c with sent := c.sent + c.may } := ⟨rfl, rfl, rfl, rfl, rfl, rfl, rfl⟩
      refine ⟨fun o ho => ?_, q2, q4.trans q3⟩
      rcases List.mem_cons.1 ho with rfl | ho
      · exact h.piece hb _
      · exact q1 o ho
theorem Side.flush (h : Side isn w c) (hb : isn + 1 + w.length < lim) : (∀ o ∈ c.flush.1, Gen isn w c.shut o) ∧ Side isn w c.flush.2 ∧ Like c c.flush.2 := by
  unfold Cn.flush
  split
  · obtain ⟨q1, q2, q3⟩ := Side.sends (e := c.shut) hb 4097 h
    have q4 : (∀ o ∈ (c.sends 4097).2.byes.1, Gen isn w c.shut o) ∧ Side isn w (c.sends 4097).2.byes.2 ∧ Like (c.sends 4097).2 (c.sends 4097).2.byes.2 := by
      generalize (c.sends 4097).2 = d at q2 q3 ⊢
      unfold Cn.byes
      by_cases hc : (d.shut && !d.bye && decide (d.sent = d.data.length)) = true
      · rw [if_pos hc]
        simp only [Bool.and_eq_true, decide_eq_true_eq] at hc
        refine ⟨fun o ho => ?_, q2.like ⟨rfl, rfl, rfl, rfl, rfl, rfl, rfl⟩ q2.sent (fun _ => ⟨hc.1.1, hc.2⟩), ⟨rfl, rfl, rfl, rfl, rfl, rfl, rfl⟩⟩
        rw [List.mem_singleton.1 ho, ← q3.shut]
        exact q2.fin_ hb hc.2 hc.1.1
      · rw [if_neg hc]; exact ⟨(fun o ho => by cases ho), q2, Like.refl d⟩
    refine ⟨fun o ho => ?_, q4.2.1, q3.trans q4.2.2⟩
    rcases List.mem_append.1 ho with ho | ho
    · exact q1 o ho
    · exact q4.1 o ho
  · exact ⟨(fun o ho => by cases ho), h, Like.refl c⟩
theorem Side.ackd (h : Side isn w c) (hb : isn + 1 + w.length < lim) {a win n : Nat} {d : Cn} (hd : c.ackd a win = some (n, d)) : Side isn w d ∧ d.st = c.st ∧ d.inn = c.inn ∧ d.shut = c.shut ∧ d.got = c.got ∧ d.first = c.first := by
  unfold Cn.ackd at hd
  simp only at hd
  split at hd
  · cases hd
  · rename_i hn
    simp only [Option.some.injEq, Prod.mk.injEq] at hd
    obtain ⟨rfl, rfl⟩ := hd
    obtain ⟨U, h1, h2, h3⟩ := h.una
    have hs := h.sent
    have hl : c.data.length = w.length - U := by rw [h3, List.length_drop]
    refine ⟨⟨h.first, ⟨U + wayN c.una a, by omega, ?_, ?_⟩, ?_, h.early, h.shut, fun x => ⟨(h.bye x).1, ?_⟩⟩, rfl, rfl, rfl, rfl, rfl⟩
    · show addN c.una (wayN c.una a) = _
      generalize wayN c.una a = n at hn ⊢
      rw [addN_lim (by omega)]; omega
    · show c.data.drop _ = _
      rw [h3, List.drop_drop]
    · show c.sent - _ ≤ (c.data.drop _).length
      rw [List.length_drop]; omega
    · show c.sent - _ = (c.data.drop _).length
      have := (h.bye x).2
      rw [List.length_drop]; omega
theorem Side.welcome (h : Side isn w c) (hb : isn + 1 + w.length < lim) (hst : c.st = 1 ∨ c.st = 2) (s : Sg) : Side isn w (c.welcome s) ∧ (c.welcome s).inn = c.inn ∧ (c.welcome s).shut = c.shut ∧ (c.welcome s).got = c.got ∧ (c.welcome s).st = 3 := by
  have hns : ¬ c.shut = true := fun hs => by
    have h1 := (h.shut hs).2.2.1
    have h2 := (h.shut hs).2.2.2
    rcases hst with e | e
    · exact h1 e
    · exact h2 e
  have h3 : Side isn w { c with st := 3, tries := 0 } := ⟨h.first, h.una, h.sent, (fun hc => by rcases hc with e | e <;> cases e), (fun hs => absurd hs hns), h.bye⟩
  refine pick_ind (p := fun d => Side isn w d ∧ d.inn = c.inn ∧ d.shut = c.shut ∧ d.got = c.got ∧ d.st = 3) (fun n d hd => ?_) ⟨h3, rfl, rfl, rfl, rfl⟩
  obtain ⟨q1, q2, q3, q4, q5, _⟩ := h3.ackd hb hd
  exact ⟨q1, q3, q4, q5, q2⟩
theorem Side.finished (h : Side isn w c) : Side isn w c.finished ∧ c.finished.inn = c.inn ∧ c.finished.shut = c.shut ∧ c.finished.got = c.got ∧ c.finished.st ≠ 1 ∨ c.st = 1 := by
  by_cases h1 : c.st = 1
  · exact .inr h1
  · refine .inl ?_
    unfold Cn.finished
    split
    · exact ⟨h, rfl, rfl, rfl, h1⟩
    · refine ⟨⟨h.first, h.una, h.sent, fun hc => h.early ?_, fun hs => ?_, h.bye⟩, rfl, rfl, rfl, ?_⟩
      · simp only at hc ⊢
        split at hc
        · omega
        · split at hc
          · omega
          · split at hc
            · omega
            · exact hc
      · have := h.shut hs
        simp only
        split
        · omega
        · split
          · omega
          · split
            · omega
            · exact this
      · simp only
        split
        · omega
        · split
          · omega
          · split
            · omega
            · exact h1
end
end Go.Conn
end

section
set_option linter.all false
namespace Go.Conn

section
variable {isn : Nat} {w : List Int} {c : Cn}
/-- Nothing of what is heard is turned. -/
structure Deaf (c d : Cn) : Prop where
  inn : d.inn = c.inn
  got : d.got = c.got
  st : d.st = 1 → c.st = 1
theorem Deaf.refl (c : Cn) : Deaf c c := ⟨rfl, rfl, id⟩
theorem Deaf.trans {a b c : Cn} (h : Deaf a b) (k : Deaf b c) : Deaf a c := ⟨k.inn.trans h.inn, k.got.trans h.got, fun x => h.st (k.st x)⟩
theorem Like.deaf {d : Cn} (h : Like c d) : Deaf c d := ⟨h.inn, h.got, fun x => by rw [← h.st]; exact x⟩
theorem Hears.deaf {e : Bool} {rd : List Int} {d : Cn} (h : Hears isn w e c rd) (k : Deaf c d) : Hears isn w e d rd :=
  ⟨by rw [k.inn, k.got]; exact h.nil, fun x => by rw [k.inn]; exact h.one (k.st x), by rw [k.inn, k.got]; exact h.jn⟩
theorem Side.quiet (h : Side isn w c) (s : Sg) : Side isn w (c.quiet s) ∧ Deaf c (c.quiet s) ∧ (c.quiet s).shut = c.shut ∧ (c.quiet s).st = c.st := by
  unfold Cn.quiet
  split
  · exact ⟨⟨h.first, h.una, h.sent, h.early, h.shut, h.bye⟩, ⟨rfl, rfl, id⟩, rfl, rfl⟩
  · exact ⟨h, Deaf.refl c, rfl, rfl⟩
theorem Side.fin2 (h : Side isn w c) (h1 : c.st ≠ 1) : Side isn w c.finished ∧ Deaf c c.finished ∧ c.finished.shut = c.shut ∧ c.finished.st ≠ 1 ∧ c.finished.st ≠ 2 ∨ c.st = 2 := by
  by_cases h2 : c.st = 2
  · exact .inr h2
  · refine .inl ?_
    unfold Cn.finished
    split
    · exact ⟨h, Deaf.refl c, rfl, h1, h2⟩
    · have e1 : ∀ k, k = (if c.st = 4 then 5 else if c.st = 7 then 9 else if c.st = 8 then 0 else c.st) → k ≠ 1 ∧ k ≠ 2 ∧ (k = 3 → c.st = 3) ∧ (k = 6 → c.st = 6) := by
        intro k hk
        subst hk
        split
        · exact ⟨by decide, by decide, (fun h => by cases h), (fun h => by cases h)⟩
        · split
          · exact ⟨by decide, by decide, (fun h => by cases h), (fun h => by cases h)⟩
          · split
            · exact ⟨by decide, by decide, (fun h => by cases h), (fun h => by cases h)⟩
            · exact ⟨h1, h2, id, id⟩
      obtain ⟨q1, q2, q3, q4⟩ := e1 _ rfl
      refine ⟨⟨h.first, h.una, h.sent, fun hc => ?_, fun hs => ?_, h.bye⟩, ⟨rfl, rfl, fun x => absurd x q1⟩, rfl, q1, q2⟩
      · rcases hc with hc | hc
        · exact absurd hc q1
        · exact absurd hc q2
      · have := h.shut hs
        exact ⟨fun x => this.1 (q3 x), fun x => this.2.1 (q4 x), q1, q2⟩
theorem Side.news (h : Side isn w c) : Side isn w c.news := ⟨h.first, h.una, h.sent, h.early, h.shut, h.bye⟩
theorem Side.acknowledged (h : Side isn w c) (hb : isn + 1 + w.length < lim) (h1 : c.st ≠ 1) (h2 : c.st ≠ 2) (s : Sg) :
    Side isn w (c.acknowledged s).2 ∧ Deaf c (c.acknowledged s).2 ∧ (c.acknowledged s).2.shut = c.shut ∧ (c.acknowledged s).2.st ≠ 1 ∧ (c.acknowledged s).2.st ≠ 2 := by
  unfold Cn.acknowledged
  generalize ho : c.ackd s.ack s.win.toNat = o
  match o, ho with
  | some (n, d), ho =>
    obtain ⟨q1, q2, q3, q4, q5, _⟩ := h.ackd hb ho
    obtain ⟨p1, p2, p3, p4⟩ := q1.quiet s
    exact ⟨p1, Deaf.trans ⟨q3, q5, fun x => by rw [← q2]; exact x⟩ p2, p3.trans q4, (fun x => h1 (by rw [← q2, ← p4]; exact x)), (fun x => h2 (by rw [← q2, ← p4]; exact x))⟩
  | none, _ =>
    simp only [ackG]
    split
    · have hl : Side isn w (lastN (c.ackd c.onext s.win.toNat) c) ∧ Deaf c (lastN (c.ackd c.onext s.win.toNat) c) ∧ (lastN (c.ackd c.onext s.win.toNat) c).shut = c.shut ∧ (lastN (c.ackd c.onext s.win.toNat) c).st = c.st := by
        generalize ho : c.ackd c.onext s.win.toNat = o
        match o, ho with
        | some (n, d), ho =>
          obtain ⟨q1, q2, q3, q4, q5, _⟩ := h.ackd hb ho
          simp only [lastN]
          split
          · exact ⟨q1.news, ⟨q3, q5, fun x => by rw [← q2]; exact x⟩, q4, q2⟩
          · exact ⟨q1, ⟨q3, q5, fun x => by rw [← q2]; exact x⟩, q4, q2⟩
        | none, _ => exact ⟨h, Deaf.refl c, rfl, rfl⟩
      generalize lastN (c.ackd c.onext s.win.toNat) c = d at hl
      obtain ⟨l1, l2, l3, l4⟩ := hl
      rcases l1.fin2 (by rw [l4]; exact h1) with ⟨f1, f2, f3, f4, f5⟩ | f
      · obtain ⟨p1, p2, p3, p4⟩ := f1.quiet s
        exact ⟨p1, (l2.trans f2).trans p2, (p3.trans f3).trans l3, (fun x => f4 (by rw [← p4]; exact x)), (fun x => f5 (by rw [← p4]; exact x))⟩
      · exact absurd (l4 ▸ f) h2
    · exact ⟨h, Deaf.refl c, rfl, h1, h2⟩
theorem Side.takes (h : Side isn w c) (h1 : c.st ≠ 1) (h2 : c.st ≠ 2) (s : Sg) : Side isn w (c.takes s) ∧ (c.takes s).shut = c.shut ∧ (c.takes s).st ≠ 1 ∧ (c.takes s).st ≠ 2 := by
  unfold Cn.takes
  cases c.inn with
  | none => exact ⟨h, rfl, h1, h2⟩
  | some j =>
    simp only [takesJ]
    split
    · unfold Cn.joined
      generalize j.add s.seq s.data = k
      split
      · have e1 : ∀ k, k = (if c.st = 3 then 6 else if c.st = 4 then 7 else 9) → k ≠ 1 ∧ k ≠ 2 ∧ k ≠ 3 ∧ (k = 6 → c.st = 3) := by
          intro k hk
          subst hk
          split
          · rename_i h3; exact ⟨by decide, by decide, by decide, fun _ => h3⟩
          · split
            · exact ⟨by decide, by decide, by decide, (fun h => by cases h)⟩
            · exact ⟨by decide, by decide, by decide, (fun h => by cases h)⟩
        obtain ⟨q1, q2, q3, q4⟩ := e1 _ rfl
        refine ⟨⟨h.first, h.una, h.sent, fun hc => ?_, fun hs => ?_, h.bye⟩, rfl, q1, q2⟩
        · rcases hc with hc | hc
          · exact absurd hc q1
          · exact absurd hc q2
        · exact ⟨q3, fun x => (h.shut hs).1 (q4 x), q1, q2⟩
      · exact ⟨⟨h.first, h.una, h.sent, h.early, h.shut, h.bye⟩, rfl, h1, h2⟩
    · exact ⟨h, rfl, h1, h2⟩
/-- What a call leaves: genuine segments, and a side's own stream as it was. -/
structure Good (isn : Nat) (w : List Int) (c : Cn) (outs : List Sg) (d : Cn) : Prop where
  outs : ∀ o ∈ outs, Gen isn w c.shut o
  side : Side isn w d
  shut : d.shut = c.shut
theorem Good.none_ (h : Side isn w c) : Good isn w c [] c := ⟨fun o ho => (by cases ho), h, rfl⟩
theorem Side.dead (h : Side isn w c) : Side isn w { c with st := 0 } :=
  ⟨h.first, h.una, h.sent, (fun x => by rcases x with x | x <;> cases x), (fun _ => ⟨(fun x => by cases x), (fun x => by cases x), (fun x => by cases x), (fun x => by cases x)⟩), h.bye⟩
theorem Good.lost (h : Side isn w c) : Good isn w c c.lost.1 c.lost.2.2 := ⟨fun o ho => (by cases ho), h.dead, rfl⟩
theorem Good.flushed {c0 : Cn} (h : Side isn w c) (hb : isn + 1 + w.length < lim) (hs : c.shut = c0.shut) (b : Bool) : Good isn w c0 (if b = true then [c.flush.2.nod] else c.flush.1) c.flush.2 := by
  obtain ⟨q1, q2, q3⟩ := h.flush hb
  refine ⟨fun o ho => ?_, q2, q3.shut.trans hs⟩
  split at ho
  · rw [List.mem_singleton.1 ho]; exact Gen.nod _
  · rw [← hs]; exact q1 o ho
theorem Good.rest {c0 : Cn} (h : Side isn w c) (hb : isn + 1 + w.length < lim) (hs : c.shut = c0.shut) (h1 : c.st ≠ 1) (h2 : c.st ≠ 2) (s : Sg) : Good isn w c0 (c.rest s).1 (c.rest s).2.2 := by
  unfold Cn.rest
  split
  · exact ⟨fun o ho => (by cases ho), h, hs⟩
  · obtain ⟨q1, q2, q3, q4⟩ := h.takes h1 h2 s
    have := Good.flushed (c0 := c0) q1 hb (q2.trans hs) (decide ((c.takes s).flush.1 = [] ∧ s.span ≠ 0))
    simp only [decide_eq_true_eq] at this
    exact this
theorem Good.answer (h : Side isn w c) (hb : isn + 1 + w.length < lim) (h1 : c.st = 1) (s : Sg) : Good isn w c (c.answer s).1 (c.answer s).2.2 := by
  have hw : w = [] := h.early (.inl h1)
  have hns : ¬ c.shut = true := fun hs => (h.shut hs).2.2.1 h1
  have hbg : ∀ k, k = 1 ∨ k = 2 → Side isn w { c.begin s with st := k } := fun k hk => by
    refine ⟨h.first, ⟨0, Nat.zero_le _, ?_, by rw [hw]; rfl⟩, Nat.le_refl _, fun _ => hw, fun hs => absurd hs hns, fun x => absurd (h.bye x).1 hns⟩
    show addN c.first 1 = _
    rw [h.first, addN_lim (by omega)]
  unfold Cn.answer
  split
  · exact ⟨Gen.refuse s, h, rfl⟩
  · split
    · split
      · exact Good.lost h
      · exact Good.none_ h
    · split
      · exact Good.none_ h
      · split
        · refine ⟨fun o ho => ?_, hbg 2 (.inr rfl), rfl⟩
          rw [List.mem_singleton.1 ho]
          exact Gen.hello (hbg 2 (.inr rfl)).first
        · have hb1 : Side isn w (c.begin s) := by
            have := hbg 1 (.inl rfl)
            exact ⟨this.first, this.una, this.sent, fun _ => hw, fun hs => absurd hs hns, this.bye⟩
          obtain ⟨q1, q2, q3, q4, q5⟩ := hb1.welcome hb (.inl h1) s
          have := Good.flushed (c0 := c) q1 hb q3 (decide (((c.begin s).welcome s).flush.1 = []))
          simp only [decide_eq_true_eq] at this
          exact this
theorem Good.take (h : Side isn w c) (hb : isn + 1 + w.length < lim) (h1 : c.st ≠ 1) (s : Sg) : Good isn w c (c.take s).1 (c.take s).2.2 := by
  have hn : ∀ {d : Cn}, Side isn w d → d.shut = c.shut → Good isn w c [d.nod] d := fun hd hs => ⟨fun o ho => (by rw [List.mem_singleton.1 ho]; exact Gen.nod _), hd, hs⟩
  unfold Cn.take
  simp only
  split
  · exact Good.none_ h
  · split
    · exact hn h rfl
    · split
      · exact Good.lost h
      · split
        · exact Good.none_ h
        · split
          · rename_i h2
            obtain ⟨q1, q2, q3, q4, q5⟩ := h.acknowledged hb h1 h2 s
            split
            · exact Good.rest q1 hb q3 q4 q5 s
            · exact hn q1 q3
          · rename_i h2
            have h2 : c.st = 2 := Classical.byContradiction h2
            split
            · exact ⟨Gen.refuse s, h, rfl⟩
            · obtain ⟨q1, q2, q3, q4, q5⟩ := h.welcome hb (.inr h2) s
              exact Good.rest q1 hb q3 (by rw [q5]; decide) (by rw [q5]; decide) s
theorem Good.Take (h : Side isn w c) (hb : isn + 1 + w.length < lim) (s : Sg) : Good isn w c (c.Take s).1 (c.Take s).2.2 := by
  unfold Cn.Take
  split
  · exact Good.none_ h
  · split
    · exact Good.none_ h
    · split
      · rename_i h1; exact Good.answer h hb h1 s
      · rename_i h1; exact Good.take h hb h1 s
end
end Go.Conn
end

section
set_option linter.all false
namespace Go.Conn

section
variable {isn : Nat} {w rd : List Int} {c : Cn} {e : Bool} {s : Sg}
theorem sends_deaf : ∀ (f : Nat) (c : Cn), Deaf c (c.sends f).2
  | 0, c => Deaf.refl c
  | f + 1, c => by
    unfold Cn.sends
    split
    · exact Deaf.refl c
    · exact Deaf.trans (b := { c with sent := c.sent + c.may }) ⟨rfl, rfl, id⟩ (sends_deaf f _)
theorem byes_deaf (d : Cn) : Deaf d d.byes.2 := by
  unfold Cn.byes
  split
  · exact ⟨rfl, rfl, id⟩
  · exact Deaf.refl d
theorem flush_deaf (c : Cn) : Deaf c c.flush.2 := by
  unfold Cn.flush
  split
  · exact (sends_deaf 4097 c).trans (byes_deaf _)
  · exact Deaf.refl c
theorem ackd_deaf {c d : Cn} {a win n : Nat} (h : c.ackd a win = some (n, d)) : Deaf c d ∧ d.st = c.st := by
  unfold Cn.ackd at h
  simp only at h
  split at h
  · cases h
  · simp only [Option.some.injEq, Prod.mk.injEq] at h
    obtain ⟨_, rfl⟩ := h
    exact ⟨⟨rfl, rfl, id⟩, rfl⟩
theorem welcome_deaf (c : Cn) (s : Sg) : Deaf c (c.welcome s) ∧ (c.welcome s).st = 3 := by
  refine pick_ind (p := fun d => Deaf c d ∧ d.st = 3) (fun n d hd => ?_) ⟨⟨rfl, rfl, (fun x => by cases x)⟩, rfl⟩
  obtain ⟨q1, q2⟩ := ackd_deaf hd
  exact ⟨Deaf.trans (b := { c with st := 3, tries := 0 }) ⟨rfl, rfl, (fun x => by cases x)⟩ q1, q2⟩
theorem finished_deaf (c : Cn) : Deaf c c.finished := by
  unfold Cn.finished
  split
  · exact Deaf.refl c
  · refine ⟨rfl, rfl, fun x => ?_⟩
    have x : (if c.st = 4 then 5 else if c.st = 7 then 9 else if c.st = 8 then 0 else c.st) = 1 := x
    split at x
    · cases x
    · split at x
      · cases x
      · split at x
        · cases x
        · exact x
theorem quiet_deaf (c : Cn) (s : Sg) : Deaf c (c.quiet s) := by
  unfold Cn.quiet
  split
  · exact ⟨rfl, rfl, id⟩
  · exact Deaf.refl c
theorem lastN_deaf (c : Cn) (a win : Nat) : Deaf c (lastN (c.ackd a win) c) := by
  generalize ho : c.ackd a win = o
  match o, ho with
  | some (n, d), ho =>
    simp only [lastN]
    split
    · exact (ackd_deaf ho).1.trans ⟨rfl, rfl, id⟩
    · exact (ackd_deaf ho).1
  | none, _ => exact Deaf.refl c
theorem acknowledged_deaf (c : Cn) (s : Sg) : Deaf c (c.acknowledged s).2 := by
  unfold Cn.acknowledged
  generalize ho : c.ackd s.ack s.win.toNat = o
  match o, ho with
  | some (n, d), ho => exact (ackd_deaf ho).1.trans (quiet_deaf d s)
  | none, _ =>
    simp only [ackG]
    split
    · exact ((lastN_deaf c c.onext s.win.toNat).trans (finished_deaf _)).trans (quiet_deaf _ s)
    · exact Deaf.refl c
theorem Hears.takes (h : Hears isn w e c rd) (hb : isn + 1 + w.length < lim) (hg : Gen isn w e s) (hs : s.syn = false) : Hears isn w e (c.takes s) rd := by
  unfold Cn.takes
  generalize hi : c.inn = i
  match i, hi with
  | none, _ => exact h
  | some j, hi =>
    simp only [takesJ]
    split
    · rename_i hst
      obtain ⟨N, h1, h2⟩ := h.jn j hi
      obtain ⟨N', h3, h4⟩ := h1.add (hg.piece hs) hb
      unfold Cn.joined
      generalize j.add s.seq s.data = k at h4
      have hle := h4.le
      split
      · rename_i hf
        simp only [Bool.and_eq_true, decide_eq_true_eq] at hf
        obtain ⟨f1, f2⟩ := hg.fin hf.1
        refine ⟨(fun x => by cases x), fun x => ?_, fun j' hj' => ?_⟩
        · have x : (if c.st = 3 then 6 else if c.st = 4 then 7 else 9) = 1 := x
          split at x
          · cases x
          · split at x <;> cases x
        · cases hj'
          refine ⟨N', h4, fun _ => ⟨?_, f1⟩⟩
          have := hf.2
          rw [addN_lim (by omega), h4.next] at this
          omega
      · refine ⟨(fun x => by cases x), fun x => ?_, fun j' hj' => ?_⟩
        · have x : c.st = 1 := x
          rw [h.one x] at hi; cases hi
        · cases hj'
          refine ⟨N', h4, fun hgt => ⟨?_, (h2 hgt).2⟩⟩
          have := (h2 hgt).1
          omega
    · exact h
theorem Hears.rest (h : Hears isn w e c rd) (hb : isn + 1 + w.length < lim) (hg : Gen isn w e s) (hs : s.syn = false) : Hears isn w e (c.rest s).2.2 rd := by
  unfold Cn.rest
  split
  · exact h
  · exact (h.takes hb hg hs).deaf (flush_deaf _)
theorem Hears.dead (h : Hears isn w e c rd) : Hears isn w e { c with st := 0 } rd := h.deaf ⟨rfl, rfl, (fun x => by cases x)⟩
theorem Hears.answer (h : Hears isn w e c rd) (hb : isn + 1 + w.length < lim) (h1 : c.st = 1) (hg : Gen isn w e s) : Hears isn w e (c.answer s).2.2 rd := by
  have hn := h.one h1
  obtain ⟨r0, g0⟩ := h.nil hn
  have hbg : s.syn = true → ∀ k, k ≠ 1 → Hears isn w e { c.begin s with st := k } rd := fun hs k hk => by
    obtain ⟨q1, q2, q3⟩ := hg.syn hs
    refine ⟨(fun x => by cases x), fun x => absurd x hk, fun j hj => ?_⟩
    cases hj
    refine ⟨0, ⟨Nat.zero_le _, ?_, ?_, (fun i x hx => by cases hx)⟩, fun hgt => ?_⟩
    · show addN s.seq 1 = _
      rw [q1, addN_lim (by omega)]
    · rw [r0]; rfl
    · have hgt : c.got = true := hgt
      rw [g0] at hgt; cases hgt
  unfold Cn.answer
  split
  · exact h
  · split
    · split
      · exact h.dead
      · exact h
    · split
      · exact h
      · rename_i hsy
        have hsy : s.syn = true := by simpa using hsy
        split
        · exact hbg hsy 2 (by decide)
        · obtain ⟨q1, q2⟩ := welcome_deaf (c.begin s) s
          have h3 := hbg hsy 3 (by decide)
          refine Hears.deaf (c := (c.begin s).welcome s) ?_ (flush_deaf _)
          exact h3.deaf ⟨q1.inn, q1.got, (fun x => by rw [q2] at x; cases x)⟩
/-- A segment that comes in: a genuine one, or one that is not accepted. -/
def Comes (isn : Nat) (w : List Int) (e : Bool) (c : Cn) (s : Sg) : Prop := Gen isn w e s ∨ (c.st ≠ 1 ∧ acceptsN c.wants c.jwin s.seq s.span = false)
theorem Hears.take (h : Hears isn w e c rd) (hb : isn + 1 + w.length < lim) (hg : Comes isn w e c s) : Hears isn w e (c.take s).2.2 rd := by
  unfold Cn.take
  simp only
  split
  · exact h
  · split
    · exact h
    · rename_i hok
      simp only [Bool.or_eq_true, Bool.not_eq_true', Bool.and_eq_true, decide_eq_true_eq, not_or] at hok
      have hgen : Gen isn w e s := by
        rcases hg with hg | ⟨_, hg⟩
        · exact hg
        · exact absurd hg (by simpa using hok.1.1)
      split
      · exact h.dead
      · rename_i hr
        have hsy : s.syn = false := by
          have h1 := hok.1.2
          cases hsyn : s.syn with
          | false => rfl
          | true => exact absurd ⟨hsyn, by simpa using hr⟩ h1
        split
        · exact h
        · split
          · split
            · exact (h.deaf (acknowledged_deaf c s)).rest hb hgen hsy
            · exact h.deaf (acknowledged_deaf c s)
          · split
            · exact h
            · exact (h.deaf (welcome_deaf c s).1).rest hb hgen hsy
theorem Hears.Take (h : Hears isn w e c rd) (hb : isn + 1 + w.length < lim) (hg : Comes isn w e c s) : Hears isn w e (c.Take s).2.2 rd := by
  unfold Cn.Take
  split
  · exact h
  · split
    · exact h
    · split
      · rename_i h1
        rcases hg with hg | ⟨hg, _⟩
        · exact h.answer hb h1 hg
        · exact absurd h1 hg
      · exact h.take hb hg
end
end Go.Conn
end

section
set_option linter.all false
namespace Go.Conn

section
variable {isn : Nat} {w rd : List Int} {c : Cn} {e : Bool} {s : Sg}
/-- What a step of a side comes to: x is written, outs go out. -/
structure Did (isn : Nat) (w x : List Int) (c : Cn) (outs : List Sg) (d : Cn) : Prop where
  side : Side isn (w ++ x) d
  outs : ∀ o ∈ outs, Gen isn (w ++ x) d.shut o
  more : x ≠ [] → c.shut = false ∧ d.shut = false
  ends : c.shut = true → d.shut = true
theorem Good.did {outs : List Sg} {d : Cn} (h : Good isn w c outs d) : Did isn w [] c outs d :=
  ⟨by rw [List.append_nil]; exact h.side, fun o ho => by rw [List.append_nil, h.shut]; exact h.outs o ho, fun x => absurd rfl x, fun x => by rw [h.shut]; exact x⟩
theorem Did.write (h : Side isn w c) {b : List Int} (hb : isn + 1 + w.length + b.length < lim) :
    Did isn w (b.take (c.write b).1) c (c.write b).2.1 (c.write b).2.2.2 ∧ Deaf c (c.write b).2.2.2 := by
  unfold Cn.write
  split
  · exact ⟨by rw [List.take_zero]; exact (Good.none_ h).did, Deaf.refl c⟩
  · rename_i hst
    have hst : c.st = 3 ∨ c.st = 6 := by omega
    simp only
    have hns : c.shut = false := by
      cases hs : c.shut with
      | false => rfl
      | true =>
        have h1 := h.shut hs
        rcases hst with e | e
        · exact absurd e h1.1
        · exact absurd e h1.2.1
    generalize hn : min b.length (4096 - c.data.length) = n
    have hnl : (b.take n).length ≤ b.length := by rw [List.length_take]; omega
    have hs1 : Side isn (w ++ b.take n) { c with data := c.data ++ b.take n } := by
      obtain ⟨U, h1, h2, h3⟩ := h.una
      refine ⟨h.first, ⟨U, by rw [List.length_append]; omega, h2, ?_⟩, ?_, fun x => ?_, fun x => ?_, fun x => ?_⟩
      · show c.data ++ b.take n = _
        rw [h3, List.drop_append_of_le_length h1]
      · show c.sent ≤ (c.data ++ b.take n).length
        rw [List.length_append]; have := h.sent; omega
      · have x : c.st = 1 ∨ c.st = 2 := x
        omega
      · have x : c.shut = true := x
        rw [hns] at x; cases x
      · have x := (h.bye x).1
        rw [hns] at x; cases x
    obtain ⟨q1, q2, q3⟩ := hs1.flush (by rw [List.length_append]; omega)
    refine ⟨⟨q2, fun o ho => ?_, fun _ => ⟨hns, q3.shut.trans hns⟩, fun x => by rw [hns] at x; cases x⟩, Deaf.trans (b := { c with data := c.data ++ b.take n }) ⟨rfl, rfl, id⟩ (flush_deaf _)⟩
    rw [q3.shut]
    exact q1 o ho
theorem Did.end_ (h : Side isn w c) (hb : isn + 1 + w.length < lim) : Did isn w [] c c.end_.1 c.end_.2.2 ∧ Deaf c c.end_.2.2 := by
  unfold Cn.end_
  split
  · rename_i hst
    have key : ∀ k, (k = if c.st = 3 then 4 else 8) → k ≠ 1 ∧ k ≠ 2 ∧ k ≠ 3 ∧ k ≠ 6 := by
      intro k hk
      subst hk
      split <;> exact ⟨by decide, by decide, by decide, by decide⟩
    obtain ⟨k1, k2, k3, k4⟩ := key _ rfl
    have hs1 : Side isn w { c with st := if c.st = 3 then 4 else 8, shut := true } :=
      ⟨h.first, h.una, h.sent, (fun x => by
        rcases x with x | x
        · exact absurd x k1
        · exact absurd x k2), fun _ => ⟨k3, k4, k1, k2⟩, fun x => ⟨rfl, (h.bye x).2⟩⟩
    obtain ⟨q1, q2, q3⟩ := hs1.flush hb
    refine ⟨⟨by rw [List.append_nil]; exact q2, fun o ho => by rw [List.append_nil, q3.shut]; exact q1 o ho, fun x => absurd rfl x, fun _ => q3.shut⟩, Deaf.trans (b := { c with st := if c.st = 3 then 4 else 8, shut := true }) ⟨rfl, rfl, fun x => absurd x k1⟩ (flush_deaf _)⟩
  · exact ⟨(Good.none_ h).did, Deaf.refl c⟩
theorem Did.read (h : Side isn w c) (n : Nat) : Did isn w [] c (c.read n).2.1 (c.read n).2.2 := by
  unfold Cn.read
  cases c.inn with
  | none => exact (Good.none_ h).did
  | some j =>
    simp only [readJ]
    have hs : Side isn w { c with inn := some (j.read n).2 } := ⟨h.first, h.una, h.sent, h.early, h.shut, h.bye⟩
    refine Good.did ⟨fun o ho => ?_, hs, rfl⟩
    split at ho
    · rw [List.mem_singleton.1 ho]; exact Gen.nod _
    · cases ho
theorem Hears.read (h : Hears isn w e c rd) (n : Nat) : Hears isn w e (c.read n).2.2 (rd ++ (c.read n).1) := by
  unfold Cn.read
  generalize hi : c.inn = i
  match i, hi with
  | none, hi =>
    simp only [readJ, List.append_nil]; exact h
  | some j, hi =>
    simp only [readJ]
    obtain ⟨N, h1, h2⟩ := h.jn j hi
    refine ⟨(fun x => by cases x), fun x => ?_, fun j' hj' => ?_⟩
    · have x : c.st = 1 := x
      rw [h.one x] at hi; cases hi
    · cases hj'
      exact ⟨N, h1.read n, h2⟩
theorem Good.again (h : Side isn w c) (hb : isn + 1 + w.length < lim) (h0 : c.st ≠ 0) : Good isn w c c.again.1 c.again.2.2 ∧ Deaf c c.again.2.2 := by
  have hl : Good isn w c c.lost.1 c.lost.2.2 ∧ Deaf c c.lost.2.2 := ⟨Good.lost h, ⟨rfl, rfl, (fun x => by cases x)⟩⟩
  have ht : ∀ n, Side isn w { c with tries := n } := fun n => ⟨h.first, h.una, h.sent, h.early, h.shut, h.bye⟩
  unfold Cn.again
  split
  · exact ⟨⟨(fun o ho => by cases ho), h.dead, rfl⟩, ⟨rfl, rfl, (fun x => by cases x)⟩⟩
  · split
    · split
      · exact hl
      · refine ⟨⟨fun o ho => ?_, ht _, rfl⟩, ⟨rfl, rfl, id⟩⟩
        rw [List.mem_singleton.1 ho]
        exact Gen.hello h.first
    · split
      · split
        · exact hl
        · refine ⟨⟨fun o ho => ?_, ht _, rfl⟩, ⟨rfl, rfl, id⟩⟩
          rw [List.mem_singleton.1 ho]
          exact h.first_ hb _
      · split
        · rename_i hnb hby
          simp only [Bool.and_eq_true, Bool.not_eq_true'] at hby
          split
          · exact hl
          · refine ⟨⟨fun o ho => ?_, ht _, rfl⟩, ⟨rfl, rfl, id⟩⟩
            rw [List.mem_singleton.1 ho]
            obtain ⟨b1, b2⟩ := h.bye hby.1
            exact h.fin_ hb b2 b1
        · split
          · exact hl
          · rename_i hp
            have hd : 0 < c.data.length := List.length_pos_iff.2 fun x => hp (.inr x)
            rename_i hns0 _
            refine ⟨⟨fun o ho => ?_, ⟨h.first, h.una, ?_, h.early, h.shut, fun x => ?_⟩, rfl⟩, ⟨rfl, rfl, id⟩⟩
            · rw [List.mem_singleton.1 ho]
              exact h.piece hb _
            · show c.sent + 1 ≤ c.data.length
              omega
            · have := (h.bye x).2
              omega
end
end Go.Conn
end

section
set_option linter.all false
namespace Go.Conn

section
variable {isn : Nat} {w rd : List Int} {c : Cn} {e : Bool} {s : Sg}
theorem Did.ticks {a : Ans} (h : Side isn w c) (hb : isn + 1 + w.length < lim) (ht : c.ticks a) : Did isn w [] c a.1 a.2.2 ∧ Deaf c a.2.2 := by
  rcases ht with rfl | ⟨h0, rfl⟩
  · exact ⟨(Good.none_ h).did, Deaf.refl c⟩
  · obtain ⟨q1, q2⟩ := Good.again h hb h0
    exact ⟨q1.did, q2⟩
theorem wants_le (h : Hears isn w e c rd) (hb : isn + 2 + w.length < lim) : c.wants ≤ isn + 2 + w.length := by
  unfold Cn.wants
  generalize hi : c.inn = i
  match i, hi with
  | none, hi =>
    have := (h.nil hi).2
    rw [this]; simp
  | some j, hi =>
    obtain ⟨N, h1, h2⟩ := h.jn j hi
    have := h1.le
    have := h1.next
    simp only
    split
    · rw [addN_lim (by omega)]; omega
    · omega
theorem jwin_le (c : Cn) : c.jwin ≤ 4096 := by
  unfold Cn.jwin
  cases c.inn with
  | none => exact Nat.zero_le _
  | some j => show 4096 - _ ≤ 4096; omega
theorem far {next size r n : Nat} (h1 : next ≤ 2000000) (h2 : size ≤ 4096) (h3 : r < 1000) (h4 : n ≤ 200) : acceptsN next size (2147483648 + r) n = false := by
  have k1 : ∀ m, m ≤ 200 → withinN (addN (2147483648 + r) m) next size = false := fun m hm => by
    unfold withinN
    rw [addN_small (by omega), wayN_le (by omega) (by omega)]
    have : ¬ (2147483648 + r + m - next < size) := by omega
    rw [decide_eq_false this, Bool.and_false]
  have k0 : withinN (2147483648 + r) next size = false := by
    have := k1 0 (by omega)
    rwa [addN_small (by omega)] at this
  unfold acceptsN
  split
  · rfl
  · split
    · exact decide_eq_false (by omega)
    · split
      · exact k0
      · rw [k0, k1 _ (by omega)]; rfl
end

/-! ### Two that talk -/
structure W2 where
  c0 : Cn
  c1 : Cn
  w0 : List Int
  w1 : List Int
  r0 : List Int
  r1 : List Int
  y0 : List Sg
  y1 : List Sg
def W2.turn (W : W2) : W2 := ⟨W.c1, W.c0, W.w1, W.w0, W.r1, W.r0, W.y1, W.y0⟩
structure W2.Inv (a b : Nat) (W : W2) : Prop where
  s0 : Side a W.w0 W.c0
  s1 : Side b W.w1 W.c1
  h0 : Hears b W.w1 W.c1.shut W.c0 W.r0
  h1 : Hears a W.w0 W.c0.shut W.c1 W.r1
  g0 : ∀ s ∈ W.y0, Gen b W.w1 W.c1.shut s
  g1 : ∀ s ∈ W.y1, Gen a W.w0 W.c0.shut s
theorem W2.Inv.turn {a b : Nat} {W : W2} (h : W.Inv a b) : W.turn.Inv b a := ⟨h.s1, h.s0, h.h1, h.h0, h.g1, h.g0⟩
/-- A step of the first one. -/
theorem W2.Inv.step {a b : Nat} {W : W2} (h : W.Inv a b) {x rd : List Int} {outs ys : List Sg} {d : Cn} (hd : Did a W.w0 x W.c0 outs d) (hh : Hears b W.w1 W.c1.shut d rd) (hy : ∀ s ∈ ys, s ∈ W.y0) :
    W2.Inv a b ⟨d, W.c1, W.w0 ++ x, W.w1, rd, W.r1, ys, W.y1 ++ outs⟩ := by
  have key : Hears a (W.w0 ++ x) d.shut W.c1 W.r1 ∧ ∀ s, Gen a W.w0 W.c0.shut s → Gen a (W.w0 ++ x) d.shut s := by
    by_cases hx : x = []
    · subst hx
      rw [List.append_nil]
      cases hs : W.c0.shut with
      | true =>
        have h1 := h.h1
        rw [hs] at h1
        rw [hd.ends hs]
        exact ⟨h1, fun s hs => hs⟩
      | false =>
        have h1 := h.h1
        rw [hs] at h1
        cases d.shut with
        | true => exact ⟨h1.ends, fun s hs => hs.ends⟩
        | false => exact ⟨h1, fun s hs => hs⟩
    · obtain ⟨q1, q2⟩ := hd.more hx
      have h1 := h.h1
      rw [q1] at h1 ⊢
      rw [q2]
      exact ⟨h1.grow x, fun s hs => hs.grow x false⟩
  refine ⟨hd.side, h.s1, hh, key.1, fun s hs => h.g0 s (hy s hs), fun s hs => ?_⟩
  rcases List.mem_append.1 hs with hs | hs
  · exact key.2 s (h.g1 s hs)
  · exact hd.outs s hs
/-- What each read is a beginning of what the other one wrote, and all of it when it is ended. -/
theorem fits {isn : Nat} {w rd : List Int} {c : Cn} {e : Bool} (h : Hears isn w e c rd) : rd.length ≤ w.length ∧ rd = w.take rd.length ∧ (c.got = true → (∀ j, c.inn = some j → j.rdy = []) → rd.length = w.length) := by
  cases hi : c.inn with
  | none =>
    obtain ⟨rfl, h2⟩ := h.nil hi
    exact ⟨Nat.zero_le _, rfl, fun hg => by rw [h2] at hg; cases hg⟩
  | some j =>
    obtain ⟨N, h1, h2⟩ := h.jn j hi
    have hr := h1.rdy
    have hle := h1.le
    have hl : rd.length + j.rdy.length = N := by
      have := congrArg List.length hr
      rw [List.length_append, List.length_take] at this
      omega
    refine ⟨by omega, ?_, fun hg hj => ?_⟩
    · have := congrArg (List.take rd.length) hr
      rw [List.take_append_of_le_length (Nat.le_refl _), List.take_length, List.take_take, Nat.min_eq_left (by omega)] at this
      exact this
    · rw [hj j rfl, List.length_nil] at hl
      have := (h2 hg).1
      omega
theorem dial_ok {isn : Nat} (src dst : Int) (hb : isn + 1 < lim) : Side isn [] (dial src dst isn).2 ∧ (∀ o ∈ (dial src dst isn).1, Gen isn [] false o) ∧ ∀ b w e, Hears b w e (dial src dst isn).2 [] := by
  refine ⟨⟨rfl, ⟨0, Nat.le_refl _, addN_lim hb, rfl⟩, Nat.le_refl _, fun _ => rfl, (fun x => by cases x), (fun x => by cases x)⟩, fun o ho => ?_, fun b w e => ⟨fun _ => ⟨rfl, rfl⟩, fun _ => rfl, (fun j hj => by cases hj)⟩⟩
  have ho : o ∈ [Cn.hello { Cn.new src dst isn with st := 1 }] := ho
  rw [List.mem_singleton.1 ho]
  exact Gen.hello rfl
theorem accept_ok {isn b : Nat} {s : Sg} {w : List Int} {e : Bool} (hb : isn + 1 < lim) (hs : s.seq = b) (hb2 : b + 1 < lim) : Side isn [] (accept s isn).2 ∧ (∀ o ∈ (accept s isn).1, Gen isn [] false o) ∧ Hears b w e (accept s isn).2 [] := by
  refine ⟨⟨rfl, ⟨0, Nat.le_refl _, addN_lim hb, rfl⟩, Nat.le_refl _, fun _ => rfl, (fun x => by cases x), (fun x => by cases x)⟩, fun o ho => ?_, ⟨(fun x => by cases x), (fun x => by cases x), fun j hj => ?_⟩⟩
  · have ho : o ∈ [Cn.hello (({ Cn.new s.dst s.src isn with st := 2 } : Cn).begin s)] := ho
    rw [List.mem_singleton.1 ho]
    exact Gen.hello rfl
  · cases hj
    refine ⟨0, ⟨Nat.zero_le _, ?_, rfl, (fun i x hx => by cases hx)⟩, (fun x => by cases x)⟩
    show addN s.seq 1 = _
    rw [hs, addN_lim hb2]
end Go.Conn
end

section
set_option linter.all false
namespace Go.Conn
theorem sends_len : ∀ (f : Nat) (c : Cn), (Cn.sends f c).1.length ≤ f
  | 0, c => Nat.le_refl _
  | f + 1, c => by
    show (if c.may = 0 then ([], c) else (c.piece c.may :: (Cn.sends f { c with sent := c.sent + c.may }).1, (Cn.sends f { c with sent := c.sent + c.may }).2)).1.length ≤ f + 1
    split
    · exact Nat.zero_le _
    · have := sends_len f { c with sent := c.sent + c.may }
      rw [List.length_cons]; omega
theorem byes_len (c : Cn) : c.byes.1.length ≤ 1 := by
  unfold Cn.byes
  split
  · exact Nat.le_refl _
  · exact Nat.zero_le _
theorem flush_len (c : Cn) : c.flush.1.length ≤ 4098 := by
  unfold Cn.flush
  split
  · rw [List.length_append]
    have := sends_len 4097 c
    have := byes_len (c.sends 4097).2
    omega
  · exact Nat.zero_le _
theorem refuse_len (s : Sg) : (Cn.refuse s).length ≤ 1 := by
  unfold Cn.refuse
  split
  · exact Nat.le_refl _
  · exact Nat.zero_le _
theorem rest_len (c : Cn) (s : Sg) : (c.rest s).1.length ≤ 4098 := by
  unfold Cn.rest
  split
  · exact Nat.zero_le _
  · show (if _ then _ else _ : List Sg).length ≤ 4098
    split
    · show 1 ≤ 4098
      omega
    · exact flush_len _
theorem answer_len (c : Cn) (s : Sg) : (c.answer s).1.length ≤ 4098 := by
  unfold Cn.answer
  split
  · have := refuse_len s
    show (Cn.refuse s).length ≤ 4098
    omega
  · split
    · split
      · exact Nat.zero_le _
      · exact Nat.zero_le _
    · split
      · exact Nat.zero_le _
      · split
        · show 1 ≤ 4098
          omega
        · show (if _ then _ else _ : List Sg).length ≤ 4098
          split
          · show 1 ≤ 4098
            omega
          · exact flush_len _
theorem take_len (c : Cn) (s : Sg) : (c.take s).1.length ≤ 4098 := by
  have one : ∀ (d : Cn), ([d.nod], (0 : Int), d).1.length ≤ 4098 := fun d => by show 1 ≤ 4098; omega
  unfold Cn.take
  simp only
  split
  · exact Nat.zero_le _
  · split
    · exact one _
    · split
      · exact Nat.zero_le _
      · split
        · exact Nat.zero_le _
        · split
          · split
            · exact rest_len _ _
            · exact one _
          · split
            · have := refuse_len s
              show (Cn.refuse s).length ≤ 4098
              omega
            · exact rest_len _ _
theorem Take_len (c : Cn) (s : Sg) : (c.Take s).1.length ≤ 4098 := by
  unfold Cn.Take
  split
  · exact Nat.zero_le _
  · split
    · exact Nat.zero_le _
    · split
      · exact answer_len _ _
      · exact take_len _ _
theorem write_len (c : Cn) (b : List Int) : (c.write b).2.1.length ≤ 4098 := by
  unfold Cn.write
  split
  · exact Nat.zero_le _
  · exact flush_len _
theorem read_len (c : Cn) (n : Nat) : (c.read n).2.1.length ≤ 4098 := by
  unfold Cn.read
  cases c.inn with
  | none => exact Nat.zero_le _
  | some j =>
    show (if _ then _ else _ : List Sg).length ≤ 4098
    split
    · show 1 ≤ 4098
      omega
    · exact Nat.zero_le _
theorem end_len (c : Cn) : c.end_.1.length ≤ 4098 := by
  unfold Cn.end_
  split
  · exact flush_len _
  · exact Nat.zero_le _
theorem again_len (c : Cn) : c.again.1.length ≤ 4098 := by
  have one : ∀ (s : Sg), [s].length ≤ 4098 := fun d => by show 1 ≤ 4098; omega
  unfold Cn.again
  split
  · exact Nat.zero_le _
  · split
    · split
      · exact Nat.zero_le _
      · exact one _
    · split
      · split
        · exact Nat.zero_le _
        · exact one _
      · split
        · split
          · exact Nat.zero_le _
          · exact one _
        · split
          · exact Nat.zero_le _
          · exact one _
theorem ticks_len {c : Cn} {a : Ans} (h : c.ticks a) : a.1.length ≤ 4098 := by
  rcases h with rfl | ⟨_, rfl⟩
  · exact Nat.zero_le _
  · exact again_len c

/-! ### Two that talk, by their numbers -/
def upF {α : Type} (f : Nat → α) (k : Nat) (v : α) : Nat → α := fun i => if i = k then v else f i
theorem upF_eq {α : Type} {f : Nat → α} {k : Nat} {v : α} : upF f k v k = v := if_pos rfl
theorem upF_ne {α : Type} {f : Nat → α} {k i : Nat} {v : α} (h : i ≠ k) : upF f k v i = f i := if_neg h
structure PW where
  c : Nat → Cn
  w : Nat → List Int
  r : Nat → List Int
  y : Nat → List Sg
def PW.two (W : PW) : W2 := ⟨W.c 0, W.c 1, W.w 0, W.w 1, W.r 0, W.r 1, W.y 0, W.y 1⟩
def PI (isn : Nat → Nat) (W : PW) : Prop := W.two.Inv (isn 0) (isn 1)
section
variable {isn : Nat → Nat} {W : PW} {k : Nat}
theorem two_cases (hk : k < 2) : k = 0 ∨ k = 1 := by omega
theorem PI.side (h : PI isn W) (hk : k < 2) : Side (isn k) (W.w k) (W.c k) := by
  rcases two_cases hk with rfl | rfl
  · exact h.s0
  · exact h.s1
theorem PI.hears (h : PI isn W) (hk : k < 2) : Hears (isn (1 - k)) (W.w (1 - k)) (W.c (1 - k)).shut (W.c k) (W.r k) := by
  rcases two_cases hk with rfl | rfl
  · exact h.h0
  · exact h.h1
theorem PI.gen (h : PI isn W) (hk : k < 2) : ∀ s ∈ W.y k, Gen (isn (1 - k)) (W.w (1 - k)) (W.c (1 - k)).shut s := by
  rcases two_cases hk with rfl | rfl
  · exact h.g0
  · exact h.g1
/-- A step of one of them. -/
def PW.go (W : PW) (k : Nat) (d : Cn) (w rd : List Int) (ys outs : List Sg) : PW := ⟨upF W.c k d, upF W.w k w, upF W.r k rd, fun i => if i = k then ys else W.y i ++ outs⟩
theorem PI.go (h : PI isn W) (hk : k < 2) {x rd : List Int} {outs ys : List Sg} {d : Cn} (hd : Did (isn k) (W.w k) x (W.c k) outs d) (hh : Hears (isn (1 - k)) (W.w (1 - k)) (W.c (1 - k)).shut d rd) (hy : ∀ s ∈ ys, s ∈ W.y k) :
    PI isn (W.go k d (W.w k ++ x) rd ys outs) := by
  rcases two_cases hk with rfl | rfl
  · exact W2.Inv.step (W := W.two) h hd hh hy
  · exact (W2.Inv.step (W := W.two.turn) (W2.Inv.turn h) hd hh hy).turn
theorem upF_self {α : Type} {f : Nat → α} {k : Nat} : upF f k (f k) = f := funext fun i => by
  unfold upF
  split
  · rename_i e; rw [e]
  · rfl
/-- A call of one of them, and what it says is on its way. -/
theorem PI.call (h : PI isn W) (hk : k < 2) {x rd : List Int} {outs : List Sg} {d : Cn} (hd : Did (isn k) (W.w k) x (W.c k) outs d) (hh : Hears (isn (1 - k)) (W.w (1 - k)) (W.c (1 - k)).shut d rd) :
    PI isn ⟨upF W.c k d, upF W.w k (W.w k ++ x), upF W.r k rd, upF W.y (1 - k) (W.y (1 - k) ++ outs)⟩ := by
  have := h.go hk hd hh (ys := W.y k) fun s hs => hs
  rcases two_cases hk with rfl | rfl <;> exact this
theorem PI.call0 (h : PI isn W) (hk : k < 2) {outs : List Sg} {d : Cn} (hd : Did (isn k) (W.w k) [] (W.c k) outs d) (hh : Hears (isn (1 - k)) (W.w (1 - k)) (W.c (1 - k)).shut d (W.r k)) :
    PI isn { W with c := upF W.c k d, y := upF W.y (1 - k) (W.y (1 - k) ++ outs) } := by
  have := h.call hk hd hh
  rwa [List.append_nil, upF_self, upF_self] at this
/-- Fewer segments are on their way. -/
theorem PI.less (h : PI isn W) (hk : k < 2) {ys : List Sg} (hy : ∀ s ∈ ys, s ∈ W.y k) : PI isn { W with y := upF W.y k ys } := by
  rcases two_cases hk with rfl | rfl
  · exact ⟨h.s0, h.s1, h.h0, h.h1, fun s hs => h.g0 s (hy s hs), h.g1⟩
  · exact ⟨h.s0, h.s1, h.h0, h.h1, h.g0, fun s hs => h.g1 s (hy s hs)⟩
end
/-- How long everything is at most. -/
structure PB (W : PW) (n m : Nat) : Prop where
  w : ∀ k, k < 2 → (W.w k).length ≤ n
  y : ∀ k, k < 2 → (W.y k).length ≤ m
end Go.Conn
end

section
set_option linter.all false
namespace Go.Conn
theorem stop_sends {f : Nat} {c : Cn} (h : c.may = 0) : Cn.sends f c = ([], c) := by
  cases f with
  | zero => rfl
  | succ f =>
    show (if c.may = 0 then _ else _) = _
    rw [if_pos h]
theorem idle_flush {c : Cn} (h1 : c.st = 3) (h2 : c.data = []) (h3 : c.shut = false) : c.flush = ([], c) := by
  have hm : c.may = 0 := by unfold Cn.may; rw [h2]; simp
  unfold Cn.flush
  rw [if_pos (.inl h1), stop_sends hm]
  show ([] ++ c.byes.1, c.byes.2) = _
  have : c.byes = ([], c) := by unfold Cn.byes; rw [h3]; simp
  rw [this]; rfl
theorem idle_add {j : Jn} {a : Nat} (h : ∀ i, j.held i = none) : j.add a [] = j := by
  unfold Jn.add
  rw [if_neg (by simp)]
  have e : ∀ t : Nat × Nat, (([] : List Int).drop t.1).take t.2 = [] := fun t => by simp
  simp only [e]
  have hh : ∀ b, j.hold b [] = j := fun b => by
    unfold Jn.hold
    have : (fun i => (j.held i).or (if b ≤ i then ([] : List Int)[i - b]? else none)) = j.held := by
      funext i; simp
    rw [this]
  rw [hh]
  show (match j.held 0 with
    | some x => (j.step x).move 4095
    | none => j) = j
  rw [h 0]
section
variable {src dst : Int} {a b : Nat}
def syn0 (src dst : Int) (a : Nat) : Sg := ⟨src, dst, a, 0, 2, 4096, 0, 1460, []⟩
theorem dial_eq : (dial src dst a).1 = [syn0 src dst a] := rfl
theorem small {p : Int} (h : portB p = true) : i16 p = true ∧ 1 ≤ p ∧ p ≤ 65535 := by
  unfold portB at h
  simp only [Bool.and_eq_true, decide_eq_true_eq] at h
  unfold i16
  simp only [Bool.and_eq_true, decide_eq_true_eq]
  omega
theorem syn0_can (h1 : portB src = true) (h2 : portB dst = true) : (syn0 src dst a).can = true := by
  unfold Sg.can Sg.fits syn0
  simp only [(small h1).1, (small h2).1]
  rfl
noncomputable def syn1 (src dst : Int) (a b : Nat) : Sg := ⟨dst, src, b, addN a 1, 18, 4096, 0, 1460, []⟩
theorem accept_eq : (accept (syn0 src dst a) b).1 = [syn1 src dst a b] := rfl
theorem syn1_can (h1 : portB src = true) (h2 : portB dst = true) : (syn1 src dst a b).can = true := by
  unfold Sg.can Sg.fits syn1
  simp only [(small h1).1, (small h2).1]
  rfl
theorem way_self (n : Nat) (h : n < 4294967296) : wayN n n = 0 := by rw [wayN_eq]; omega
/-- The one that dialled is established, and says so. -/
theorem dialled (h1 : portB src = true) (h2 : portB dst = true) (ha : a < 1000000) (hb : b < 1000000) :
    ((dial src dst a).2.Take (syn1 src dst a b)).2.1 = 0 ∧ ((dial src dst a).2.Take (syn1 src dst a b)).2.2.st = 3 ∧
    ∃ w, ((dial src dst a).2.Take (syn1 src dst a b)).1 = [⟨src, dst, a + 1, b + 1, 16, w, 0, 0, []⟩] ∧ 0 ≤ w ∧ w ≤ 4096 := by
  have hs : (dial src dst a).2.st = 1 := rfl
  have e1 : (dial src dst a).2.Take (syn1 src dst a b) = (dial src dst a).2.answer (syn1 src dst a b) := by
    unfold Cn.Take
    rw [syn1_can h1 h2, hs]; rfl
  rw [e1]
  have ea : (syn1 src dst a b).acks = true := by show bitB 18 4 = true; decide
  have er : (syn1 src dst a b).rst = false := by show bitB 18 2 = false; decide
  have ey : (syn1 src dst a b).syn = true := by show bitB 18 1 = true; decide
  have ek : (syn1 src dst a b).ack = addN (dial src dst a).2.first 1 := rfl
  generalize hd : (dial src dst a).2.begin (syn1 src dst a b) = d
  have hdd : d.data = [] := by rw [← hd]; rfl
  have hds : d.shut = false := by rw [← hd]; rfl
  have hdu : d.una = a + 1 := by rw [← hd]; show addN a 1 = _; rw [addN_small (by omega)]
  have hdn : d.sent = 0 := by rw [← hd]; rfl
  have hdi : d.inn = some ⟨addN b 1, [], fun _ => none⟩ := by rw [← hd]; rfl
  have hdby : d.bye = false := by rw [← hd]; rfl
  have hdg : d.got = false := by rw [← hd]; rfl
  have hsrc : d.src = src := by rw [← hd]; rfl
  have hdst : d.dst = dst := by rw [← hd]; rfl
  have hk : (syn1 src dst a b).ack = a + 1 := by show addN a 1 = _; rw [addN_small (by omega)]
  have ew : d.welcome (syn1 src dst a b) = { d with st := 3, tries := 0, win := 4096, una := addN (a + 1) 0, data := [], sent := 0 } := by
    unfold Cn.welcome Cn.ackd
    simp only [hk, hdu, hdn, hdd]
    rw [way_self _ (by omega)]
    simp [pick, syn1]
  have ef := idle_flush (c := d.welcome (syn1 src dst a b)) (by rw [ew]) (by rw [ew]) (by rw [ew]; exact hds)
  have e2 : (dial src dst a).2.answer (syn1 src dst a b) = ([(d.welcome (syn1 src dst a b)).nod], 0, d.welcome (syn1 src dst a b)) := by
    unfold Cn.answer
    simp only [ea, er, ey, ek, hd, ef]
    simp
  rw [e2]
  refine ⟨rfl, by rw [ew], 4096, ?_, by omega, by omega⟩
  congr 1
  have hw : (d.welcome (syn1 src dst a b)).wants = b + 1 := by
    rw [ew]
    unfold Cn.wants
    rw [hdi]
    show (if d.got = true then addN (addN b 1) 1 else addN b 1) = _
    rw [hdg]
    show addN b 1 = _
    rw [addN_small (by omega)]
  have hl : (d.welcome (syn1 src dst a b)).last = a + 1 := by
    rw [ew]
    unfold Cn.last Cn.onext
    show (if d.bye = true then addN (addN (addN (a + 1) 0) 0) 1 else addN (addN (a + 1) 0) 0) = _
    rw [hdby]
    show addN (addN (a + 1) 0) 0 = _
    rw [addN_small (by omega : a + 1 + 0 < 4294967296), addN_small (by omega)]
  have hr : (d.welcome (syn1 src dst a b)).room = 4096 := by
    rw [ew]
    unfold Cn.room
    rw [hdi]; rfl
  unfold Cn.nod Cn.mk'
  rw [hw, hl, hr]
  rw [show (d.welcome (syn1 src dst a b)).src = src by rw [ew]; exact hsrc, show (d.welcome (syn1 src dst a b)).dst = dst by rw [ew]; exact hdst]
  rfl
/-- The one that was dialled is established, and says nothing. -/
theorem accepted (h1 : portB src = true) (h2 : portB dst = true) (ha : a < 1000000) (hb : b < 1000000) {w : Int} (hw0 : 0 ≤ w) (hw1 : w ≤ 4096) :
    ((accept (syn0 src dst a) b).2.Take ⟨src, dst, a + 1, b + 1, 16, w, 0, 0, []⟩).1 = [] ∧ ((accept (syn0 src dst a) b).2.Take ⟨src, dst, a + 1, b + 1, 16, w, 0, 0, []⟩).2.1 = 0 ∧ ((accept (syn0 src dst a) b).2.Take ⟨src, dst, a + 1, b + 1, 16, w, 0, 0, []⟩).2.2.st = 3 := by
  generalize hsg : (⟨src, dst, a + 1, b + 1, 16, w, 0, 0, []⟩ : Sg) = s
  generalize hd : (accept (syn0 src dst a) b).2 = d
  have hdst : d.st = 2 := by rw [← hd]; rfl
  have hdd : d.data = [] := by rw [← hd]; rfl
  have hds : d.shut = false := by rw [← hd]; rfl
  have hdu : d.una = b + 1 := by rw [← hd]; show addN b 1 = _; rw [addN_small (by omega)]
  have hdn : d.sent = 0 := by rw [← hd]; rfl
  have hdi : d.inn = some ⟨a + 1, [], fun _ => none⟩ := by rw [← hd]; show some (⟨addN a 1, [], fun _ => none⟩ : Jn) = _; rw [addN_small (by omega)]
  have hdg : d.got = false := by rw [← hd]; rfl
  have hdf : d.first = b := by rw [← hd]; rfl
  have hcan : s.can = true := by
    rw [← hsg]
    unfold Sg.can Sg.fits
    simp only [(small h1).1, (small h2).1]
    have : i16 w = true := by unfold i16; simp only [Bool.and_eq_true, decide_eq_true_eq]; omega
    rw [this]; rfl
  have ea : s.acks = true := by rw [← hsg]; show bitB 16 4 = true; decide
  have er : s.rst = false := by rw [← hsg]; show bitB 16 2 = false; decide
  have ey : s.syn = false := by rw [← hsg]; show bitB 16 1 = false; decide
  have efi : s.fin = false := by rw [← hsg]; show bitB 16 0 = false; decide
  have hsd : s.data = [] := by rw [← hsg]
  have hseq : s.seq = a + 1 := by rw [← hsg]
  have hack : s.ack = b + 1 := by rw [← hsg]
  have hspan : s.span = 0 := by unfold Sg.span; rw [hsd, ey, efi]; rfl
  have hwa : d.wants = a + 1 := by unfold Cn.wants; rw [hdi]; show (if d.got = true then _ else _) = _; rw [hdg]; rfl
  have hjw : d.jwin = 4096 := by unfold Cn.jwin; rw [hdi]; rfl
  have hok : acceptsN d.wants d.jwin s.seq s.span = true := by
    rw [hwa, hjw, hseq, hspan]
    unfold acceptsN withinN
    rw [way_self _ (by omega)]
    simp
  have ew : d.welcome s = { d with st := 3, tries := 0, win := s.win.toNat, una := addN (b + 1) 0, data := [], sent := 0 } := by
    unfold Cn.welcome Cn.ackd
    simp only [hack, hdu, hdn, hdd]
    rw [way_self _ (by omega)]
    simp [pick]
  have et : (d.welcome s).takes s = d.welcome s := by
    unfold Cn.takes
    have hi : (d.welcome s).inn = some ⟨a + 1, [], fun _ => none⟩ := by rw [ew]; exact hdi
    rw [hi]
    show (if (d.welcome s).st = 3 ∨ _ ∨ _ then (d.welcome s).joined s (Jn.add ⟨a + 1, [], fun _ => none⟩ s.seq s.data) else _) = _
    rw [if_pos (.inl (by rw [ew])), hsd, idle_add (fun _ => rfl)]
    unfold Cn.joined
    rw [efi]
    show ({ d.welcome s with inn := _ } : Cn) = _
    rw [← hi]
  have ef := idle_flush (c := d.welcome s) (by rw [ew]) (by rw [ew]) (by rw [ew]; exact hds)
  have e1 : d.Take s = ([], 0, d.welcome s) := by
    unfold Cn.Take
    rw [hcan, hdst]
    show d.take s = _
    unfold Cn.take
    simp only
    rw [hok, er, ey, ea, hdst, hdf, hack, addN_small (by omega)]
    simp only [Bool.not_true, Bool.false_and, Bool.or_false, ne_eq, not_true_eq_false, if_false, Bool.false_eq_true]
    show (d.welcome s).rest s = _
    unfold Cn.rest
    rw [if_neg (by rw [ew]; show ¬ 3 = 0; omega), et, ef, hspan]
    simp
  rw [e1]
  exact ⟨rfl, rfl, by rw [ew]⟩
end
end Go.Conn
end
