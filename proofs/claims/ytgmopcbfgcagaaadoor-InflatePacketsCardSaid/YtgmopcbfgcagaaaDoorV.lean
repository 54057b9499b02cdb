/-
  A predicate transformer on partial frames: what a piece of translated code does, reckoned by reduction alone; proved against the machine's own rules.
  It holds for whatever program; nothing of this program stands here.
-/
import Derived.WalkKit
import Derived.Maps.AppendAt
import Derived.WalkSpells
namespace Go.Proofs.YtgmopcbfgcagaaaDoor.V
open Go Go.RowKit

abbrev Fr := List (Nat × Value)

def ffind : List (Nat × Value) → Nat → Option Value
  | [], _ => none
  | (d, v) :: r, t => bif Nat.beq d t then some v else ffind r t

structure TI where
  und : TypeDesc
  size : Nat
  bytes : Nat
  zero : Value

abbrev TT := List (Nat × TI)
def tfind : List (Nat × TI) → Nat → Option TI
  | [], _ => none
  | (d, v) :: r, t => bif Nat.beq d t then some v else tfind r t

structure TOk (P : Program) (tt : TT) : Prop where
  ok : ∀ t i, tfind tt t = some i → P.underlying t = some i.und ∧ ∃ info, P.info? t = some info ∧ info.size = i.size ∧ info.bytes = i.bytes ∧ info.zero = some i.zero

theorem TOk.nil (P : Program) : TOk P [] := ⟨fun _ _ h => by cases h⟩
theorem TOk.cons {P : Program} {t : Nat} {i : TI} {r : TT} (h1 : P.underlying t = some i.und) (h2 : (P.info? t).map (fun x => (x.size, x.bytes, x.zero)) = some (i.size, i.bytes, some i.zero)) (hr : TOk P r) : TOk P ((t, i) :: r) := by
  refine ⟨fun u j h => ?_⟩
  unfold tfind at h
  cases hb : Nat.beq t u with
  | true =>
    rw [hb] at h
    have : t = u := Nat.eq_of_beq_eq_true hb
    subst this
    simp only [cond_true, Option.some.injEq] at h
    subst h
    refine ⟨h1, ?_⟩
    cases hi : P.info? t with
    | none => rw [hi] at h2; cases h2
    | some info =>
      rw [hi] at h2
      simp only [Option.map_some, Option.some.injEq, Prod.mk.injEq] at h2
      exact ⟨info, rfl, h2.1, h2.2.1, h2.2.2⟩
  | false =>
    rw [hb] at h
    exact hr.ok u j h

def aggT : TypeDesc → Bool
  | .struct _ => true
  | .array _ _ => true
  | _ => false

/-- What is known of a frame: some of its slots. -/
structure Rep (n : Nat) (a : Act) (fr : Fr) : Prop where
  d : a.defers = []
  size : a.tmps.size = n
  at_ : ∀ t v, ffind fr t = some v → a.tmps[t]? = some v

def evo (fr : Fr) : Operand → Option Value
  | .tmp t => ffind fr t
  | .const v => some v
  | .global g => some (.pointer (some ⟨g, 0, none⟩))
  | .func f => some (.func (.func f) #[] #[])

theorem Rep.evo {n : Nat} {a : Act} {fr : Fr} (h : Rep n a fr) {x : Operand} {v : Value} (hv : V.evo fr x = some v) : a.eval x = v := by
  cases x with
  | tmp t =>
    have := h.at_ t v hv
    simp only [Act.eval, Array.getD_eq_getD_getElem?, this, Option.getD_some]
  | const c => simpa [V.evo, Act.eval] using hv
  | global g => simpa [V.evo, Act.eval] using hv
  | func f => simpa [V.evo, Act.eval] using hv

def ev1 (fr : Fr) (x : Operand) (K : Value → Prop) : Prop :=
  match evo fr x with
  | some v => K v
  | none => False

theorem ev1_elim {fr : Fr} {x : Operand} {K : Value → Prop} (h : ev1 fr x K) : ∃ v, evo fr x = some v ∧ K v := by
  unfold ev1 at h
  split at h
  · exact ⟨_, by assumption, h⟩
  · exact h.elim

def evs (fr : Fr) : List Operand → (List Value → Prop) → Prop
  | [], K => K []
  | x :: r, K => ev1 fr x fun v => evs fr r fun vs => K (v :: vs)

theorem evs_elim {n : Nat} {a : Act} {fr : Fr} (hr : Rep n a fr) {xs : List Operand} {K : List Value → Prop} (h : evs fr xs K) : K (xs.map a.eval) := by
  induction xs generalizing K with
  | nil => exact h
  | cons x r ih =>
    obtain ⟨v, hv, h⟩ := ev1_elim h
    have := ih h
    rw [List.map_cons, hr.evo hv]
    exact this

def fput (n : Nat) (fr : Fr) (d : Option Nat) (v : Value) : Fr :=
  match d with
  | some t => bif Nat.blt t n then (t, v) :: fr else fr
  | none => fr

theorem Rep.put {n : Nat} {a : Act} {fr : Fr} (h : Rep n a fr) (d : Option Nat) (v : Value) : Rep n (a.put d v) (fput n fr d v) := by
  cases d with
  | none => exact h
  | some t =>
    refine ⟨h.d, by simp [Act.put, h.size], fun u x hx => ?_⟩
    have hsz := h.size
    show (a.tmps.setIfInBounds t v)[u]? = some x
    unfold fput at hx
    cases hb : Nat.blt t n with
    | false =>
      have hge : ¬ t < n := by
        intro hlt
        have : Nat.blt t n = true := by simpa [Nat.blt_eq] using hlt
        rw [hb] at this; cases this
      simp only [hb, cond_false] at hx
      have := h.at_ u x hx
      by_cases hu : t = u
      · subst hu
        have hq : a.tmps.size ≤ t := by omega
        rw [Array.getElem?_eq_none hq] at this
        cases this
      · rw [Array.getElem?_setIfInBounds_ne hu]; exact this
    | true =>
      have hlt : t < n := by simpa [Nat.blt_eq] using hb
      simp only [hb, cond_true] at hx
      unfold ffind at hx
      cases hb2 : Nat.beq t u with
      | true =>
        have : t = u := Nat.eq_of_beq_eq_true hb2
        subst this
        rw [hb2] at hx
        simp only [cond_true, Option.some.injEq] at hx
        subst hx
        have hq : t < a.tmps.size := by omega
        rw [Array.getElem?_setIfInBounds_self_of_lt hq]
      | false =>
        rw [hb2] at hx
        simp only [cond_false] at hx
        have hne : t ≠ u := by
          intro e; subst e
          have : Nat.beq t t = true := by simp
          rw [hb2] at this; cases this
        rw [Array.getElem?_setIfInBounds_ne hne]
        exact h.at_ u x hx

/-- A frame known less well. -/
def fsub (fr' fr : Fr) : Prop := ∀ t v, ffind fr' t = some v → ffind fr t = some v
theorem Rep.sub {n : Nat} {a : Act} {fr fr' : Fr} (h : Rep n a fr) (hs : fsub fr' fr) : Rep n a fr' := ⟨h.d, h.size, fun t v hv => h.at_ t v (hs t v hv)⟩
/-- 'fr' holds what each row of 'l' says. -/
def fhas (fr : Fr) : Fr → Prop
  | [] => True
  | (t, v) :: r => ffind fr t = some v ∧ fhas fr r
theorem fsub_of_has {fr fr' : Fr} (h : fhas fr fr') : fsub fr' fr := by
  induction fr' with
  | nil => intro t v hv; cases hv
  | cons x r ih =>
    obtain ⟨d, u⟩ := x
    obtain ⟨h1, h2⟩ := h
    intro t v hv
    unfold ffind at hv
    cases hb : Nat.beq d t with
    | true =>
      have : d = t := Nat.eq_of_beq_eq_true hb
      subst this
      rw [hb] at hv
      simp only [cond_true, Option.some.injEq] at hv
      subst hv
      exact h1
    | false =>
      rw [hb] at hv
      exact ih h2 t v hv

/-! ### What stays -/

/-- From w to w' no block has turned but those of S; blocks may have come. -/
structure Keep (S : Nat → Prop) (w w' : World) : Prop where
  os : w'.os = w.os
  tape : w'.tape = w.tape
  output : w'.output = w.output
  size : w.heap.size ≤ w'.heap.size
  block : ∀ k, k < w.heap.size → ¬ S k → w'.heap[k]? = w.heap[k]?

abbrev No : Nat → Prop := fun _ => False
theorem Keep.refl (S : Nat → Prop) (w : World) : Keep S w w := ⟨rfl, rfl, rfl, Nat.le_refl _, fun _ _ _ => rfl⟩
theorem Keep.trans {S : Nat → Prop} {a b c : World} (h : Keep S a b) (k : Keep S b c) : Keep S a c :=
  ⟨k.os.trans h.os, k.tape.trans h.tape, k.output.trans h.output, Nat.le_trans h.size k.size, fun i hi hs => (k.block i (Nat.lt_of_lt_of_le hi h.size) hs).trans (h.block i hi hs)⟩
theorem Keep.mono {S T : Nat → Prop} {a b : World} (h : Keep S a b) (hst : ∀ k, k < a.heap.size → S k → T k) : Keep T a b :=
  ⟨h.os, h.tape, h.output, h.size, fun i hi hs => h.block i hi (fun x => hs (hst i hi x))⟩
theorem Keep.get {S : Nat → Prop} {w w' : World} (h : Keep S w w') {k : Nat} {o : Obj} (hk : w.heap[k]? = some o) (hs : ¬ S k) : w'.heap[k]? = some o := by
  have hlt : k < w.heap.size := by
    rcases Nat.lt_or_ge k w.heap.size with h | h
    · exact h
    · rw [Array.getElem?_eq_none h] at hk; cases hk
  rw [h.block k hlt hs]; exact hk
theorem Keep.cell {S : Nat → Prop} {w w' : World} (h : Keep S w w') {a : Addr} {v : Value} (hk : w.cell? a = some v) (hs : ¬ S a.block) : w'.cell? a = some v := by
  have hlt : a.block < w.heap.size := by
    rcases Nat.lt_or_ge a.block w.heap.size with h | h
    · exact h
    · unfold World.cell? at hk; rw [Array.getElem?_eq_none h] at hk; cases hk
  rw [World.cell?_of_block (h.block _ hlt hs)]; exact hk
theorem Keep.below {w w' : World} {S : Nat → Prop} {B : Nat} (h : Keep S w w') (hB : B ≤ w.heap.size) (hs : ∀ k, k < B → ¬ S k) : Below B w w' :=
  ⟨h.os, h.tape, h.output, h.size, fun k hk => h.block k (by omega) (hs k hk)⟩
theorem Keep.ofGrown {w w' : World} {row : Option Nat} (h : w.grownBy w' row) : Keep (fun k => row = some k) w w' :=
  ⟨h.os, h.tape, h.output, h.size, fun k hk hs => h.block k hk (fun e => hs e.symm)⟩
theorem Keep.ofBelow {w w' : World} {S : Nat → Prop} (h : Below w.heap.size w w') : Keep S w w' :=
  ⟨h.os, h.tape, h.output, h.size, fun k hk _ => h.block k hk⟩
theorem Keep.drew {S : Nat → Prop} {a w : World} (h : Keep S a w) : Keep S a w.drew := ⟨h.os, h.tape, h.output, h.size, h.block⟩
theorem Keep.fresh {S : Nat → Prop} {w w' : World} (h : Keep S w w') (hs : ∀ k, S k → w.heap.size ≤ k) : Keep No w w' :=
  h.mono fun k hk hS => absurd (hs k hS) (by omega)

/-- Block b is just these cells. -/
def Blk (w : World) (b : Nat) (t : TypeId) (cs : List Value) : Prop := w.heap[b]? = some (.cells cs.toArray t (0, 0))
theorem Blk.lt {w : World} {b : Nat} {t : TypeId} {cs : List Value} (h : Blk w b t cs) : b < w.heap.size := by
  rcases Nat.lt_or_ge b w.heap.size with hl | hl
  · exact hl
  · unfold Blk at h; rw [Array.getElem?_eq_none hl] at h; cases h
theorem Blk.keep {S : Nat → Prop} {w w' : World} {b : Nat} {t : TypeId} {cs : List Value} (h : Blk w b t cs) (k : Keep S w w') (hs : ¬ S b) : Blk w' b t cs := k.get h hs
theorem Blk.cell {w : World} {b : Nat} {t : TypeId} {cs : List Value} (h : Blk w b t cs) (i : Nat) : w.cell? ⟨b, i, none⟩ = cs[i]? := by
  unfold Blk at h
  simp [World.cell?, h]
theorem Blk.ne {w : World} {b b' : Nat} {t t' : TypeId} {cs cs' : List Value} (h : Blk w b t cs) (h' : Blk w b' t' cs') (hne : t ≠ t') : b ≠ b' := by
  rintro rfl
  unfold Blk at h h'
  rw [h] at h'
  injection h' with h'
  injection h' with _ ht
  exact hne ht

/-! ### One operation -/

/-- A test: two ways. -/
structure VCmp (c : Prop) (A B : Prop) : Prop where
  t : c → A
  f : ¬ c → B

/-- Something is owed. -/
structure VReq (c : Prop) (A : Prop) : Prop where
  c : c
  h : A

/-- A value that was reckoned. -/
structure VRes (v : Value) (K : Value → Prop) : Prop where
  h : K v

theorem VRes.to {v v' : Value} {K : Value → Prop} (e : v = v') (h : K v') : VRes v K := ⟨e ▸ h⟩

structure VLoad (L : Addr → Value → Prop) (a : Addr) (K : Value → Prop) : Prop where
  h : ∃ v, L a v ∧ K v
theorem VLoad.by_ {L : Addr → Value → Prop} {a : Addr} {K : Value → Prop} {v : Value} (h1 : L a v) (h2 : K v) : VLoad L a K := ⟨v, h1, h2⟩

structure VLoads (L : Addr → Value → Prop) (a : Addr) (n : Nat) (K : List Value → Prop) : Prop where
  h : ∃ cs : List Value, cs.length = n ∧ (∀ j v, cs[j]? = some v → L (a.add j) v) ∧ K cs

/-- The place of element i of a slice. -/
structure VIdx (A : Option Addr) (n : Nat) (i : Int) (size : Nat) (K : Addr → Prop) : Prop where
  h : ∃ b o j, A = some ⟨b, o, none⟩ ∧ ((j : Nat) : Int) = i ∧ j < n ∧ K ⟨b, o + j * size, none⟩

structure VIdxA (a : Addr) (n : Nat) (i : Int) (size : Nat) (K : Addr → Prop) : Prop where
  h : ∃ j, a.spot = none ∧ ((j : Nat) : Int) = i ∧ j < n ∧ K ⟨a.block, a.off + j * size, none⟩

structure VIdxV (cs : Array Value) (n : Nat) (i : Int) (size : Nat) (K : Value → Prop) : Prop where
  h : ∃ j v, ((j : Nat) : Int) = i ∧ j < n ∧ cs[j * size]? = some v ∧ K v

structure VIdxG (cs : Array Value) (n : Nat) (i : Int) (size : Nat) (K : Value → Prop) : Prop where
  h : ∃ j, ((j : Nat) : Int) = i ∧ j < n ∧ K (.agg (cs.extract (j * size) (j * size + size)))

structure VCut (A : Option Addr) (c : Nat) (l h : Int) (size : Nat) (K : Value → Prop) : Prop where
  h : ∃ l' h' : Nat, (l' : Int) = l ∧ (h' : Int) = h ∧ l' ≤ h' ∧ h' ≤ c ∧ ∀ A', A' = (if c = l' then A else A.map (·.add (l' * size))) → K (.slice A' (h' - l') (c - l'))

structure VCutA (a : Addr) (c : Nat) (l h : Int) (size : Nat) (K : Value → Prop) : Prop where
  h : ∃ l' h' : Nat, (l' : Int) = l ∧ (h' : Int) = h ∧ l' ≤ h' ∧ h' ≤ c ∧ ∀ A', A' = some (if c = l' then a else a.add (l' * size)) → K (.slice A' (h' - l') (c - l'))

structure VIdxS (s : ByteArray) (i : Int) (K : Value → Prop) : Prop where
  h : ∃ (j : Nat) (b : UInt8), (j : Int) = i ∧ s[j]? = some b ∧ K (.int .u8 (b.toNat : Nat))

structure VCutS (s : ByteArray) (l h : Int) (K : Value → Prop) : Prop where
  h : ∃ l' h' : Nat, (l' : Int) = l ∧ (h' : Int) = h ∧ l' ≤ h' ∧ h' ≤ s.size ∧ ∀ x, x = s.extract l' h' → K (.string x)

structure VCut3 (A : Option Addr) (c : Nat) (l h m : Int) (size : Nat) (K : Value → Prop) : Prop where
  h : ∃ l' h' m' : Nat, (l' : Int) = l ∧ (h' : Int) = h ∧ (m' : Int) = m ∧ l' ≤ h' ∧ h' ≤ m' ∧ m' ≤ c ∧ ∀ A', A' = (if m' = l' then A else A.map (·.add (l' * size))) → K (.slice A' (h' - l') (m' - l'))

def lput (cells : List Value) (off : Nat) (vs : List Value) : List Value :=
  match vs with
  | [v] => cells.set off v
  | vs => cells.take off ++ vs ++ cells.drop (off + vs.length)

/-- The cells of a literal: its zero cells, each part laid at its place. -/
def lfill (place : Nat → Option (Nat × Nat)) : List Value → List (Nat × Value) → Option (List Value)
  | cells, [] => some cells
  | cells, (i, v) :: r => match place i with
    | none => none
    | some (off, size) => bif Nat.beq v.cells.toList.length size && Nat.ble (off + size) cells.length then lfill place (lput cells off v.cells.toList) r else none

def zipNV : List Nat → List Value → List (Nat × Value)
  | i :: r, v :: s => (i, v) :: zipNV r s
  | _, _ => []
def firsts : List (Nat × Operand) → List Nat
  | [] => []
  | (i, _) :: r => i :: firsts r
def seconds : List (Nat × Operand) → List Operand
  | [] => []
  | (_, x) :: r => x :: seconds r

structure VFill (x : Option (List Value)) (K : List Value → Prop) : Prop where
  h : ∃ cs, x = some cs ∧ K cs
theorem VFill.by_ {x : Option (List Value)} {K : List Value → Prop} {cs : List Value} (h1 : x = some cs) (h2 : K cs) : VFill x K := ⟨cs, h1, h2⟩

def allFound (tt : TT) : List Field → Bool
  | [] => true
  | f :: r => (match tfind tt f.type with | some _ => allFound tt r | none => false)

def fieldPlaces (tt : TT) : List Field → List (Nat × Nat)
  | [] => []
  | f :: r => (f.offset, match tfind tt f.type with | some i => i.size | none => 0) :: fieldPlaces tt r

def vcmp (c : Prop) (K : Value → Prop) : Prop := VCmp c (K (.bool true)) (K (.bool false))

def vbin (op : BinOp) (k : IntKind) (a b : Int) (K : Value → Prop) : Prop :=
  match op with
  | .add => VRes (.int k (k.wrap (a + b))) K
  | .sub => VRes (.int k (k.wrap (a - b))) K
  | .mul => VRes (.int k (k.wrap (a * b))) K
  | .quo => VReq (b ≠ 0) (VRes (.int k (k.wrap (a.tdiv b))) K)
  | .rem => VReq (b ≠ 0) (VRes (.int k (a.tmod b)) K)
  | .and => VRes (.int k (k.wrap ((BitVec.ofInt k.bits a &&& BitVec.ofInt k.bits b).toNat))) K
  | .or => VRes (.int k (k.wrap ((BitVec.ofInt k.bits a ||| BitVec.ofInt k.bits b).toNat))) K
  | .xor => VRes (.int k (k.wrap ((BitVec.ofInt k.bits a ^^^ BitVec.ofInt k.bits b).toNat))) K
  | .andNot => VRes (.int k (k.wrap ((BitVec.ofInt k.bits a &&& ~~~ BitVec.ofInt k.bits b).toNat))) K
  | .eql => vcmp (a = b) K
  | .neq => vcmp (a ≠ b) K
  | .lss => vcmp (a < b) K
  | .leq => vcmp (a ≤ b) K
  | .gtr => vcmp (b < a) K
  | .geq => vcmp (b ≤ a) K
  | _ => False

def vshift (op : BinOp) (k : IntKind) (a b : Int) (K : Value → Prop) : Prop :=
  VReq (0 ≤ b) (match op with
  | .shl => VRes (.int k (k.wrap (a * 2 ^ (min b.toNat k.bits)))) K
  | .shr => VRes (.int k (a.fdiv (2 ^ (min b.toNat k.bits)))) K
  | _ => False)

/-- nil or not -/
def isC : Operand → Bool
  | .const _ => true
  | _ => false

def vnil (tt : TT) (t : TypeId) (yc : Bool) (x y : Value) (K : Bool → Prop) : Prop :=
  match x, y with
  | .nilIface, .nilIface => (match yc, tfind tt t with | true, some ⟨.interface _, _, _, _⟩ => K true | _, _ => False)
  | .bool a, .bool b => (match tfind tt t with | some ⟨.bool, _, _, _⟩ => K (a == b) | _ => False)
  | .pointer a, .pointer none => (match tfind tt t with | some ⟨.pointer _, _, _, _⟩ => K a.isNone | _ => False)
  | .slice a _ _, .slice none _ _ => (match tfind tt t with | some ⟨.slice _, _, _, _⟩ => K a.isNone | _ => False)
  | .nilFunc, .nilFunc => (match tfind tt t with | some ⟨.func _ _ _, _, _, _⟩ => K true | _ => False)
  | .func _ _ _, .nilFunc => (match tfind tt t with | some ⟨.func _ _ _, _, _, _⟩ => K false | _ => False)
  | .iface _ _, .nilIface => (match tfind tt t with | some ⟨.interface _, _, _, _⟩ => K false | _ => False)
  | _, _ => False

def vaddr (a : Addr) (n : Nat) : Addr :=
  match a with
  | ⟨b, o, _⟩ => match n with
    | 0 => ⟨b, o, none⟩
    | n + 1 => ⟨b, o + (n + 1), none⟩

/-- An operation that does nothing to memory. -/
def vq (tt : TT) (L : Addr → Value → Prop) (fr : Fr) (o : Oper) (K : Value → Prop) : Prop :=
  match o.op with
  | .move x => ev1 fr x K
  | .assign x => ev1 fr x K
  | .pick c a b => ev1 fr c fun c => match c with
    | .bool t => (match t with | true => ev1 fr a K | false => ev1 fr b K)
    | _ => False
  | .nilCheck x => ev1 fr x fun v => match v with
    | .pointer (some a) => K (.pointer (some a))
    | .func (.func f) p q => K (.func (.func f) p q)
    | _ => False
  | .load t x => ev1 fr x fun v => match v with
    | .pointer (some a) => (match tfind tt t with
      | some i => (match aggT i.und with
        | true => VLoads L a i.size fun cs => K (.agg cs.toArray)
        | false => VLoad L a K)
      | none => False)
    | _ => False
  | .binOp op t x y _ => ev1 fr x fun a => ev1 fr y fun b =>
    (match a, b with
    | .int k m, .int k' n => (match op with
      | .shl => vshift .shl k m n K
      | .shr => vshift .shr k m n K
      | _ => (match decide (k = k') with | true => vbin op k m n K | false => False))
    | .string m, .string n => (match op with
      | .eql => vcmp (m = n) K
      | .neq => vcmp (m ≠ n) K
      | .add => VReq (m.size + n.size ≤ 9223372036854775807) (K (.string (m ++ n)))
      | _ => False)
    | _, _ => (match op with
      | .eql => vnil tt t (isC y) a b fun r => K (.bool r)
      | .neq => vnil tt t (isC y) a b fun r => K (.bool !r)
      | _ => False))
  | .unOp op _ x => ev1 fr x fun a => (match op, a with
    | .not, .bool b => K (.bool !b)
    | .neg, .int k n => VRes (.int k (k.wrap (0 - n))) K
    | .xor, .int k n => VRes (.int k (k.wrap ((BitVec.ofInt k.bits (if k.signed then -1 else k.max) ^^^ BitVec.ofInt k.bits n).toNat))) K
    | _, _ => False)
  | .convert s d x => ev1 fr x fun a => (match tfind tt s, tfind tt d, a with
    | some ⟨.int _, _, _, _⟩, some ⟨.int k, _, _, _⟩, .int _ n => VRes (.int k (k.wrap n)) K
    | _, _, _ => False)
  | .makeInterface t x => ev1 fr x fun a => (match tfind tt t with
    | some i => (match i.und with
      | .interface _ => False
      | _ => K (.iface t a))
    | none => False)
  | .fieldAddr s x f => ev1 fr x fun a => (match a with
    | .pointer (some a) => (match tfind tt s with
      | some ⟨.struct fs, _, _, _⟩ => (match fs[f]? with
        | some fd => (match tfind tt fd.type with
          | some i => (match i.size, a with
            | 0, _ => False
            | _ + 1, ⟨b, o, none⟩ => K (.pointer (some (vaddr ⟨b, o, none⟩ fd.offset)))
            | _, _ => False)
          | none => False)
        | none => False)
      | _ => False)
    | _ => False)
  | .field s x f => ev1 fr x fun a => (match a with
    | .agg cs => (match tfind tt s with
      | some ⟨.struct fs, _, _, _⟩ => (match fs[f]? with
        | some fd => (match tfind tt fd.type with
          | some i => (match aggT i.und with
            | true => K (.agg (cs.extract fd.offset (fd.offset + i.size)))
            | false => (match cs[fd.offset]? with | some v => K v | none => False))
          | none => False)
        | none => False)
      | _ => False)
    | _ => False)
  | .indexAddr t x ix => ev1 fr x fun a => ev1 fr ix fun b => (match b with
    | .int _ i => (match tfind tt t with
      | some ⟨.slice e, _, _, _⟩ => (match a with
        | .slice A n _ => (match tfind tt e with
          | some ei => VIdx A n i ei.size fun p => K (.pointer (some p))
          | none => False)
        | _ => False)
      | some ⟨.array n e, _, _, _⟩ => (match a with
        | .pointer (some ad) => (match tfind tt e with
          | some ei => VIdxA ad n i ei.size fun p => K (.pointer (some p))
          | none => False)
        | _ => False)
      | _ => False)
    | _ => False)
  | .index t x ix => ev1 fr x fun a => ev1 fr ix fun b => (match b with
    | .int _ i => (match tfind tt t with
      | some ⟨.array n e, _, _, _⟩ => (match a with
        | .agg cs => (match tfind tt e with
          | some ei => (match aggT ei.und with
            | true => VIdxG cs n i ei.size K
            | false => VIdxV cs n i ei.size K)
          | none => False)
        | _ => False)
      | some ⟨.string, _, _, _⟩ => (match a with
        | .string s => VIdxS s i K
        | _ => False)
      | _ => False)
    | _ => False)
  | .slice t x lo hi none => ev1 fr x fun a => (match tfind tt t with
    | some ⟨.slice e, _, _, _⟩ => (match tfind tt e with
      | some ei => (match a with
        | .slice A n c => evs fr (lo.getD (.const (.int .i64 0)) :: (match hi with | some h => [h] | none => [])) fun bs =>
          (match bs with
          | [.int _ l, .int _ h] => VCut A c l h ei.size K
          | [.int _ l] => VReq (n ≤ c) (VCut A c l n ei.size K)
          | _ => False)
        | _ => False)
      | none => False)
    | some ⟨.array n e, _, _, _⟩ => (match tfind tt e with
      | some ei => (match a with
        | .pointer (some ad) => evs fr (lo.getD (.const (.int .i64 0)) :: (match hi with | some h => [h] | none => [])) fun bs =>
          (match bs with
          | [.int _ l, .int _ h] => VCutA ad n l h ei.size K
          | [.int _ l] => VCutA ad n l n ei.size K
          | _ => False)
        | _ => False)
      | none => False)
    | some ⟨.string, _, _, _⟩ => (match a with
      | .string s => evs fr (lo.getD (.const (.int .i64 0)) :: (match hi with | some h => [h] | none => [])) fun bs =>
        (match bs with
        | [.int _ l, .int _ h] => VCutS s l h K
        | [.int _ l] => VCutS s l s.size K
        | _ => False)
      | _ => False)
    | _ => False)
  | .slice t x lo (some hi) (some mx) => ev1 fr x fun a => (match tfind tt t with
    | some ⟨.slice e, _, _, _⟩ => (match tfind tt e with
      | some ei => (match a with
        | .slice A _ c => ev1 fr (lo.getD (.const (.int .i64 0))) fun l => ev1 fr hi fun h => ev1 fr mx fun m =>
          (match l, h, m with
          | .int _ l, .int _ h, .int _ m => VCut3 A c l h m ei.size K
          | _, _, _ => False)
        | _ => False)
      | none => False)
    | _ => False)
  | .extract x i => ev1 fr x fun a => (match a with
    | .tuple vs => (match vs[i]? with | some v => K v | none => False)
    | _ => False)
  | .build t parts => evs fr (seconds parts.toList) fun vs => (match tfind tt t with
    | some i => (match i.und with
      | .struct fields => (match allFound tt fields.toList with
        | true => VFill (lfill (fun j => (fieldPlaces tt fields.toList)[j]?) i.zero.cells.toList (zipNV (firsts parts.toList) vs)) fun cs => K (.agg cs.toArray)
        | false => False)
      | .array _ e => (match tfind tt e with
        | some ei => VFill (lfill (fun j => some (j * ei.size, ei.size)) i.zero.cells.toList (zipNV (firsts parts.toList) vs)) fun cs => K (.agg cs.toArray)
        | none => False)
      | _ => False)
    | none => False)
  | .makeFunc fn first captured => evs fr first.toList fun fs => evs fr captured.toList fun cs => K (.func fn fs.toArray cs.toArray)
  | .call c => (match c.callee with
    | .builtin b => evs fr c.args.toList fun vs => (match b with
      | .len => (match c.argTypes[0]? with
        | some t => (match tfind tt t with
          | some i => (match i.und, vs with
            | .slice _, [.slice _ n _] => K (.int .i64 n)
            | .array n _, [_] => K (.int .i64 n)
            | .string, [.string s] => K (.int .i64 s.size)
            | _, _ => False)
          | none => False)
        | none => False)
      | .min => (match vs with
        | [.int k x, .int _ y] => VRes (.int k (if y < x then y else x)) K
        | _ => False)
      | .max => (match vs with
        | [.int k x, .int _ y] => VRes (.int k (if y > x then y else x)) K
        | _ => False)
      | _ => False)
    | _ => False)
  | _ => False

end Go.Proofs.YtgmopcbfgcagaaaDoor.V
