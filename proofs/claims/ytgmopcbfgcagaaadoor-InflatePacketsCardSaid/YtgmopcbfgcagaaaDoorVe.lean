/-
  The transformer of operations that write or make memory, or call; of regions; of code; a function's contract out of its body's.
-/
import Derived.Test.YtgmopcbfgcagaaaDoorVq
namespace Go.Proofs.YtgmopcbfgcagaaaDoor.V
open Go Go.RowKit

/-- A function of the program, called so, returns, and R holds of what it returns and of memory then. -/
structure VC (P : Program) (f : FuncId) (args : List Value) (w : World) (R : Value → World → Prop) : Prop where
  fn : ∃ fn, P.funcs[f]? = some fn ∧ (fn.name == "runtime.NumGoroutine") = false ∧ fn.body.isNone = false
  calls : Calls P f args.toArray w fun e w' => match e with
    | .returned v => R v w'
    | _ => False

theorem VC.mono {P : Program} {f : FuncId} {args : List Value} {w : World} {R R' : Value → World → Prop} (h : VC P f args w R) (hr : ∀ v w', R v w' → R' v w') : VC P f args w R' :=
  ⟨h.fn, h.calls.mono fun e w' => by cases e <;> first | exact hr _ _ | exact id⟩

/-- A store of whole cells into a block none of whose cells is frozen. -/
structure VStore (w : World) (b off : Nat) (vs : List Value) (one : Bool) (K : World → Prop) : Prop where
  h : ∃ cs e, Blk w b e cs ∧ off + vs.length ≤ cs.length ∧ ∀ w', Blk w' b e (match one, vs with | true, [v] => cs.set off v | _, _ => cs.take off ++ vs ++ cs.drop (off + vs.length)) → Keep (fun k => k = b) w w' → w'.heap.size = w.heap.size → K w'

theorem VStore.one {w : World} {b off : Nat} {v : Value} {K : World → Prop} {cs : List Value} {e : TypeId} (h : Blk w b e cs) (hl : off < cs.length)
    (hK : ∀ w', Blk w' b e (cs.set off v) → Keep (fun k => k = b) w w' → w'.heap.size = w.heap.size → K w') : VStore w b off [v] true K :=
  ⟨cs, e, h, by simp; omega, hK⟩

/-- A new block. -/
structure VNew (w : World) (e : TypeId) (cs : List Value) (K : World → Prop) : Prop where
  h : ∀ w', Blk w' w.heap.size e cs → Keep No w w' → K w'

structure VApp (P : Program) (w : World) (ts : Array TypeId) (ty : TypeId) (s x : Value) (K : Value → World → Prop) : Prop where
  h : ∃ v w', (Builtin.append_ ts ty #[s, x]).run P w = .ok v w' ∧ K v w'

structure VCopy (P : Program) (w : World) (ts : Array TypeId) (ty : TypeId) (s x : Value) (K : Value → World → Prop) : Prop where
  h : ∃ v w', (Builtin.copy_ ts ty #[s, x]).run P w = .ok v w' ∧ K v w'

structure VMake (P : Program) (w : World) (t : TypeId) (l c : Value) (K : Value → World → Prop) : Prop where
  h : ∃ v w', (Instr.makeSlice t l c).run P w = .ok v w' ∧ K v w'

structure VConv (P : Program) (w : World) (s t : TypeId) (x : Value) (K : Value → World → Prop) : Prop where
  h : ∃ v w', (convert s t x).run P w = .ok v w' ∧ K v w'

structure VOther (P : Program) (fr : Fr) (w : World) (o : Oper) (K : Value → World → Prop) : Prop where
  h : ∀ n a, Rep n a fr → ∃ v w', (execOp a.eval o).run P w = .ok (.value v) w' ∧ K v w'

/-- Does it write, make memory or call? -/
def eff (tt : TT) : Op → Bool
  | .store .. | .box .. | .alloc .. | .buildSlice .. | .makeSlice .. => true
  | .call { callee := .builtin .len, .. } => false
  | .call { callee := .builtin .min, .. } => false
  | .call { callee := .builtin .max, .. } => false
  | .call _ => true
  | .convert _ d _ => (match tfind tt d with
    | some ⟨.int _, _, _, _⟩ => false
    | _ => true)
  | .typeAssert .. => true
  | .binOp _ t _ _ _ => (match tfind tt t with
    | some ⟨.array _ _, _, _, _⟩ => true
    | _ => false)
  | _ => false

def isAggV : Value → Bool
  | .agg _ => true
  | _ => false
def isTup : Value → Bool
  | .tuple _ => true
  | _ => false

/-- The zero cells that a literal's slice begins with. -/
def zeroRow : Nat → List Value → List Value
  | 0, _ => []
  | n + 1, z => z ++ zeroRow n z

def ve (P : Program) (tt : TT) (fr : Fr) (w : World) (o : Oper) (K : Value → World → Prop) : Prop :=
  match o.op with
  | .store t x y => ev1 fr x fun a => ev1 fr y fun v => (match a with
    | .pointer (some ⟨b, off, none⟩) => (match tfind tt t with
      | some i => (match isAggV v, isTup v with
        | true, _ => VReq (v.cells.size = i.size ∧ ∀ u ∈ v.cells.toList, u.oneCell' = true) (VStore w b off v.cells.toList false (K undef))
        | false, false => (match Nat.beq i.size 1 with
          | true => VStore w b off [v] true (K undef)
          | false => False)
        | _, _ => False)
      | none => False)
    | _ => False)
  | .box t x => ev1 fr x fun v => VNew w t v.cells.toList (K (.pointer (some ⟨w.heap.size, 0, none⟩)))
  | .alloc t => (match tfind tt t with
    | some i => VNew w t i.zero.cells.toList (K (.pointer (some ⟨w.heap.size, 0, none⟩)))
    | none => False)
  | .buildSlice t len parts => evs fr (seconds parts.toList) fun vs => (match tfind tt t with
    | some ⟨.slice e, _, _, _⟩ => (match tfind tt e with
      | some ei => (match Nat.ble (len * ei.size) 16777216 && Nat.beq ei.zero.cells.toList.length ei.size with
        | true => VFill (lfill (fun i => some (i * ei.size, ei.size)) (zeroRow len ei.zero.cells.toList) (zipNV (firsts parts.toList) vs)) fun cs =>
          VNew w e cs (K (.slice (some ⟨w.heap.size, 0, none⟩) len len))
        | false => False)
      | none => False)
    | _ => False)
  | .makeSlice t l c => ev1 fr l fun l => ev1 fr c fun c => VMake P w t l c K
  | .convert s t x => ev1 fr x fun x => VConv P w s t x K
  | .call c => (match c.callee with
    | .builtin b => evs fr c.args.toList fun vs => (match b, vs with
      | .append, [s, x] => VApp P w c.argTypes o.type s x K
      | .copy, [s, x] => VCopy P w c.argTypes o.type s x K
      | _, _ => False)
    | .value f => ev1 fr f fun fv => evs fr c.args.toList fun vs => (match fv with
      | .func (.func f) first captured => VC P f (first.toList ++ vs ++ captured.toList) w K
      | _ => False)
    | .invoke _ _ => VOther P fr w o K)
  | _ => VOther P fr w o K

def vop (P : Program) (tt : TT) (n : Nat) (o : Oper) (fr : Fr) (w : World) (K : Fr → World → Prop) : Prop :=
  bif eff tt o.op then ve P tt fr w o fun v w' => K (fput n fr o.dst v) w'
  else vq tt (fun a v => w.cell? a = some v) fr o fun v => K (fput n fr o.dst v) w

def gval (ops : List Oper) (fr : Fr) (j : Nat) : Option Value :=
  match ops[j]? with
  | some o => (match o.dst with
    | some d => ffind fr d
    | none => none)
  | none => none

def vops (P : Program) (tt : TT) (n : Nat) (ops : List Oper) : List Oper → (Fr → World → Prop) → Fr → World → Prop
  | [], K, fr, w => K fr w
  | o :: r, K, fr, w => (match o.guard with
    | none => vop P tt n o fr w (vops P tt n ops r K)
    | some (j, want) => (match gval ops fr j with
      | some (.bool b) => (match b, want with
        | true, true => vop P tt n o fr w (vops P tt n ops r K)
        | false, false => vop P tt n o fr w (vops P tt n ops r K)
        | _, _ => vops P tt n ops r K (fput n fr o.dst undef) w)
      | some (.tuple _) => vops P tt n ops r K (fput n fr o.dst undef) w
      | _ => False))

structure VDraw (P : Program) (tt : TT) (n : Nat) (ops : List Oper) (K : Fr → World → Prop) (fr : Fr) (w : World) : Prop where
  h : ∀ (Q : Exit → Act → World → Prop) (a : Act) (id : Nat), Rep n a fr → (∀ fr' a' w', Rep n a' fr' → K fr' w' → Q .normal a' w') → (Code.region id ops.toArray true).wp P Q a w

/-- A loop, from a frame of which this is known. -/
structure VLoop (P : Program) (tt : TT) (n : Nat) (c : Code) (Q : Exit → Fr → World → Prop) (fr : Fr) (w : World) : Prop where
  h : ∀ (Q' : Exit → Act → World → Prop) (a : Act), Rep n a fr → (∀ e fr' a' w', Rep n a' fr' → Q e fr' w' → Q' e a' w') → (Code.loop c).wp P Q' a w

def qthen (Q : Exit → Fr → World → Prop) (k : Fr → World → Prop) (e : Exit) (fr : Fr) (w : World) : Prop :=
  match e with
  | .normal => k fr w
  | e => Q e fr w

def qblock (id : Nat) (Q : Exit → Fr → World → Prop) (e : Exit) (fr : Fr) (w : World) : Prop :=
  match e with
  | .exit id' => bif Nat.beq id' id then Q .normal fr w else Q (.exit id') fr w
  | e => Q e fr w

def vc (P : Program) (tt : TT) (n : Nat) : Code → (Exit → Fr → World → Prop) → Fr → World → Prop
  | .skip, Q, fr, w => Q .normal fr w
  | .region _ ops draw, Q, fr, w => (match draw with
    | false => vops P tt n ops.toList ops.toList (fun fr w => Q .normal fr w) fr w
    | true => VDraw P tt n ops.toList (fun fr w => Q .normal fr w) fr w)
  | .seq a b, Q, fr, w => vc P tt n a (qthen Q (fun fr w => vc P tt n b Q fr w)) fr w
  | .cond c t e, Q, fr, w => ev1 fr c fun v => (match v with
    | .bool b => (match b with
      | true => vc P tt n t Q fr w
      | false => vc P tt n e Q fr w)
    | _ => False)
  | .block id c, Q, fr, w => vc P tt n c (qblock id Q) fr w
  | .loop c, Q, fr, w => VLoop P tt n c Q fr w
  | .exit id, Q, fr, w => Q (.exit id) fr w
  | .label _, Q, fr, w => Q .normal fr w
  | .ret, Q, fr, w => Q .ret fr w
  | _, _, _, _ => False

end Go.Proofs.YtgmopcbfgcagaaaDoor.V
