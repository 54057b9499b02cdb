/-
  The transformer of one quiet operation is sound, operation by operation.
-/
import Derived.Test.YtgmopcbfgcagaaaDoorVs
namespace Go.Proofs.YtgmopcbfgcagaaaDoor.V
open Go Go.RowKit

section
variable {P : Program} {tt : TT} {n : Nat} {a : Act} {fr : Fr} {w : World} {L : Addr → Value → Prop} {K : Value → Prop}

/-- What the run of an operation that gives a value says. -/
def Gives (P : Program) (W : World → Prop) (s : Sem Value) (K : Value → Prop) : Prop := ∃ v, K v ∧ ∀ w, W w → s.run P w = .ok v w

/-- The worlds in which the loads are as L says. -/
def In (L : Addr → Value → Prop) (w : World) : Prop := ∀ a v, L a v → w.cell? a = some v

theorem q_binOp (htt : TOk P tt) (hr : Rep n a fr) {op : BinOp} {t : TypeId} {x y : Operand} {yt : TypeId}
    {dst : Option Tmp} {ty : TypeId} {pos : String} {after : Array Edge} {gd : Option (Nat × Bool)}
    (h : vq tt L fr ⟨dst, .binOp op t x y yt, ty, pos, after, gd⟩ K) : Gives P (In L) (do eqGuard op t x y (a.eval x) (a.eval y); binOp op t (a.eval x) (a.eval y)) K := by
  simp only [vq] at h
  obtain ⟨u, hu, h⟩ := ev1_elim h
  obtain ⟨v, hv, h⟩ := ev1_elim h
  rw [hr.evo hu, hr.evo hv]
  split at h
  · rename_i k m k' l _
    have hg : ∀ op' w, (eqGuard op' t x y (Value.int k m) (Value.int k' l)).run P w = .ok () w := fun op' w => eqGuard_quiet _ _ _ _ _ _ (by simp) (by simp)
    split at h
    · obtain ⟨r, hk, hrun⟩ := shift_run (P := P) .shl t k k' m l h
      exact ⟨r, hk, fun w _ => by simp [hg, hrun]⟩
    · obtain ⟨r, hk, hrun⟩ := shift_run (P := P) .shr t k k' m l h
      exact ⟨r, hk, fun w _ => by simp [hg, hrun]⟩
    · split at h <;> first | exact h.elim | skip
      rename_i hkk
      have hkk := of_decide_eq_true hkk
      subst hkk
      obtain ⟨r, hk, hrun⟩ := bin_run (P := P) op t k m l h
      exact ⟨r, hk, fun w _ => by simp [hg, hrun]⟩
  · rename_i m l _
    have hg : ∀ op' w, (eqGuard op' t x y (Value.string m) (Value.string l)).run P w = .ok () w := fun op' w => eqGuard_quiet _ _ _ _ _ _ (by simp) (by simp)
    have hb : (m.toList == l.toList) = decide (m = l) := by
      rw [ByteArray.toList_eq, ByteArray.toList_eq]
      obtain ⟨⟨m⟩⟩ := m
      obtain ⟨⟨l⟩⟩ := l
      by_cases e : m = l <;> simp [e]
    split at h
    · exact ⟨_, vcmp_elim h, fun w _ => by simp only [Sem.run_bind, hg, Result.andThen_ok]; simp only [binOp, Op.stringOp, hb, Sem.run_pure]⟩
    · exact ⟨_, vcmp_elim h, fun w _ => by simp only [Sem.run_bind, hg, Result.andThen_ok]; simp only [binOp, Op.stringOp, hb, Sem.run_pure, ne_eq, decide_not]⟩
    · obtain ⟨h1, h⟩ := h
      have h1' : ¬ ((m.size + l.size : Nat) : Int) > IntKind.i64.max := by
        show ¬ _ > (9223372036854775807 : Int)
        omega
      exact ⟨_, h, fun w _ => by simp only [Sem.run_bind, hg, Result.andThen_ok]; simp only [binOp, Op.stringOp, if_neg h1', Sem.run_pure]⟩
    · exact h.elim
  · split at h
    · obtain ⟨b, hk, hrun, hoff, hnil⟩ := equal_nil (P := P) htt h
      have hg : ∀ w, (eqGuard .eql t x y u v).run P w = .ok () w := by
        intro w
        unfold eqGuard
        cases u <;> cases v <;> first
          | rfl
          | (simp [offNumbers] at hoff; done)
          | (have := hnil ⟨rfl, rfl⟩
             cases y <;> simp [isC] at this
             simp)
      refine ⟨_, hk, fun w _ => ?_⟩
      simp only [Sem.run_bind, hg, Result.andThen_ok]
      cases u <;> cases v <;> first
        | (simp [offNumbers] at hoff; done)
        | (simp [binOp, hrun]; done)
    · obtain ⟨b, hk, hrun, hoff, hnil⟩ := equal_nil (P := P) htt h
      have hg : ∀ w, (eqGuard .neq t x y u v).run P w = .ok () w := by
        intro w
        unfold eqGuard
        cases u <;> cases v <;> first
          | rfl
          | (simp [offNumbers] at hoff; done)
          | (have := hnil ⟨rfl, rfl⟩
             cases y <;> simp [isC] at this
             simp)
      refine ⟨_, hk, fun w _ => ?_⟩
      simp only [Sem.run_bind, hg, Result.andThen_ok]
      cases u <;> cases v <;> first
        | (simp [offNumbers] at hoff; done)
        | (simp [binOp, hrun]; done)
    · exact h.elim

theorem addr_add (b o k : Nat) : (⟨b, o, none⟩ : Addr).add k = ⟨b, o + k, none⟩ := by
  unfold Addr.add
  split
  · next h => subst h; rfl
  · rfl

theorem evs_two (hr : Rep n a fr) {xs : List Operand} {K : List Value → Prop} (h : evs fr xs K) : K (xs.map a.eval) := evs_elim hr h

theorem bounds_low (htt : TOk P tt) (lo hi : Option Operand) (N C : Nat) (isS : Bool) (K' : Nat → Nat → Prop) (KK : Int → Int → Prop) (KK1 : Int → Prop) (hK1 : ∀ l, KK1 l → KK l N) (hKK : ∀ l h, KK l h → ∃ l' h' : Nat, (l' : Int) = l ∧ (h' : Int) = h ∧ l' ≤ h' ∧ h' ≤ C ∧ K' l' h')
    (h : evs fr (lo.getD (.const (.int .i64 0)) :: (match hi with | some h => [h] | none => [])) fun bs =>
      match bs with
      | [.int _ l, .int _ h] => KK l h
      | [.int _ l] => KK1 l
      | _ => False) (hr : Rep n a fr) :
    ∃ l h, K' l h ∧ ∀ w, (Instr.sliceBounds isS N C (lo.map a.eval) (hi.map a.eval) none).run P w = .ok (l, h, C) w := by
  have h1 := evs_elim hr h
  cases lo with
  | none =>
    cases hi with
    | none =>
      simp only [Option.getD_none, List.map_cons, List.map_nil, Act.eval] at h1
      obtain ⟨l, h', hl, hh, hlh, hc, hk⟩ := hKK _ _ (hK1 _ h1)
      have hl0 : l = 0 := by omega
      have hn : h' = N := by omega
      subst hl0
      subst hn
      exact ⟨0, h', hk, fun w => by simp [Instr.sliceBounds]⟩
    | some x =>
      simp only [Option.getD_none, List.map_cons, List.map_nil] at h1
      have e0 : a.eval (.const (.int .i64 0)) = .int .i64 0 := rfl
      rw [e0] at h1
      cases hx : a.eval x with
      | int k m =>
        rw [hx] at h1
        obtain ⟨l, h', hl, hh, hlh, hc, hk⟩ := hKK _ _ h1
        have hl0 : l = 0 := by omega
        subst hl0
        refine ⟨0, h', hk, fun w => ?_⟩
        have hb := bounds_run (P := P) (w := w) (a.eval x) k h' (by rw [hx, hh]) C hc (if isS then .sliceAcap else .sliceAlen)
        simp [Instr.sliceBounds, hb]
      | _ => rw [hx] at h1; exact h1.elim
  | some y =>
    cases hi with
    | none =>
      simp only [Option.getD_some, List.map_cons, List.map_nil] at h1
      cases hy : a.eval y with
      | int k m =>
        rw [hy] at h1
        obtain ⟨l, h', hl, hh, hln, hc, hk⟩ := hKK _ _ (hK1 _ h1)
        have hn : h' = N := by omega
        subst hn
        refine ⟨l, h', hk, fun w => ?_⟩
        have hb := bounds_run (P := P) (w := w) (a.eval y) k l (by rw [hy, hl]) h' hln .sliceB
        simp [Instr.sliceBounds, hb]
      | _ => rw [hy] at h1; exact h1.elim
    | some x =>
      simp only [Option.getD_some, List.map_cons, List.map_nil] at h1
      cases hy : a.eval y with
      | int k m =>
        cases hx : a.eval x with
        | int k2 m2 =>
          rw [hy, hx] at h1
          obtain ⟨l, h', hl, hh, hlh, hc, hk⟩ := hKK _ _ h1
          refine ⟨l, h', hk, fun w => ?_⟩
          have hb := bounds_run (P := P) (w := w) (a.eval x) k2 h' (by rw [hx, hh]) C hc (if isS then .sliceAcap else .sliceAlen)
          have hb2 := bounds_run (P := P) (w := w) (a.eval y) k l (by rw [hy, hl]) h' hlh .sliceB
          simp [Instr.sliceBounds, hb, hb2]
        | _ => rw [hy, hx] at h1; exact h1.elim
      | _ => rw [hy] at h1; exact (by cases hx : a.eval x <;> (rw [hx] at h1; exact h1.elim))

theorem vq_sound (htt : TOk P tt) (hr : Rep n a fr) {o : Oper} (h : vq tt L fr o K) :
    ∃ v, K v ∧ ∀ w, In L w → (execOp a.eval o).run P w = .ok (.value v) w := by
  obtain ⟨dst, op, ty, pos, after, gd⟩ := o
  have fin : ∀ s : Sem Value, Gives P (In L) s K → ∃ v, K v ∧ ∀ w, In L w → (do pure (Next.value (← s)) : Sem Next).run P w = .ok (.value v) w := by
    rintro s ⟨v, hk, hs⟩
    exact ⟨v, hk, fun w hw => by simp [hs w hw]⟩
  cases op with
  | move x =>
    obtain ⟨v, hv, hk⟩ := ev1_elim h
    exact ⟨v, hk, fun w hw => by simp [execOp, hr.evo hv]⟩
  | assign x =>
    obtain ⟨v, hv, hk⟩ := ev1_elim h
    exact ⟨v, hk, fun w hw => by simp [execOp, hr.evo hv]⟩
  | pick c x y =>
    obtain ⟨v, hv, h⟩ := ev1_elim h
    cases v <;> first | exact h.elim | skip
    rename_i t
    cases t with
    | true =>
      obtain ⟨v, hv2, hk⟩ := ev1_elim h
      exact ⟨v, hk, fun w hw => by simp [execOp, hr.evo hv, hr.evo hv2, asBool]⟩
    | false =>
      obtain ⟨v, hv2, hk⟩ := ev1_elim h
      exact ⟨v, hk, fun w hw => by simp [execOp, hr.evo hv, hr.evo hv2, asBool]⟩
  | nilCheck x =>
    obtain ⟨v, hv, h⟩ := ev1_elim h
    split at h
    · exact ⟨_, h, fun w hw => by simp [execOp, hr.evo hv]⟩
    · exact ⟨_, h, fun w hw => by simp [execOp, hr.evo hv]⟩
    · exact h.elim
  | load t x =>
    obtain ⟨v, hv, h⟩ := ev1_elim h
    split at h
    · split at h
      · rename_i hi
        have := loadAt_run (P := P) htt hi _ h
        simp only [execOp, hr.evo hv]
        exact fin _ this
      · exact h.elim
    · exact h.elim
  | binOp op t x y yt => exact fin _ (q_binOp htt hr h)
  | unOp op t x =>
    obtain ⟨v, hv, h⟩ := ev1_elim h
    simp only [execOp, hr.evo hv]
    refine fin _ ?_
    split at h
    · exact ⟨_, h, fun w hw => by simp [Op.unary]⟩
    · exact ⟨_, h.h, fun w hw => by simp [Op.unary, Op.intArith]⟩
    · exact ⟨_, h.h, fun w hw => by simp [Op.unary, Op.intBits]⟩
    · exact h.elim
  | convert s d x =>
    obtain ⟨v, hv, h⟩ := ev1_elim h
    simp only [execOp, hr.evo hv]
    refine fin _ ?_
    split at h
    · rename_i h1 h2
      have e1 := htt.und h1
      have e2 := htt.und h2
      exact ⟨_, h.h, fun w hw => by simp [convert, e1, e2, Conv.intToInt]⟩
    · exact h.elim
  | makeInterface t x =>
    obtain ⟨v, hv, h⟩ := ev1_elim h
    simp only [execOp, hr.evo hv]
    refine fin _ ?_
    split at h
    · rename_i i hi
      have e1 := htt.und hi
      cases hu : i.und <;> rw [hu] at h e1 <;> first
        | exact h.elim
        | exact ⟨_, h, fun w hw => by simp [Instr.makeInterface, e1]⟩
    · exact h.elim
  | fieldAddr s x f =>
    obtain ⟨v, hv, h⟩ := ev1_elim h
    simp only [execOp, hr.evo hv]
    refine fin _ ?_
    split at h
    · split at h
      · rename_i hi
        split at h
        · rename_i hf
          split at h
          · rename_i ii hfi
            split at h <;> first | exact h.elim | skip
            rename_i hsz
            have hz : ii.size ≠ 0 := by rw [hsz]; omega
            have hk := h
            have e1 := htt.und hi
            have e2 := htt.sizeOf hfi
            refine ⟨_, hk, fun w hw => ?_⟩
            have hva : ∀ b o k, (⟨b, o, none⟩ : Addr).add k = vaddr ⟨b, o, none⟩ k := fun b o k => add_vaddr ⟨b, o, none⟩ rfl k
            simp [Instr.fieldAt, e1, hf, Instr.sureAddr, fieldPlace, e2, hz, hva]
          · exact h.elim
        · exact h.elim
      · exact h.elim
    · exact h.elim
  | field s x f =>
    obtain ⟨v, hv, h⟩ := ev1_elim h
    simp only [execOp, hr.evo hv]
    refine fin _ ?_
    split at h
    · split at h
      · rename_i hi
        split at h
        · rename_i hf
          split at h
          · rename_i ii hfi
            have e1 := htt.und hi
            have e2 := htt.sizeOf hfi
            have e3 := htt.isAgg hfi
            cases hb : aggT ii.und with
            | true =>
              rw [hb] at h e3
              exact ⟨_, h, fun w hw => by simp [Instr.field, e1, hf, asAgg, part, e3, e2]⟩
            | false =>
              rw [hb] at h e3
              dsimp only at h
              split at h
              · rename_i hc
                exact ⟨_, h, fun w hw => by simp [Instr.field, e1, hf, asAgg, part, e3, hc]⟩
              · exact h.elim
          · exact h.elim
        · exact h.elim
      · exact h.elim
    · exact h.elim
  | indexAddr t x ix =>
    obtain ⟨v, hv, h⟩ := ev1_elim h
    obtain ⟨u, hu, h⟩ := ev1_elim h
    simp only [execOp, hr.evo hv, hr.evo hu]
    refine fin _ ?_
    split at h
    · rename_i k i
      split at h
      · rename_i hi
        split at h
        · split at h
          · rename_i hei
            obtain ⟨b, o, j, rfl, rfl, hj, hk⟩ := h.h
            have e1 := htt.und hi
            have e2 := htt.sizeOf hei
            refine ⟨_, hk, fun w hw => ?_⟩
            simp [Instr.indexAt, asIntOf, e1, e2, hj, addr_add]
          · exact h.elim
        · exact h.elim
      · rename_i hi
        split at h
        · split at h
          · rename_i ad _ _ _ hei
            obtain ⟨j, hsp, rfl, hj, hk⟩ := h.h
            have e1 := htt.und hi
            have e2 := htt.sizeOf hei
            refine ⟨_, hk, fun w hw => ?_⟩
            obtain ⟨b, o, s⟩ := ad
            simp only at hsp
            subst hsp
            simp [Instr.indexAt, Instr.sureAddr, asIntOf, e1, e2, hj, addr_add]
          · exact h.elim
        · exact h.elim
      · exact h.elim
    · exact h.elim
  | index t x ix =>
    obtain ⟨v, hv, h⟩ := ev1_elim h
    obtain ⟨u, hu, h⟩ := ev1_elim h
    simp only [execOp, hr.evo hv, hr.evo hu]
    refine fin _ ?_
    split at h
    · rename_i k i
      split at h
      · rename_i hi
        split at h
        · split at h
          · rename_i ei hei
            have e1 := htt.und hi
            have e2 := htt.sizeOf hei
            have e3 := htt.isAgg hei
            cases hb : aggT ei.und with
            | true =>
              rw [hb] at h e3
              obtain ⟨j, rfl, hj, hk⟩ := h.h
              exact ⟨_, hk, fun w hw => by simp [Instr.index, asIntOf, e1, e2, hj, part, e3]⟩
            | false =>
              rw [hb] at h e3
              obtain ⟨j, v, rfl, hj, hc, hk⟩ := h.h
              exact ⟨_, hk, fun w hw => by simp [Instr.index, asIntOf, e1, e2, hj, part, e3, hc]⟩
          · exact h.elim
        · exact h.elim
      · rename_i hi
        split at h
        · have e1 := htt.und hi
          obtain ⟨j, b, rfl, hj, hk⟩ := h.h
          exact ⟨_, hk, fun w hw => by simp [Instr.index, asIntOf, e1, hj]⟩
        · exact h.elim
      · exact h.elim
    · exact h.elim
  | slice t x lo hi mx =>
    cases mx with
    | some m =>
      cases hi with
      | none => exact h.elim
      | some hi =>
      obtain ⟨v, hv, h⟩ := ev1_elim h
      simp only [execOp, hr.evo hv]
      refine fin _ ?_
      split at h
      · rename_i e _ _ _ hti
        split at h
        · rename_i ei hei
          split at h
          · rename_i A N C
            have e1 := htt.und hti
            have e2 := htt.sizeOf hei
            obtain ⟨vl, hvl, g2⟩ := ev1_elim h
            obtain ⟨vh, hvh, g3⟩ := ev1_elim g2
            obtain ⟨vm, hvm, g4⟩ := ev1_elim g3
            clear h g2 g3
            have f1 := hr.evo hvl
            have f2 := hr.evo hvh
            have f3 := hr.evo hvm
            split at g4
            · rename_i kl l kh hh km mm
              obtain ⟨l', h', m', rfl, rfl, rfl, h1, h2, h3, hk⟩ := g4.h
              refine ⟨_, hk _ rfl, fun w hw => ?_⟩
              have b3 := bounds_run (P := P) (w := w) (a.eval m) km m' (by rw [f3]) C h3 .slice3Acap
              have b2 := bounds_run (P := P) (w := w) (a.eval hi) kh h' (by rw [f2]) m' h2 .slice3B
              cases lo with
              | none =>
                have hl0 : l' = 0 := by
                  have : a.eval (.const (.int .i64 0)) = .int .i64 0 := rfl
                  simp only [Option.getD_none] at f1
                  rw [this] at f1
                  injection f1 with _ f1
                  omega
                subst hl0
                simp [Instr.sliceAt, Instr.slice, Instr.sliceBounds, e1, e2, b3, b2]
              | some y =>
                simp only [Option.getD_some] at f1
                have b1 := bounds_run (P := P) (w := w) (a.eval y) kl l' (by rw [f1]) h' h1 .slice3C
                simp [Instr.sliceAt, Instr.slice, Instr.sliceBounds, e1, e2, b3, b2, b1]
            · exact g4.elim
          · exact h.elim
        · exact h.elim
      · exact h.elim
    | none =>
    obtain ⟨v, hv, h⟩ := ev1_elim h
    simp only [execOp, hr.evo hv]
    refine fin _ ?_
    split at h
    · rename_i e _ _ _ hti
      split at h
      · rename_i ei hei
        split at h
        · rename_i A N C
          have e1 := htt.und hti
          have e2 := htt.sizeOf hei
          obtain ⟨l, hh, hk, hrun⟩ := bounds_low (P := P) htt lo hi N C true (fun l' h' => ∀ A', A' = (if C = l' then A else A.map (·.add (l' * ei.size))) → K (.slice A' (h' - l') (C - l'))) (fun l h => VCut A C l h ei.size K) (fun l => VReq (N ≤ C) (VCut A C l N ei.size K)) (fun _ h => h.h) (fun _ _ h => h.h) h hr
          exact ⟨_, hk _ rfl, fun w hw => by simp [Instr.sliceAt, Instr.slice, e1, e2, hrun]⟩
        · exact h.elim
      · exact h.elim
    · rename_i N e _ _ _ hti
      split at h
      · rename_i ei hei
        split at h
        · rename_i ad
          have e1 := htt.und hti
          have e2 := htt.sizeOf hei
          obtain ⟨l, hh, hk, hrun⟩ := bounds_low (P := P) htt lo hi N N false (fun l' h' => ∀ A', A' = (some (if N = l' then ad else ad.add (l' * ei.size))) → K (.slice A' (h' - l') (N - l'))) (fun l h => VCutA ad N l h ei.size K) (fun l => VCutA ad N l N ei.size K) (fun _ h => h) (fun _ _ h => h.h) h hr
          exact ⟨_, hk _ rfl, fun w hw => by simp [Instr.sliceAt, Instr.sureAddr, e1, e2, hrun]⟩
        · exact h.elim
      · exact h.elim
    · rename_i hti
      split at h
      · rename_i s
        have e1 := htt.und hti
        obtain ⟨l, hh, hk, hrun⟩ := bounds_low (P := P) htt lo hi s.size s.size false (fun l' h' => ∀ x, x = s.extract l' h' → K (.string x)) (fun l h => VCutS s l h K) (fun l => VCutS s l s.size K) (fun _ h => h) (fun _ _ h => h.h) h hr
        exact ⟨_, hk _ rfl, fun w hw => by simp [Instr.sliceAt, Instr.slice, e1, hrun]⟩
      · exact h.elim
    · exact h.elim
  | extract x i =>
    obtain ⟨v, hv, h⟩ := ev1_elim h
    simp only [execOp, hr.evo hv]
    refine fin _ ?_
    split at h
    · split at h
      · rename_i hc
        exact ⟨_, h, fun w hw => by simp [Instr.extract, hc]⟩
      · exact h.elim
    · exact h.elim
  | makeFunc fn first captured =>
    have h2 := evs_elim hr (evs_elim hr h)
    exact ⟨_, h2, fun w hw => by simp [execOp, Instr.makeFunc, ← List.map_toArray]⟩
  | call c =>
    obtain ⟨callee, args, argTypes⟩ := c
    cases callee with
    | value f => exact h.elim
    | invoke f m => exact h.elim
    | builtin b =>
      have h2 := evs_elim hr h
      have ha : ∀ l, args.toList.map a.eval = l → args.map a.eval = l.toArray := by
        intro l hl
        rw [← hl]
        simp [← List.map_toArray]
      cases b with
      | len =>
        dsimp only at h2
        split at h2
        · rename_i t ht
          split at h2
          · rename_i i hi
            have e1 := htt.und hi
            split at h2
            · rename_i hu hl
              rw [hu] at e1
              exact ⟨_, h2, fun w hw => by simp [execOp, resolve, invoke, builtin, ha _ hl, Builtin.len_, ht, e1, goInt]⟩
            · rename_i hu hl
              rw [hu] at e1
              exact ⟨_, h2, fun w hw => by simp [execOp, resolve, invoke, builtin, ha _ hl, Builtin.len_, ht, e1, goInt]⟩
            · rename_i hu hl
              rw [hu] at e1
              exact ⟨_, h2, fun w hw => by simp [execOp, resolve, invoke, builtin, ha _ hl, Builtin.len_, ht, e1, goInt]⟩
            · exact h2.elim
          · exact h2.elim
        · exact h2.elim
      | min =>
        dsimp only at h2
        split at h2
        · rename_i hl
          exact ⟨_, h2.h, fun w hw => by simp [execOp, resolve, invoke, builtin, ha _ hl, Builtin.min_, Builtin.min2]⟩
        · exact h2.elim
      | max =>
        dsimp only at h2
        split at h2
        · rename_i hl
          exact ⟨_, h2.h, fun w hw => by simp [execOp, resolve, invoke, builtin, ha _ hl, Builtin.max_, Builtin.max2]⟩
        · exact h2.elim
      | _ => exact h2.elim
  | build t parts =>
    have h2 := evs_elim hr h
    have hparts : (parts.map fun x => (x.1, a.eval x.2)).toList = zipNV (firsts parts.toList) ((seconds parts.toList).map a.eval) := by
      rw [Array.toList_map, zipNV_eq]
    simp only [execOp]
    refine fin _ ?_
    split at h2
    · rename_i i hi
      have e1 := htt.und hi
      have e2 := htt.zeroValue hi
      split at h2
      · rename_i fields hu
        rw [hu] at e1
        split at h2 <;> first | exact h2.elim | skip
        rename_i hall0
        have hall : ∀ f ∈ fields, (tfind tt f.type).isSome = true := by
          intro f hf
          exact allFound_spec _ hall0 f (by simpa using hf)
        obtain ⟨cs, hf0, hk⟩ := h2.h
        have hf := lfill_eq _ _ _ _ hf0
        have hpl : (fun j : Nat => (fieldPlaces tt fields.toList)[j]?) = ((fields.map fun f => (f.offset, ((tfind tt f.type).map (·.size)).getD 0))[·]?) := by
          funext j
          rw [places_eq _ (fun f hf => hall f (by simpa using hf))]
          simp
        rw [hpl] at hf
        have hmap : ∀ (l : List Field), (∀ f ∈ l, (tfind tt f.type).isSome = true) → ∀ w, (l.mapM fun f => (Prod.mk f.offset <$> sizeOf f.type : Sem (Nat × Nat))).run P w = .ok (l.map fun f => (f.offset, ((tfind tt f.type).map (·.size)).getD 0)) w := by
          intro l
          induction l with
          | nil => intro _ _; simp
          | cons f l ih =>
            intro hl w
            have hs := hl f (by simp)
            obtain ⟨fi, hfi⟩ := Option.isSome_iff_exists.1 hs
            have ih' := ih (fun g hg => hl g (by simp [hg]))
            have e3 := htt.sizeOf hfi
            simp [List.mapM_cons, e3, hfi, ih']
        have hm : ∀ w, (fields.mapM fun f => (Prod.mk f.offset <$> sizeOf f.type : Sem (Nat × Nat))).run P w = .ok (fields.map fun f => (f.offset, ((tfind tt f.type).map (·.size)).getD 0)) w := by
          intro w
          rw [Array.mapM_eq_mapM_toList]
          have := hmap fields.toList (fun f hf => hall f (by simpa using hf))
          simp [this, ← List.map_toArray]
        refine ⟨_, hk, fun w hw => ?_⟩
        simp only [Instr.build, Sem.run_bind, e1, e2, Result.andThen_ok, bind_pure_comp, hm, hparts, hf, Sem.run_pure]
      · rename_i len e hu
        rw [hu] at e1
        split at h2
        · rename_i ei hei
          have e3 := htt.sizeOf hei
          obtain ⟨cs, hf0, hk⟩ := h2.h
          have hf := lfill_eq _ _ _ _ hf0
          refine ⟨_, hk, fun w hw => ?_⟩
          simp only [Instr.build, Sem.run_bind, e1, e2, Result.andThen_ok, e3, hparts, hf, Sem.run_pure]
        · exact h2.elim
      · exact h2.elim
    · exact h2.elim
  | _ => exact h.elim

end
end Go.Proofs.YtgmopcbfgcagaaaDoor.V
