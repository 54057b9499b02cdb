/-
  Soundness of the transformer: operations that write, make memory or call; regions; code; a function's contract.
-/
import Derived.Test.YtgmopcbfgcagaaaDoorVe
namespace Go.Proofs.YtgmopcbfgcagaaaDoor.V
open Go Go.RowKit

section
variable {P : Program} {tt : TT} {n : Nat} {a : Act} {fr : Fr} {w : World}

theorem heap_setCell_self {w : World} {b : Nat} {e : TypeId} {cs : List Value} (h : Blk w b e cs) (k : Nat) (v : Value) : Blk (w.setCell ⟨b, k, none⟩ v) b e (cs.set k v) := by
  unfold Blk at h ⊢
  simp [World.setCell, Array.getElem?_modify, h]

theorem keep_setCell (w : World) (b k : Nat) (v : Value) : Keep (fun j => j = b) w (w.setCell ⟨b, k, none⟩ v) :=
  ⟨rfl, rfl, rfl, by simp [World.setCell], fun j _ hj => Below.heap_setCell _ _ _ _ hj⟩

theorem frozen_blk {w : World} {b : Nat} {e : TypeId} {cs : List Value} (h : Blk w b e cs) (k : Nat) : w.frozen? ⟨b, k, none⟩ = false := by
  unfold Blk at h
  simp [World.frozen?, h]

theorem store_cells {b off : Nat} {e : TypeId} : ∀ (vs : List Value) (w : World) (cs : List Value) (i : Nat), Blk w b e cs → off + i + vs.length ≤ cs.length → (∀ u ∈ vs, u.oneCell' = true) →
    ∃ w', (storeCells ⟨b, off, none⟩ vs i).run P w = .ok () w' ∧ Blk w' b e (cs.take (off + i) ++ vs ++ cs.drop (off + i + vs.length)) ∧ Keep (fun j => j = b) w w' ∧ w'.heap.size = w.heap.size
  | [], w, cs, i, h, _, _ => ⟨w, by simp [storeCells], by simpa using h, Keep.refl _ _, rfl⟩
  | v :: vs, w, cs, i, h, hl, hone => by
    simp only [List.length_cons] at hl
    have hc : w.cell? ⟨b, off + i, none⟩ = some cs[off + i] := by rw [h.cell]; exact List.getElem?_eq_getElem (by omega)
    have hs : (store (Addr.add ⟨b, off, none⟩ i) v).run P w = .ok () (w.setCell ⟨b, off + i, none⟩ v) := by
      rw [addr_add, run_store P w _ v _ (hone v (by simp)), hc]
      simp [frozen_blk h]
    obtain ⟨w', h1, h2, h3, h4⟩ := store_cells (b := b) (off := off) vs (w.setCell ⟨b, off + i, none⟩ v) (cs.set (off + i) v) (i + 1) (heap_setCell_self h _ _) (by simp; omega) (fun u hu => hone u (by simp [hu]))
    refine ⟨w', ?_, ?_, (keep_setCell _ _ _ _).trans h3, by rw [h4]; simp [World.setCell]⟩
    · simp only [storeCells, Sem.run_bind, hs, Result.andThen_ok, h1]
    · have e1 : (cs.set (off + i) v).take (off + (i + 1)) = cs.take (off + i) ++ [v] := by
        rw [show off + (i + 1) = (off + i) + 1 from by omega, List.take_add_one]
        rw [List.take_set_of_le (by omega)]
        simp [List.getElem?_set, show off + i < cs.length from by omega]
      have e2 : (cs.set (off + i) v).drop (off + (i + 1) + vs.length) = cs.drop (off + i + (vs.length + 1)) := by
        rw [List.drop_set_of_lt (by omega)]
        congr 1; omega
      rw [e1, e2] at h2
      simpa [List.append_assoc] using h2

theorem store_run (htt : TOk P tt) {t : Nat} {i : TI} (hi : tfind tt t = some i) {b off : Nat} {v : Value} {K : World → Prop} (one : Bool)
    (hsz : v.cells.size = i.size) (hone : ∀ u ∈ v.cells.toList, u.oneCell' = true) (hv : one = true → v.cells.toList = [v])
    (h : VStore w b off v.cells.toList one K) : ∃ w', K w' ∧ (Instr.storeAt t (.pointer (some ⟨b, off, none⟩)) v).run P w = .ok () w' := by
  obtain ⟨cs, e, hb, hl, hk⟩ := h.h
  obtain ⟨w', h1, h2, h3, h4⟩ := store_cells (P := P) (b := b) (off := off) v.cells.toList w cs 0 hb (by simpa using hl) hone
  have e1 := htt.sizeOf hi w
  refine ⟨w', hk w' ?_ h3 h4, ?_⟩
  · simp only [Nat.add_zero] at h2
    cases one with
    | false => exact h2
    | true =>
      have e := hv rfl
      rw [e] at h2 hl ⊢
      simp only [List.length_cons, List.length_nil] at h2 hl
      have : cs.take off ++ [v] ++ cs.drop (off + (0 + 1)) = cs.set off v := by
        rw [List.set_eq_take_append_cons_drop, if_pos (by omega)]
        simp
      rw [this] at h2
      exact h2
  · simp [Instr.storeAt, Instr.sureAddr, storeVar, e1, hsz, h1]

theorem new_run (e : TypeId) (cs : Array Value) {K : World → Prop} (h : VNew w e cs.toList K) : ∃ w', K w' ∧ (newRow e cs).run P w = .ok ⟨w.heap.size, 0, none⟩ w' := by
  refine ⟨{ w with heap := w.heap.push (.cells cs e) }, h.h _ ?_ ?_, by simp [newRow]⟩
  · simp [Blk]
  · exact ⟨rfl, rfl, rfl, by simp, fun k hk _ => by simp [Array.getElem?_push, Nat.ne_of_lt hk]⟩

/-- What the run of an operation comes to: a value, nothing, or a call that returns. -/
def EU (P : Program) (N : Value → World → Prop) : Result Next → Prop
  | .ok (.value v) w' => N v w'
  | .ok .skip w' => N undef w'
  | .ok (.enter f args) w' => Calls P f args w' fun e w'' => match e with
    | .returned v => N v w''
    | _ => False
  | _ => False

theorem EU.wp {o : Oper} {K : Value → World → Prop} (h : EU P K ((execOp a.eval o).run P w)) {next : Act → World → Prop} {Q : Exit → Act → World → Prop}
    (hK : ∀ v w', K v w' → next (a.put o.dst v) w') : o.wp P a w next Q := by
  unfold Oper.wp
  generalize (execOp a.eval o).run P w = r at h
  unfold EU at h
  split at h
  · exact hK _ _ h
  · exact hK _ _ h
  · refine Calls.mono h fun e w' he => ?_
    cases e with
    | returned v => exact hK _ _ he
    | panicked c => exact he.elim
    | outgrown => exact he.elim
  · exact h.elim

theorem EU.mono {N N' : Value → World → Prop} (hn : ∀ v w, N v w → N' v w) {r : Result Next} (h : EU P N r) : EU P N' r := by
  unfold EU at *
  split at h
  · exact hn _ _ h
  · exact hn _ _ h
  · refine Calls.mono h fun e w' he => ?_
    cases e with
    | returned v => exact hn _ _ he
    | panicked c => exact he.elim
    | outgrown => exact he.elim
  · exact h.elim

theorem ve_upon (htt : TOk P tt) (hr : Rep n a fr) {o : Oper} {K : Value → World → Prop} (h : ve P tt fr w o K) : EU P K ((execOp a.eval o).run P w) := by
  obtain ⟨dst, op, ty, pos, after, gd⟩ := o
  have fin : ∀ s : Sem Value, (∃ v w', K v w' ∧ s.run P w = .ok v w') → ∃ v w', K v w' ∧ (do pure (Next.value (← s)) : Sem Next).run P w = .ok (.value v) w' := by
    rintro s ⟨v, w', hk, hs⟩
    exact ⟨v, w', hk, by simp [hs]⟩
  have done : (∃ v w', K v w' ∧ (execOp a.eval ⟨dst, op, ty, pos, after, gd⟩).run P w = .ok (.value v) w') → EU P K ((execOp a.eval ⟨dst, op, ty, pos, after, gd⟩).run P w) := by
    rintro ⟨v, w', hk, hs⟩
    rw [hs]
    exact hk
  have other : VOther P fr w ⟨dst, op, ty, pos, after, gd⟩ K → EU P K ((execOp a.eval ⟨dst, op, ty, pos, after, gd⟩).run P w) := by
    intro h
    obtain ⟨v, w', hs, hk⟩ := h.h n a hr
    exact done ⟨v, w', hk, hs⟩
  cases op with
  | store t x y =>
    obtain ⟨u, hu, h⟩ := ev1_elim h
    obtain ⟨v, hv, h⟩ := ev1_elim h
    have fin2 : (∃ w', K undef w' ∧ (Instr.storeAt t u v).run P w = .ok () w') → EU P K ((execOp a.eval ⟨dst, .store t x y, ty, pos, after, gd⟩).run P w) := by
      rintro ⟨w', hk, hs⟩
      have : (execOp a.eval ⟨dst, .store t x y, ty, pos, after, gd⟩).run P w = .ok .skip w' := by
        simp [execOp, hr.evo hu, hr.evo hv, hs]
      rw [this]
      exact hk
    split at h
    · split at h
      · rename_i hi
        split at h
        · obtain ⟨⟨hsz, hone⟩, h⟩ := h
          exact fin2 (store_run htt hi false hsz hone (by simp) h)
        · rename_i h1 h2
          split at h <;> first | exact h.elim | skip
          rename_i hsz0
          have hsz := Nat.eq_of_beq_eq_true hsz0
          have hc : v.cells = #[v] := by cases v <;> first | rfl | simp [isAggV] at h1
          have ho : v.oneCell' = true := by cases v <;> first | rfl | (simp [isAggV] at h1; done) | (simp [isTup] at h2; done)
          refine fin2 (store_run htt hi true (by rw [hc, hsz]; rfl) (by rw [hc]; simpa using ho) (fun _ => by rw [hc]) ?_)
          rw [hc]
          exact h
        · exact h.elim
      · exact h.elim
    · exact h.elim
  | box t x =>
    obtain ⟨v, hv, h⟩ := ev1_elim h
    obtain ⟨w', hk, hs⟩ := new_run (P := P) t v.cells h
    refine done ?_
    simp only [execOp, hr.evo hv]
    exact fin _ ⟨_, w', hk, by simp [Instr.box, newVar, hs]⟩
  | alloc t =>
    simp only [ve] at h
    split at h
    · rename_i i hi
      obtain ⟨w', hk, hs⟩ := new_run (P := P) t i.zero.cells h
      have e1 := htt.zeroValue hi w
      refine done ?_
      simp only [execOp]
      exact fin _ ⟨_, w', hk, by simp [Instr.alloc, e1, newVar, hs]⟩
    · exact h.elim
  | buildSlice t len parts =>
    have h2 := evs_elim hr h
    have hparts : (parts.map fun x => (x.1, a.eval x.2)).toList = zipNV (firsts parts.toList) ((seconds parts.toList).map a.eval) := by
      rw [Array.toList_map, zipNV_eq]
    have zr : ∀ (m : Nat) (z : List Value), ((List.range (m * z.length)).map fun i => z.toArray[i % z.toArray.size]!) = zeroRow m z := by
      intro m z
      induction m with
      | zero => simp [zeroRow]
      | succ m ih =>
        show _ = z ++ zeroRow m z
        rw [← ih]
        apply List.ext_getElem?
        intro i
        by_cases hz : z.length = 0
        · have : z = [] := List.eq_nil_of_length_eq_zero hz
          subst this
          simp
        · have hp : 0 < z.length := by omega
          by_cases hi : i < z.length
          · rw [List.getElem?_append_left hi]
            rw [List.getElem?_map, List.getElem?_range (by rw [Nat.succ_mul]; omega)]
            simp [Nat.mod_eq_of_lt hi, hi]
          · rw [List.getElem?_append_right (by omega)]
            by_cases hi2 : i < (m + 1) * z.length
            · rw [List.getElem?_map, List.getElem?_range hi2, List.getElem?_map, List.getElem?_range (by rw [Nat.succ_mul] at hi2; omega)]
              have : (i - z.length) % z.length = i % z.length := by
                conv => rhs; rw [show i = (i - z.length) + z.length from by omega]
                simp
              simp [this]
            · rw [List.getElem?_eq_none (by simp; omega), List.getElem?_eq_none (by simp; rw [Nat.succ_mul] at hi2; omega)]
    refine done ?_
    simp only [execOp]
    refine fin _ ?_
    split at h2
    · rename_i e _ _ _ hi
      split at h2
      · rename_i ei hei
        split at h2 <;> first | exact h2.elim | skip
        rename_i hlim0
        rw [Bool.and_eq_true] at hlim0
        have hlim : len * ei.size ≤ 2 ^ 24 := by simpa using Nat.le_of_ble_eq_true hlim0.1
        have hzs : ei.zero.cells.size = ei.size := by simpa using Nat.eq_of_beq_eq_true hlim0.2
        obtain ⟨cs, hf0, h⟩ := h2.h
        have hf := lfill_eq _ _ _ _ hf0
        obtain ⟨w', hk, hs⟩ := new_run (P := P) e cs.toArray h
        have e1 := htt.und hi w
        have e2 := htt.sizeOf hei w
        have e3 := htt.zeroValue hei w
        refine ⟨_, w', hk, ?_⟩
        have hl : ¬ (len * ei.size > 2 ^ 24) := by omega
        have hlz : ei.zero.cells.toList.length = ei.size := by simpa using hzs
        have hzr := zr len ei.zero.cells.toList
        rw [hlz] at hzr
        rw [← hzr] at hf
        have hmapr : ((List.range (len * ei.size)).map fun i => ei.zero.cells.toList.toArray[i % ei.zero.cells.toList.toArray.size]!).toArray = (Array.range (len * ei.size)).map fun i => ei.zero.cells[i % ei.zero.cells.size]! := by
          apply Array.toList_inj.1
          simp
        rw [hmapr] at hf
        by_cases h0 : len * ei.size = 0
        · have e0 : ∀ f : Nat → Value, (Array.range 0).map f = #[] := by intro f; simp
          rw [h0, e0] at hf
          have hl0 : ¬ (0 > 2 ^ 24) := by omega
          simp only [Instr.buildSlice, Sem.run_bind, e1, e2, Result.andThen_ok, hl0, h0, if_true, if_false, Sem.run_pure, hparts, e0, hf, hs, Sem.run_ite]
        · simp only [Instr.buildSlice, Sem.run_bind, e1, e2, e3, Result.andThen_ok, hl, h0, if_false, Sem.run_pure, hparts, hf, hs, Sem.run_ite]
      · exact h2.elim
    · exact h2.elim
  | makeSlice t l c =>
    obtain ⟨u, hu, h⟩ := ev1_elim h
    obtain ⟨v, hv, h⟩ := ev1_elim h
    obtain ⟨x, w', hs, hk⟩ := h.h
    refine done ?_
    simp only [execOp, hr.evo hu, hr.evo hv]
    exact fin _ ⟨x, w', hk, hs⟩
  | convert s t x =>
    obtain ⟨u, hu, h⟩ := ev1_elim h
    obtain ⟨v, w', hs, hk⟩ := h.h
    refine done ?_
    simp only [execOp, hr.evo hu]
    exact fin _ ⟨v, w', hk, hs⟩
  | call c =>
    obtain ⟨callee, args, argTypes⟩ := c
    have ha : ∀ l, args.toList.map a.eval = l → args.map a.eval = l.toArray := by
      intro l hl
      rw [← hl]
      simp [← List.map_toArray]
    cases callee with
    | invoke x m => exact other h
    | builtin b =>
      have h2 := evs_elim hr h
      refine done ?_
      split at h2
      · rename_i hl
        obtain ⟨v, w', hs, hk⟩ := h2.h
        exact ⟨v, w', hk, by simp [execOp, resolve, invoke, builtin, ha _ hl, hs]⟩
      · rename_i hl
        obtain ⟨v, w', hs, hk⟩ := h2.h
        exact ⟨v, w', hk, by simp [execOp, resolve, invoke, builtin, ha _ hl, hs]⟩
      · exact h2.elim
    | value fo =>
      obtain ⟨u, hu, h⟩ := ev1_elim h
      have h2 := evs_elim hr h
      split at h2
      · rename_i f first captured
        obtain ⟨⟨fn, hfn, hname, hbody⟩, hcalls⟩ := h2
        have hargs : first ++ args.map a.eval ++ captured = (first.toList ++ args.toList.map a.eval ++ captured.toList).toArray := by
          rw [ha _ rfl]
          apply Array.toList_inj.1
          simp
        have : (execOp a.eval ⟨dst, .call ⟨.value fo, args, argTypes⟩, ty, pos, after, gd⟩).run P w = .ok (.enter f (first.toList ++ args.toList.map a.eval ++ captured.toList).toArray) w := by
          simp only [execOp, resolve, hr.evo hu, Deferred.ofValue, Sem.run_bind, Sem.run_pure, Result.andThen_ok, invoke, callFunc, run_program, hfn, hname, hbody, Bool.false_eq_true, if_false, hargs]
        rw [this]
        exact hcalls
      · exact h2.elim
  | _ => exact other h

theorem ve_sound (htt : TOk P tt) (hr : Rep n a fr) {o : Oper} {K : Value → World → Prop} (h : ve P tt fr w o K) {next : Act → World → Prop} {Q : Exit → Act → World → Prop}
    (hK : ∀ v w', K v w' → next (a.put o.dst v) w') : o.wp P a w next Q := (ve_upon htt hr h).wp hK

end
end Go.Proofs.YtgmopcbfgcagaaaDoor.V
