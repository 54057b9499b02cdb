/-
  A region whose order is drawn: one walk along a plan serves every order, if the plan stands a test that is reckoned; loads are asked for a class of worlds that the region's effects do not leave.
-/
import Derived.Test.YtgmopcbfgcagaaaDoorVg
namespace Go.Proofs.YtgmopcbfgcagaaaDoor.V
open Go Go.RowKit

inductive Plan where
  | done
  | take (i : Nat) (p : Plan)
  | one (i : Nat) (p : Plan)
  | two (i : Nat) (p : Plan) (j : Nat) (q : Plan)

def isLoad : Op → Bool
  | .load .. => true
  | _ => false

/-- Is there a load that this operation does not wait for? -/
def owes (ops : Array Oper) (j : Nat) : Bool :=
  match ops[j]? with
  | none => false
  | some oj => (List.range ops.size).any fun i => i != j && ((ops[i]?).map (fun o => isLoad o.op)).getD false && !oj.after.any fun e => Region.binds .any e && e.on == i

def cert (ops : Array Oper) : Plan → Array Bool → Bool
  | .done, listed => (Region.ready .any ops listed).isEmpty
  | .take i p, listed => (Region.ready .any ops listed).contains i && Region.free .any ops listed i && cert ops p (listed.setIfInBounds i true)
  | .one i p, listed => Region.ready .any ops listed == [i] && cert ops p (listed.setIfInBounds i true)
  | .two i p j q, listed => Region.ready .any ops listed == [i, j] && cert ops p (listed.setIfInBounds i true) && cert ops q (listed.setIfInBounds j true)

def Plan.size : Plan → Nat
  | .done => 0
  | .take _ p => p.size + 1
  | .one _ p => p.size + 1
  | .two _ p _ q => max p.size q.size + 1

section
variable {P : Program} {ops : Array Oper}

/-- Operation i comes up, the worlds known to be of class C. -/
def cOp (P : Program) (ops : Array Oper) (i : Nat) (C : World → Prop) (K : (World → Prop) → Act → World → Prop) (a : Act) (w : World) : Prop :=
  match ops[i]? with
  | none => False
  | some o => if Region.wanted o (yielded ops a.tmps) then EU P (fun v w' => ∃ C' : World → Prop, (owes ops i = true → ∀ x, C' x → C x) ∧ C' w' ∧ K C' (a.put o.dst v) w') ((execOp a.eval o).run P w)
    else K C (a.put o.dst undef) w

def cAny (P : Program) (ops : Array Oper) (Q : Act → World → Prop) : Nat → Array Bool → (World → Prop) → Act → World → Prop
  | 0, listed, _, a, w => Region.ready .any ops listed = [] ∧ Q a w
  | fuel + 1, listed, C, a, w => (Region.ready .any ops listed = [] → Q a w) ∧
    ∀ i ∈ Region.ready .any ops listed, cOp P ops i C (cAny P ops Q fuel (listed.setIfInBounds i true)) a w

theorem cOp_mono {i : Nat} {C : World → Prop} {K K' : (World → Prop) → Act → World → Prop} {a : Act} {w : World} (hC : C w) (h : ∀ C a w, C w → K C a w → K' C a w) (hh : cOp P ops i C K a w) : cOp P ops i C K' a w := by
  unfold cOp at *
  split
  · rename_i ho; simp only [ho] at hh
  · rename_i o ho
    simp only [ho] at hh
    split
    · rename_i hw
      simp only [hw, if_true] at hh
      exact hh.mono fun v w ⟨C', h1, h2, h3⟩ => ⟨C', h1, h2, h _ _ _ h2 h3⟩
    · rename_i hw
      simp only [hw] at hh
      exact h _ _ _ hC hh

theorem cAny_sound {Q : Act → World → Prop} {Q' : Exit → Act → World → Prop} (hQ : ∀ a w, Q a w → Q' .normal a w) : ∀ (fuel : Nat) (listed : Array Bool) (C : World → Prop) (a : Act) (w : World),
    cAny P ops Q fuel listed C a w → wpAny P .any ops Q' fuel listed a w
  | 0, _, _, _, _, h => ⟨h.1, hQ _ _ h.2⟩
  | fuel + 1, listed, C, a, w, h => by
    refine ⟨fun h0 => hQ _ _ (h.1 h0), fun i hi => ?_⟩
    have h1 := h.2 i hi
    unfold cOp at h1
    unfold wpOp
    split
    · rename_i ho; simp only [ho] at h1
    · rename_i o ho
      simp only [ho] at h1
      split
      · rename_i hw
        simp only [hw, if_true] at h1
        exact .inl (h1.wp fun v w' ⟨C', _, _, h3⟩ => cAny_sound hQ fuel _ _ _ _ h3)
      · rename_i hw
        simp only [hw] at h1
        exact cAny_sound hQ fuel _ _ _ _ h1

/-- In whatever world of class D the operation gives v (or is passed over). -/
def YC (P : Program) (ops : Array Oper) (D : World → Prop) (o : Oper) (v : Value) (a : Act) : Prop :=
  (Region.wanted o (yielded ops a.tmps) = true ∧ ∀ w, D w → (execOp a.eval o).run P w = .ok (.value v) w) ∨ (Region.wanted o (yielded ops a.tmps) = false ∧ v = undef)

theorem YC.of_same {D : World → Prop} {o : Oper} {v : Value} {a a' : Act} (hy : YC P ops D o v a) (he : execOp a'.eval o = execOp a.eval o)
    (hw : Region.wanted o (yielded ops a'.tmps) = Region.wanted o (yielded ops a.tmps)) : YC P ops D o v a' := by
  unfold YC at *
  rw [he, hw]
  exact hy

theorem YC.sub {D D' : World → Prop} {o : Oper} {v : Value} {a : Act} (hy : YC P ops D o v a) (h : ∀ x, D' x → D x) : YC P ops D' o v a := by
  rcases hy with ⟨h1, h2⟩ | h1
  · exact .inl ⟨h1, fun w hw => h2 w (h w hw)⟩
  · exact .inr h1

theorem YC.cOp {D C : World → Prop} {i : Nat} {o : Oper} {v : Value} {a : Act} {w : World} (hi : ops[i]? = some o) (hy : YC P ops D o v a) (hD : D w) (hC : C w) {K : (World → Prop) → Act → World → Prop} (h : K C (a.put o.dst v) w) : cOp P ops i C K a w := by
  unfold V.cOp
  simp only [hi]
  rcases hy with ⟨hw, hv⟩ | ⟨hw, rfl⟩
  · simp only [hw, if_true, hv w hD, EU]
    exact ⟨C, fun _ _ h => h, hC, h⟩
  · simp only [hw, Bool.false_eq_true, if_false]
    exact h

theorem cOp_put {j : Nat} {oi oj : Oper} {v : Value} {D : World → Prop} (hj : ops[j]? = some oj) (hap : oi.apart ops oj = true)
    (hsi : ∀ cs b, oi.op ≠ .select cs b) (hsj : ∀ cs b, oj.op ≠ .select cs b) {C : World → Prop} {K : (World → Prop) → Act → World → Prop} {a : Act} {w : World}
    (hy : YC P ops D oi v a) (h : cOp P ops j C K (a.put oi.dst v) w) :
    cOp P ops j C (fun C' a' w' => YC P ops D oi v a' ∧ (owes ops j = true → ∀ x, C' x → C x) ∧ K C' (a'.put oi.dst v) w') a w := by
  obtain ⟨h1, h2, h3⟩ := Oper.apart_spec hap
  have keep : ∀ (a : Act), YC P ops D oi v a → ∀ u, YC P ops D oi v (a.put oj.dst u) := fun a hy u =>
    hy.of_same (execOp_put oi hsi a oj.dst u h3) (wanted_put oi a oj.dst u h3)
  unfold cOp at *
  simp only [hj] at *
  rw [wanted_put oj a oi.dst v h1] at h
  split
  · rename_i hw
    simp only [hw, if_true] at h
    rw [execOp_put oj hsj a oi.dst v h1] at h
    refine h.mono fun u w' ⟨C', hc1, hc2, hk⟩ => ⟨C', hc1, hc2, keep a hy u, hc1, ?_⟩
    rw [← Act.put_comm a v u h2]
    exact hk
  · rename_i hw
    simp only [hw] at h
    exact ⟨keep a hy _, fun _ _ h => h, by rw [← Act.put_comm a v undef h2]; exact h⟩

theorem owes_of_load {i j : Nat} {oi oj : Oper} (hi : ops[i]? = some oi) (hj : ops[j]? = some oj) (hne : j ≠ i) (hl : isLoad oi.op = true) (hno : ∀ e ∈ oj.after, Region.binds .any e = true → e.on ≠ i) : owes ops j = true := by
  unfold owes
  simp only [hj]
  refine List.any_eq_true.2 ⟨i, List.mem_range.2 (Array.getElem?_eq_some_iff.1 hi).1, ?_⟩
  simp only [hi, Option.map_some, Option.getD_some, hl, Bool.and_true, Bool.and_eq_true, bne_iff_ne, ne_eq, Bool.not_eq_true', Array.any_eq_false]
  refine ⟨fun e => hne e.symm, ?_⟩
  intro k hk
  have := hno oj.after[k] (Array.getElem_mem hk)
  simp only [Bool.and_eq_true, beq_iff_eq, not_and]
  exact this

/-- A quiet operation that may come up may be taken first. -/
theorem cAny_first {Q : Act → World → Prop} {i : Nat} {oi : Oper} {v : Value} (hi : ops[i]? = some oi) (hsel : ∀ (j : Nat) (o : Oper) cs b, ops[j]? = some o → o.op ≠ .select cs b) :
    ∀ (fuel : Nat) (listed : Array Bool) (C D : World → Prop) (a : Act) (w : World),
      (∀ j oj, ops[j]? = some oj → j ≠ i → listed.getD j true = false → (∀ e ∈ oj.after, Region.binds .any e = true → e.on ≠ i) → oi.apart ops oj = true) →
      i ∈ Region.ready .any ops listed → C w → (∀ x, C x → D x) → (isLoad oi.op = false → ∀ x, D x) → YC P ops D oi v a →
      cAny P ops Q fuel (listed.setIfInBounds i true) C (a.put oi.dst v) w → cAny P ops Q (fuel + 1) listed C a w := by
  intro fuel
  induction fuel with
  | zero =>
    intro listed C D a w _ hr hCw hCD _ hy H
    refine ⟨fun h => (by rw [h] at hr; cases hr), fun j hj => ?_⟩
    by_cases hji : j = i
    · subst hji; exact hy.cOp hi (hCD _ hCw) hCw H
    · have := ready_mono hj hji
      rw [H.1] at this
      cases this
  | succ fuel ih =>
    intro listed C D a w hfree hr hCw hCD hpure hy H
    refine ⟨fun h => (by rw [h] at hr; cases hr), fun j hj => ?_⟩
    by_cases hji : j = i
    · subst hji; exact hy.cOp hi (hCD _ hCw) hCw H
    · have h1 := H.2 j (ready_mono hj hji)
      obtain ⟨hjun, oj, hoj, hall⟩ := mem_ready.1 hj
      have hnot : ∀ e ∈ oj.after, Region.binds .any e = true → e.on ≠ i := fun e he hb heq => by
        have h1 := hall e he hb
        have h0 := (mem_ready.1 hr).1
        rw [heq] at h1
        rcases Nat.lt_or_ge i listed.size with h' | h'
        · simp [h'] at h0 h1; rw [h0] at h1; cases h1
        · simp [Array.getElem?_eq_none h'] at h1
      have h2 := cOp_put hoj (hfree j oj hoj hji hjun hnot) (fun cs b => hsel i oi cs b hi) (fun cs b => hsel j oj cs b hoj) hy h1
      have hfree' : ∀ k ok, ops[k]? = some ok → k ≠ i → (listed.setIfInBounds j true).getD k true = false →
          (∀ e ∈ ok.after, Region.binds .any e = true → e.on ≠ i) → oi.apart ops ok = true := fun k ok hk hki hun hno => by
        refine hfree k ok hk hki ?_ hno
        by_cases hjk : j = k
        · subst hjk; exact hjun
        · rw [getD_set_ne true hjk] at hun; exact hun
      refine cOp_mono hCw (fun C' a' w' hC' h3 => ?_) h2
      have hCD' : ∀ x, C' x → D x := by
        cases hl : isLoad oi.op with
        | true => exact fun x hx => hCD x (h3.2.1 (owes_of_load hi hoj hji hl hnot) x hx)
        | false => exact fun x _ => hpure hl x
      refine ih (listed.setIfInBounds j true) C' D a' w' hfree' (ready_mono hr (Ne.symm hji)) hC' hCD' hpure h3.1 ?_
      rw [Array.setIfInBounds_comm _ _ hji]
      exact h3.2.2

end
/-- What is owed behind an effect: a class of worlds in which the loads still stand. -/
structure VOwe (b : Bool) (C : World → Prop) (w : World) (K : (World → Prop) → Prop) : Prop where
  h : ∃ C' : World → Prop, (b = true → ∀ x, C' x → C x) ∧ C' w ∧ K C'

theorem VOwe.same {b : Bool} {C : World → Prop} {w : World} {K : (World → Prop) → Prop} (h1 : C w) (h2 : K C) : VOwe b C w K := ⟨C, fun _ _ h => h, h1, h2⟩
theorem VOwe.to {b : Bool} {C : World → Prop} {w : World} {K : (World → Prop) → Prop} (C' : World → Prop) (h0 : b = true → ∀ x, C' x → C x) (h1 : C' w) (h2 : K C') : VOwe b C w K := ⟨C', h0, h1, h2⟩

structure VBoth (A B : Prop) : Prop where
  a : A
  b : B

def vwant (ops : List Oper) (fr : Fr) (o : Oper) (A B : Prop) : Prop :=
  match o.guard with
  | none => A
  | some (j, want) => (match gval ops fr j with
    | some (.bool b) => (match b, want with
      | true, true => A
      | false, false => A
      | _, _ => B)
    | some (.tuple _) => B
    | _ => False)

def vdp (P : Program) (tt : TT) (n : Nat) (ops : List Oper) (K : Fr → World → Prop) : Plan → (World → Prop) → Fr → World → Prop
  | .done, _, fr, w => K fr w
  | .take i p, C, fr, w => (match ops[i]? with
    | some o => vwant ops fr o (bif eff tt o.op then False else vq tt (fun a v => ∀ x, C x → x.cell? a = some v) fr o fun v => vdp P tt n ops K p C (fput n fr o.dst v) w) (vdp P tt n ops K p C (fput n fr o.dst undef) w)
    | none => False)
  | .one i p, C, fr, w => (match ops[i]? with
    | some o => vwant ops fr o (bif eff tt o.op then ve P tt fr w o fun v w' => VOwe (owes ops.toArray i) C w' fun C' => vdp P tt n ops K p C' (fput n fr o.dst v) w'
        else vq tt (fun a v => w.cell? a = some v) fr o fun v => vdp P tt n ops K p C (fput n fr o.dst v) w) (vdp P tt n ops K p C (fput n fr o.dst undef) w)
    | none => False)
  | .two i p j q, C, fr, w => VBoth
    (match ops[i]? with
    | some o => vwant ops fr o (bif eff tt o.op then ve P tt fr w o fun v w' => VOwe (owes ops.toArray i) C w' fun C' => vdp P tt n ops K p C' (fput n fr o.dst v) w'
        else vq tt (fun a v => w.cell? a = some v) fr o fun v => vdp P tt n ops K p C (fput n fr o.dst v) w) (vdp P tt n ops K p C (fput n fr o.dst undef) w)
    | none => False)
    (match ops[j]? with
    | some o => vwant ops fr o (bif eff tt o.op then ve P tt fr w o fun v w' => VOwe (owes ops.toArray j) C w' fun C' => vdp P tt n ops K q C' (fput n fr o.dst v) w'
        else vq tt (fun a v => w.cell? a = some v) fr o fun v => vdp P tt n ops K q C (fput n fr o.dst v) w) (vdp P tt n ops K q C (fput n fr o.dst undef) w)
    | none => False)

section
variable {P : Program} {tt : TT} {n : Nat} {ops : List Oper}

theorem vwant_elim {a : Act} {fr : Fr} (hr : Rep n a fr) {o : Oper} {A B : Prop} (h : vwant ops fr o A B) :
    (Region.wanted o (yielded ops.toArray a.tmps) = true ∧ A) ∨ (Region.wanted o (yielded ops.toArray a.tmps) = false ∧ B) := by
  unfold vwant at h
  cases hg : o.guard with
  | none =>
    rw [hg] at h
    exact .inl ⟨by simp [Region.wanted, hg], h⟩
  | some g =>
    obtain ⟨j, want⟩ := g
    rw [hg] at h
    dsimp only at h
    split at h
    · rename_i b hv
      have hy := gval_yielded hr hv
      dsimp only [asB] at hy
      cases b <;> cases want <;> dsimp only at h
      · exact .inl ⟨by simp [Region.wanted, hg, hy], h⟩
      · exact .inr ⟨by simp [Region.wanted, hg, hy], h⟩
      · exact .inr ⟨by simp [Region.wanted, hg, hy], h⟩
      · exact .inl ⟨by simp [Region.wanted, hg, hy], h⟩
    · rename_i hv
      have hy := gval_yielded hr hv
      dsimp only [asB] at hy
      exact .inr ⟨by simp [Region.wanted, hg, hy], h⟩
    · exact h.elim

/-- An operation that is no load gives its value whatever memory holds. -/
theorem vq_pure {L L' : Addr → Value → Prop} {fr : Fr} {o : Oper} {K : Value → Prop} (hl : isLoad o.op = false) (h : vq tt L fr o K) : vq tt L' fr o K := by
  obtain ⟨dst, op, ty, pos, after, gd⟩ := o
  cases op with
  | load t x => cases hl
  | slice t x lo hi mx =>
    cases mx with
    | none => exact h
    | some m =>
      cases hi with
      | none => exact h
      | some hi => exact h
  | _ => exact h

theorem one_sound (htt : TOk P tt) {a : Act} {fr : Fr} {w : World} {C : World → Prop} (hr : Rep n a fr) (hC : C w) {i : Nat} {o : Oper} (hi : ops.toArray[i]? = some o) {K : (World → Prop) → Fr → World → Prop} {K' : (World → Prop) → Act → World → Prop}
    (hK : ∀ C fr a w, Rep n a fr → C w → K C fr w → K' C a w)
    (h : vwant ops fr o (bif eff tt o.op then ve P tt fr w o fun v w' => VOwe (owes ops.toArray i) C w' fun C' => K C' (fput n fr o.dst v) w'
        else vq tt (fun a v => w.cell? a = some v) fr o fun v => K C (fput n fr o.dst v) w) (K C (fput n fr o.dst undef) w)) : cOp P ops.toArray i C K' a w := by
  unfold cOp
  simp only [hi]
  rcases vwant_elim hr h with ⟨hw, h⟩ | ⟨hw, h⟩
  · simp only [hw, if_true]
    cases he : eff tt o.op with
    | true =>
      simp only [he, cond_true] at h
      refine (ve_upon htt hr h).mono fun v w' hv => ?_
      obtain ⟨C', h1, h2, h3⟩ := hv.h
      exact ⟨C', h1, h2, hK _ _ _ _ (hr.put _ _) h2 h3⟩
    | false =>
      simp only [he, cond_false] at h
      obtain ⟨v, hk, hs0⟩ := vq_sound (P := P) htt hr h
      have hs := hs0 w (fun _ _ h => h)
      rw [hs]
      exact ⟨C, fun _ _ h => h, hC, hK _ _ _ _ (hr.put _ _) hC hk⟩
  · simp only [hw, Bool.false_eq_true, if_false]
    exact hK _ _ _ _ (hr.put _ _) hC h

theorem vdp_sound (htt : TOk P tt) (hs : Region.noSelect ops.toArray = true) {K : Fr → World → Prop} {Q : Act → World → Prop} (hQ : ∀ fr a w, Rep n a fr → K fr w → Q a w) :
    ∀ (p : Plan) (listed : Array Bool) (fuel : Nat) (C : World → Prop) (a : Act) (fr : Fr) (w : World), p.size ≤ fuel → cert ops.toArray p listed = true → Rep n a fr → C w → vdp P tt n ops K p C fr w →
      cAny P ops.toArray Q fuel listed C a w
  | .done, listed, fuel, C, a, fr, w, hf, hc, hr, hCw, h => by
    have he : Region.ready .any ops.toArray listed = [] := by simpa [cert] using hc
    cases fuel with
    | zero => exact ⟨he, hQ _ _ _ hr h⟩
    | succ fuel => exact ⟨fun _ => hQ _ _ _ hr h, fun i hi => by rw [he] at hi; cases hi⟩
  | .take i p, listed, fuel, C, a, fr, w, hf, hc, hr, hCw, h => by
    cases fuel with
    | zero => simp [Plan.size] at hf
    | succ fuel =>
      simp only [cert, Bool.and_eq_true] at hc
      obtain ⟨⟨hc1, hc2⟩, hc3⟩ := hc
      simp only [vdp] at h
      split at h
      · rename_i o ho
        have hi : ops.toArray[i]? = some o := by simpa using ho
        have hsz : p.size ≤ fuel := by simp [Plan.size] at hf; omega
        have hfree := Region.free_spec hi hc2
        have hready : i ∈ Region.ready .any ops.toArray listed := by simpa using hc1
        rcases vwant_elim hr h with ⟨hw, h⟩ | ⟨hw, h⟩
        · cases he : eff tt o.op with
          | true => simp only [he, cond_true] at h
          | false =>
            simp only [he, cond_false] at h
            -- the value, the same in every world of the class
            have hv : ∃ v, vdp P tt n ops K p C (fput n fr o.dst v) w ∧ ∀ x, (isLoad o.op = true → C x) → (execOp a.eval o).run P x = .ok (.value v) x := by
              cases hl : isLoad o.op with
              | false =>
                obtain ⟨v, hk, hrun⟩ := vq_sound (P := P) htt hr (vq_pure (L' := fun _ _ => False) hl h)
                exact ⟨v, hk, fun x _ => hrun x (fun _ _ hf => hf.elim)⟩
              | true =>
                obtain ⟨v, hk, hrun⟩ := vq_sound (P := P) htt hr h
                exact ⟨v, hk, fun x hx => hrun x (fun _ _ hf => hf x (hx rfl))⟩
            obtain ⟨v, hk, hrun⟩ := hv
            refine cAny_first hi (Region.noSelect_spec hs) fuel listed C (fun x => isLoad o.op = true → C x) a w hfree hready hCw (fun x hx _ => hx) (fun hl x hl' => by rw [hl] at hl'; cases hl') (.inl ⟨hw, hrun⟩) ?_
            exact vdp_sound htt hs hQ p _ fuel C _ _ w hsz hc3 (hr.put _ _) hCw hk
        · refine cAny_first hi (Region.noSelect_spec hs) fuel listed C (fun _ => True) a w hfree hready hCw (fun _ _ => trivial) (fun _ _ => trivial) (.inr ⟨hw, rfl⟩) ?_
          exact vdp_sound htt hs hQ p _ fuel C _ _ w hsz hc3 (hr.put _ _) hCw h
      · exact h.elim
  | .one i p, listed, fuel, C, a, fr, w, hf, hc, hr, hCw, h => by
    cases fuel with
    | zero => simp [Plan.size] at hf
    | succ fuel =>
      simp only [cert, Bool.and_eq_true, beq_iff_eq] at hc
      obtain ⟨hc1, hc3⟩ := hc
      have hsz : p.size ≤ fuel := by simp [Plan.size] at hf; omega
      refine ⟨fun h0 => (by rw [hc1] at h0; cases h0), fun k hk => ?_⟩
      rw [hc1] at hk
      obtain rfl : k = i := by simpa using hk
      simp only [vdp] at h
      split at h
      · rename_i o ho
        exact one_sound htt hr hCw (by simpa using ho) (fun C' fr' a' w' hr' hC' hk' => vdp_sound htt hs hQ p _ fuel C' a' fr' w' hsz hc3 hr' hC' hk') h
      · exact h.elim
  | .two i p j q, listed, fuel, C, a, fr, w, hf, hc, hr, hCw, h => by
    cases fuel with
    | zero => simp [Plan.size] at hf
    | succ fuel =>
      simp only [cert, Bool.and_eq_true, beq_iff_eq] at hc
      obtain ⟨⟨hc1, hc3⟩, hc4⟩ := hc
      have hsz : p.size ≤ fuel ∧ q.size ≤ fuel := by simp [Plan.size] at hf; omega
      refine ⟨fun h0 => (by rw [hc1] at h0; cases h0), fun k hk => ?_⟩
      rw [hc1] at hk
      simp only [vdp] at h
      obtain ⟨hA, hB⟩ := h
      have hk' : k = i ∨ k = j := by simpa using hk
      rcases hk' with rfl | rfl
      · split at hA
        · rename_i o ho
          exact one_sound htt hr hCw (by simpa using ho) (fun C' fr' a' w' hr' hC' hk' => vdp_sound htt hs hQ p _ fuel C' a' fr' w' hsz.1 hc3 hr' hC' hk') hA
        · exact hA.elim
      · split at hB
        · rename_i o ho
          exact one_sound htt hr hCw (by simpa using ho) (fun C' fr' a' w' hr' hC' hk' => vdp_sound htt hs hQ q _ fuel C' a' fr' w' hsz.2 hc4 hr' hC' hk') hB
        · exact hB.elim

/-- One walk along the plan serves every order. -/
theorem VDraw.by_ (htt : TOk P tt) (hm : P.follows .mixedOrders = true) {K : Fr → World → Prop} {fr : Fr} {w : World} (p : Plan) (hc : (Region.noSelect ops.toArray && Nat.ble p.size ops.length && cert ops.toArray p (Array.replicate ops.length false)) = true)
    (C : World → Prop) (hC : ∀ x, x.heap = w.heap → x.os = w.os → x.tape = w.tape → x.output = w.output → C x)
    (h : ∀ x, x.heap = w.heap → Keep No w x → vdp P tt n ops K p C fr x) : VDraw P tt n ops K fr w := by
  refine ⟨fun Q a id hr hQ => ?_⟩
  simp only [Bool.and_eq_true] at hc
  obtain ⟨⟨hc1, hc2⟩, hc3⟩ := hc
  refine wp_region_any hm ?_
  have := vdp_sound (K := K) (Q := Q .normal) htt hc1 (fun fr a w hr hk => hQ _ _ _ hr hk) p (Array.replicate ops.length false) ops.length C a fr { w with drawn := w.drawn + 1 } (Nat.le_of_ble_eq_true hc2) hc3 hr (hC _ rfl rfl rfl rfl)
    (h _ rfl ⟨rfl, rfl, rfl, Nat.le_refl _, fun _ _ _ => rfl⟩)
  have h2 := cAny_sound (Q' := Q) (fun a w h => h) _ _ _ _ _ this
  simpa using h2

end
end Go.Proofs.YtgmopcbfgcagaaaDoor.V
