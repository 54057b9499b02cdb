/-
  Soundness of the transformer of regions and of code; loops by a ghost state; a function's contract out of its body's.
-/
import Derived.Test.YtgmopcbfgcagaaaDoorVf
namespace Go.Proofs.YtgmopcbfgcagaaaDoor.V
open Go Go.RowKit

section
variable {P : Program} {tt : TT} {n : Nat}

theorem vop_sound (htt : TOk P tt) {a : Act} {fr : Fr} {w : World} (hr : Rep n a fr) {o : Oper} {K : Fr → World → Prop} (h : vop P tt n o fr w K) {next : Act → World → Prop} {Q : Exit → Act → World → Prop}
    (hK : ∀ fr' a' w', Rep n a' fr' → K fr' w' → next a' w') : o.wp P a w next Q := by
  unfold vop at h
  cases he : eff tt o.op with
  | true =>
    simp only [he, cond_true] at h
    exact ve_sound htt hr h fun v w' hk => hK _ _ _ (hr.put _ _) hk
  | false =>
    simp only [he, cond_false] at h
    obtain ⟨v, hk, hs0⟩ := vq_sound (P := P) htt hr h
    have hs := hs0 w (fun _ _ h => h)
    unfold Oper.wp
    rw [hs]
    exact hK _ _ _ (hr.put _ _) hk

def asB : Value → Option Bool
  | .bool b => some b
  | _ => none

theorem gval_yielded {ops : List Oper} {a : Act} {fr : Fr} (hr : Rep n a fr) {j : Nat} {v : Value} (h : gval ops fr j = some v) :
    yielded ops.toArray a.tmps j = asB v := by
  unfold gval at h
  unfold yielded
  simp only [List.getElem?_toArray]
  cases ho : ops[j]? with
  | none => rw [ho] at h; cases h
  | some o =>
    rw [ho] at h
    dsimp only at h
    cases hd : o.dst with
    | none => rw [hd] at h; cases h
    | some d =>
      rw [hd] at h
      have := hr.at_ d v h
      simp only [Option.bind_some, hd, this]
      cases v <;> rfl

theorem vops_sound (htt : TOk P tt) {ops : List Oper} {Q : Exit → Act → World → Prop} : ∀ (l : List Oper) (a : Act) (fr : Fr) (w : World) (K : Fr → World → Prop), Rep n a fr → vops P tt n ops l K fr w →
    (∀ fr' a' w', Rep n a' fr' → K fr' w' → Q .normal a' w') → wpList P ops.toArray Q l a w
  | [], a, fr, w, K, hr, h, hK => hK fr a w hr h
  | o :: l, a, fr, w, K, hr, h, hK => by
    have run : vop P tt n o fr w (vops P tt n ops l K) → Oper.wp P o a w (wpList P ops.toArray Q l) Q := fun h =>
      vop_sound htt hr h fun fr' a' w' hr' hk => vops_sound htt l a' fr' w' K hr' hk hK
    have skip : vops P tt n ops l K (fput n fr o.dst undef) w → wpList P ops.toArray Q l (a.put o.dst undef) w := fun h =>
      vops_sound htt l _ _ w K (hr.put _ _) h hK
    simp only [vops] at h
    unfold wpList
    cases hg : o.guard with
    | none =>
      rw [hg] at h
      rw [if_pos (by simp [Region.wanted, hg])]
      exact .inl (run h)
    | some g =>
      obtain ⟨j, want⟩ := g
      rw [hg] at h
      dsimp only at h
      split at h
      · rename_i b hv
        have hy := gval_yielded hr hv
        dsimp only [asB] at hy
        cases b <;> cases want <;> dsimp only at h
        · rw [if_pos (by simp [Region.wanted, hg, hy])]; exact .inl (run h)
        · rw [if_neg (by simp [Region.wanted, hg, hy])]; exact skip h
        · rw [if_neg (by simp [Region.wanted, hg, hy])]; exact skip h
        · rw [if_pos (by simp [Region.wanted, hg, hy])]; exact .inl (run h)
      · rename_i hv
        have hy := gval_yielded hr hv
        dsimp only [asB] at hy
        rw [if_neg (by simp [Region.wanted, hg, hy])]; exact skip h
      · exact h.elim

theorem vc_sound (htt : TOk P tt) : ∀ (c : Code) (Q : Exit → Fr → World → Prop) (Q' : Exit → Act → World → Prop) (a : Act) (fr : Fr) (w : World), vc P tt n c Q fr w → Rep n a fr →
    (∀ e fr' a' w', Rep n a' fr' → Q e fr' w' → Q' e a' w') → c.wp P Q' a w
  | .skip, Q, Q', a, fr, w, h, hr, hq => wp_skip (hq _ _ _ _ hr h)
  | .region id ops draw, Q, Q', a, fr, w, h, hr, hq => by
    cases draw with
    | false =>
      refine wp_region_list ?_
      have := vops_sound (Q := Q') htt ops.toList a fr w _ hr h (fun fr' a' w' hr' hk => hq _ _ _ _ hr' hk)
      simpa using this
    | true =>
      have := h.h Q' a id hr (fun fr' a' w' hr' hk => hq _ _ _ _ hr' hk)
      simpa using this
  | .seq x y, Q, Q', a, fr, w, h, hr, hq => by
    refine wp_seq (vc_sound htt x _ _ a fr w h hr ?_)
    intro e fr' a' w' hr' hk
    cases e with
    | normal => exact vc_sound htt y Q Q' a' fr' w' hk hr' hq
    | exit id => exact hq _ _ _ _ hr' hk
    | goto l => exact hq _ _ _ _ hr' hk
    | ret => exact hq _ _ _ _ hr' hk
    | panic c => exact hq _ _ _ _ hr' hk
    | outgrown => exact hq _ _ _ _ hr' hk
  | .cond c t e, Q, Q', a, fr, w, h, hr, hq => by
    obtain ⟨v, hv, h⟩ := ev1_elim h
    cases v <;> first | exact h.elim | skip
    rename_i b
    cases b with
    | true => exact wp_cond_true (hr.evo hv) (vc_sound htt t Q Q' a fr w h hr hq)
    | false => exact wp_cond_false (hr.evo hv) (vc_sound htt e Q Q' a fr w h hr hq)
  | .block id c, Q, Q', a, fr, w, h, hr, hq => by
    refine wp_block (vc_sound htt c _ _ a fr w h hr ?_)
    intro e fr' a' w' hr' hk
    cases e with
    | exit id' =>
      unfold qblock at hk
      unfold Exit.inBlock
      cases hb : Nat.beq id' id with
      | true =>
        have : id' = id := Nat.eq_of_beq_eq_true hb
        simp only [hb, cond_true] at hk
        simp only [if_pos this]
        exact hq _ _ _ _ hr' hk
      | false =>
        have : id' ≠ id := by
          rintro rfl
          simp at hb
        simp only [hb, cond_false] at hk
        simp only [if_neg this]
        exact hq _ _ _ _ hr' hk
    | normal => exact hq _ _ _ _ hr' hk
    | goto l => exact hq _ _ _ _ hr' hk
    | ret => exact hq _ _ _ _ hr' hk
    | panic c => exact hq _ _ _ _ hr' hk
    | outgrown => exact hq _ _ _ _ hr' hk
  | .loop c, Q, Q', a, fr, w, h, hr, hq => h.h Q' a hr hq
  | .exit id, Q, Q', a, fr, w, h, hr, hq => wp_exit (hq _ _ _ _ hr h)
  | .label l, Q, Q', a, fr, w, h, hr, hq => wp_label (hq _ _ _ _ hr h)
  | .ret, Q, Q', a, fr, w, h, hr, hq => wp_ret (hq _ _ _ _ hr h)
  | .scope c, Q, Q', a, fr, w, h, hr, hq => h.elim
  | .goto l, Q, Q', a, fr, w, h, hr, hq => h.elim
  | .rangeFunc .., Q, Q', a, fr, w, h, hr, hq => h.elim
  | .refuse .., Q, Q', a, fr, w, h, hr, hq => h.elim

/-- A loop: 'F s' is what is known of the frame, 'J s' of memory, at the head of each round, s what the loop has come to; each round makes 'μ' less. -/
theorem VLoop.by_ (htt : TOk P tt) {c : Code} {Q : Exit → Fr → World → Prop} {fr : Fr} {w : World} {S : Type} (F : S → Fr) (J : S → World → Prop) (μ : S → Nat) (s0 : S)
    (h0 : fhas fr (F s0)) (hJ : J s0 w)
    (round : ∀ s w, J s w → vc P tt n c (qthen Q fun fr' w' => ∃ s', fhas fr' (F s') ∧ J s' w' ∧ μ s' < μ s) (F s) w) : VLoop P tt n c Q fr w := by
  refine ⟨fun Q' a hr hq => ?_⟩
  let I : Nat → Act → World → Prop := fun m a w => ∃ s, μ s = m ∧ Rep n a (F s) ∧ J s w
  have hmin : ∀ a w, (∃ m, I m a w) → ∃ m, I m a w ∧ ∀ k, I k a w → m ≤ k := by
    intro a w ⟨m, hm⟩
    induction m using Nat.strongRecOn with
    | _ m ih =>
      by_cases hex : ∃ k, k < m ∧ I k a w
      · obtain ⟨k, hk, hi⟩ := hex
        exact ih k hk hi
      · refine ⟨m, hm, fun k hk => ?_⟩
        rcases Nat.lt_or_ge k m with h | h
        · exact absurd ⟨k, h, hk⟩ hex
        · exact h
  classical
  refine wp_loop (fun a w => ∃ m, I m a w) (fun a w => if h : ∃ m, I m a w then Classical.choose (hmin a w h) else 0) ⟨_, s0, rfl, hr.sub (fsub_of_has h0), hJ⟩ ?_
  intro a w hI
  have hc := Classical.choose_spec (hmin a w hI)
  obtain ⟨⟨s, hs, hrs, hJs⟩, _⟩ := hc
  refine vc_sound htt c _ _ a (F s) w (round s w hJs) hrs ?_
  intro e fr' a' w' hr' hk
  cases e with
  | normal =>
    obtain ⟨s', hf, hJ', hlt⟩ := hk
    have hI' : ∃ m, I m a' w' := ⟨_, s', rfl, hr'.sub (fsub_of_has hf), hJ'⟩
    refine ⟨hI', ?_⟩
    have hle := (Classical.choose_spec (hmin a' w' hI')).2 (μ s') ⟨s', rfl, hr'.sub (fsub_of_has hf), hJ'⟩
    simp only [dif_pos hI', dif_pos hI]
    omega
  | exit id => exact hq _ _ _ _ hr' hk
  | goto l => exact hq _ _ _ _ hr' hk
  | ret => exact hq _ _ _ _ hr' hk
  | panic c => exact hq _ _ _ _ hr' hk
  | outgrown => exact hq _ _ _ _ hr' hk

/-! ### A function -/

def vresK (tt : TT) (fr : Fr) (w : World) : List ResultVar → (List Value → Prop) → Prop
  | [], K => K []
  | .tmp t :: r, K => (match ffind fr t with
    | some v => vresK tt fr w r fun vs => K (v :: vs)
    | none => False)
  | .cell c t :: r, K => (match ffind fr c with
    | some (.pointer (some a)) => (match tfind tt t with
      | some i => (match aggT i.und with
        | true => VLoads (fun a v => w.cell? a = some v) a i.size fun cs => vresK tt fr w r fun vs => K (.agg cs.toArray :: vs)
        | false => VLoad (fun a v => w.cell? a = some v) a fun v => vresK tt fr w r fun vs => K (v :: vs))
      | none => False)
    | _ => False)

def vtup : List Value → Value
  | [v] => v
  | vs => .tuple vs.toArray

/-- What the end of a body owes. -/
def vpost (tt : TT) (fn : Func) (R : Value → World → Prop) (e : Exit) (fr : Fr) (w : World) : Prop :=
  match e with
  | .normal => vresK tt fr w fn.results.toList fun vs => R (vtup vs) w
  | .ret => vresK tt fr w fn.results.toList fun vs => R (vtup vs) w
  | _ => False

def vargs : List Value → Nat → Fr
  | [], _ => []
  | v :: r, k => (k, v) :: vargs r (k + 1)

theorem vargs_find : ∀ (l : List Value) (k t : Nat) (v : Value), ffind (vargs l k) t = some v → k ≤ t ∧ l[t - k]? = some v
  | [], _, _, _, h => by cases h
  | x :: r, k, t, v, h => by
    unfold vargs ffind at h
    cases hb : Nat.beq k t with
    | true =>
      have : k = t := Nat.eq_of_beq_eq_true hb
      subst this
      simp only [hb, cond_true, Option.some.injEq] at h
      subst h
      simp
    | false =>
      simp only [hb, cond_false] at h
      obtain ⟨h1, h2⟩ := vargs_find r (k + 1) t v h
      refine ⟨by omega, ?_⟩
      rw [show t - k = (t - (k + 1)) + 1 from by omega, List.getElem?_cons_succ]
      exact h2

def resOf (a : Act) : ResultVar → Sem Value
  | .tmp t => pure (a.tmps.getD t undef)
  | .cell c t => do loadVar t (← asAddr (a.tmps.getD c undef))

theorem resCell_run (htt : TOk P tt) {t : Nat} {i : TI} (hi : tfind tt t = some i) (b : Addr) (w : World) {K : Value → Prop}
    (h : match aggT i.und with
        | true => VLoads (fun a v => w.cell? a = some v) b i.size fun cs => K (.agg cs.toArray)
        | false => VLoad (fun a v => w.cell? a = some v) b K) : ∃ v, K v ∧ (do loadVar t (← asAddr (.pointer (some b))) : Sem Value).run P w = .ok v w := by
  have h1 := htt.isAgg hi
  cases hb : aggT i.und with
  | true =>
    rw [hb] at h h1
    obtain ⟨cs, hlen, hc, hk⟩ := h.h
    refine ⟨_, hk, ?_⟩
    have hr := load_cells (P := P) (w := w) b cs (fun j v hv => hc j v hv) cs.length 0 #[] (by omega)
    simp only [List.drop_zero, Array.empty_append] at hr
    simp [asAddr, loadVar, h1, htt.sizeOf hi, loadCells, ← hlen, hr]
  | false =>
    rw [hb] at h h1
    obtain ⟨v, hl, hk⟩ := h.h
    refine ⟨v, hk, ?_⟩
    simp [asAddr, loadVar, h1, hl]

theorem vresK_run (htt : TOk P tt) {fr : Fr} {a : Act} (hr : Rep n a fr) (w : World) : ∀ (l : List ResultVar) (K : List Value → Prop), vresK tt fr w l K →
    ∃ vs, K vs ∧ (l.mapM (resOf a)).run P w = .ok vs w
  | [], K, h => ⟨[], h, by simp⟩
  | .cell c t :: r, K, h => by
    unfold vresK at h
    split at h
    · rename_i b hv
      split at h
      · rename_i i hi
        obtain ⟨v, h1, h2⟩ := resCell_run (P := P) htt hi b w (K := fun v => vresK tt fr w r fun vs => K (v :: vs)) h
        obtain ⟨vs, h3, h4⟩ := vresK_run htt hr w r _ h1
        have hat := hr.at_ c _ hv
        refine ⟨v :: vs, h3, ?_⟩
        have h5 : (resOf a (.cell c t)).run P w = .ok v w := by
          have e : a.tmps.getD c undef = .pointer (some b) := by simp [hat]
          show (do loadVar t (← asAddr (a.tmps.getD c undef)) : Sem Value).run P w = _
          rw [e]
          exact h2
        simp [List.mapM_cons, h5, h4]
      · exact h.elim
    · exact h.elim
  | .tmp t :: r, K, h => by
    unfold vresK at h
    split at h
    · rename_i v hv
      obtain ⟨vs, h3, h4⟩ := vresK_run htt hr w r _ h
      have := hr.at_ t v hv
      exact ⟨v :: vs, h3, by simp [List.mapM_cons, h4, this, resOf]⟩
    · exact h.elim

theorem results_run (htt : TOk P tt) {fr : Fr} {a : Act} (hr : Rep n a fr) (w : World) (fn : Func) {K : List Value → Prop} (h : vresK tt fr w fn.results.toList K) : ∃ vs, K vs ∧ (results fn a.tmps).run P w = .ok (vtup vs) w := by
  obtain ⟨vs, hk, this⟩ := vresK_run (P := P) htt hr w fn.results.toList K h
  refine ⟨vs, hk, ?_⟩
  have he : results fn a.tmps = (do
      let vs ← fn.results.mapM (resOf a)
      pure (if h : vs.size = 1 then vs[0] else .tuple vs)) := by
    unfold results
    congr 1
  rw [he, Array.mapM_eq_mapM_toList]
  simp only [Sem.run_bind, Sem.run_map, this, Result.andThen_ok, Sem.run_pure]
  match vs with
  | [] => simp [vtup]
  | [v] => simp [vtup]
  | u :: v :: r => simp [vtup]

theorem VC.of (htt : TOk P tt) {f : FuncId} {fn : Func} {c : Code} {args : List Value} {w : World} {R : Value → World → Prop} (hf : P.funcs[f]? = some fn) (hb : fn.body = some c)
    (hname : (fn.name == "runtime.NumGoroutine") = false) (hlen : args.length ≤ fn.ntmps)
    (h : vc P tt fn.ntmps c (vpost tt fn R) (vargs args 0) w) : VC P f args w R := by
  refine ⟨⟨fn, hf, hname, by rw [hb]; rfl⟩, ?_⟩
  refine calls_of_wp hf hb ?_
  refine vc_sound htt c _ _ _ _ w h ⟨rfl, by simp; omega, ?_⟩ ?_
  · intro t v hv
    obtain ⟨_, h2⟩ := vargs_find args 0 t v hv
    simp only [Nat.sub_zero] at h2
    have hlt : t < args.length := by
      rcases Nat.lt_or_ge t args.length with h | h
      · exact h
      · rw [List.getElem?_eq_none h] at h2; cases h2
    show (args.toArray ++ _)[t]? = some v
    rw [Array.getElem?_append_left (by simpa using hlt)]
    simpa using h2
  · intro e fr' a' w' hr' hq
    unfold vpost at hq
    split at hq
    · obtain ⟨vs, h1, h2⟩ := results_run htt hr' w' fn hq
      exact ⟨hr'.d, _, h2, h1⟩
    · obtain ⟨vs, h1, h2⟩ := results_run htt hr' w' fn hq
      exact ⟨hr'.d, _, h2, h1⟩
    · exact hq.elim

end
end Go.Proofs.YtgmopcbfgcagaaaDoor.V
