/- Code, and calls. -/
import Derived.Test.YtgbclgkadlfejaaAxDraw6
namespace Go.AX
open Go Go.RowKit
set_option linter.unusedVariables false
set_option linter.unusedSimpArgs false

variable {P : Program}

/-- What code's end owes. -/
def EOk (ρ : Rho) (base : Nat) (H : AHeap) (w : World) (Q : Exit → Act → World → Prop) (f' : Fr) (H' : AHeap) : AExit → Prop
  | .normal => ∀ ρ' a' w', Ok ρ base H w ρ' H' w' → FRel ρ' f' a' → Q .normal a' w'
  | .exit id => ∀ ρ' a' w', Ok ρ base H w ρ' H' w' → FRel ρ' f' a' → Q (.exit id) a' w'
  | .ret => ∀ ρ' a' w', Ok ρ base H w ρ' H' w' → FRel ρ' f' a' → Q .ret a' w'
  | .panic v => ∀ ρ' a' w' v', Ok ρ base H w ρ' H' w' → FRel ρ' f' a' → VRel ρ' v v' → Q (.panic [{ v := v', recovered := false }]) a' w'

theorem EOk.after {ρ ρ1 : Rho} {base : Nat} {H H1 H' : AHeap} {w w1 : World} {Q : Exit → Act → World → Prop} {f' : Fr} {ex : AExit} (h : EOk ρ base H w Q f' H' ex) (ok : Ok ρ base H w ρ1 H1 w1) (n1 : H.next ≤ H1.next) (n2 : H1.next ≤ H'.next) : EOk ρ1 base H1 w1 Q f' H' ex := by
  cases ex with
  | normal => exact fun ρ' a' w' ok' hf => h ρ' a' w' (ok.trans ok' n1 n2) hf
  | exit id => exact fun ρ' a' w' ok' hf => h ρ' a' w' (ok.trans ok' n1 n2) hf
  | ret => exact fun ρ' a' w' ok' hf => h ρ' a' w' (ok.trans ok' n1 n2) hf
  | panic v => exact fun ρ' a' w' v' ok' hf hv => h ρ' a' w' v' (ok.trans ok' n1 n2) hf hv

theorem frOf_get : ∀ (args : List Value) (t : Tr Value) (n i : Nat),
    ((args.foldl (fun (s : Tr Value × Nat) v => (s.1.set s.2 v, s.2 + 1)) (t, n)).1.get i) = if n ≤ i ∧ i < n + args.length then args[i - n]? else t.get i
  | [], t, n, i => by rw [if_neg (by simp only [List.length_nil]; omega)]; rfl
  | v :: r, t, n, i => by
    simp only [List.foldl_cons]
    rw [frOf_get r (t.set n v) (n + 1) i]
    simp only [List.length_cons]
    by_cases h : n + 1 ≤ i ∧ i < n + 1 + r.length
    · rw [if_pos h, if_pos (by omega), show i - n = (i - (n + 1)) + 1 by omega]; simp
    · rw [if_neg h, Tr.get_set]
      by_cases e : i = n
      · subst e; rw [if_pos rfl, if_pos (by omega)]; simp
      · rw [if_neg e, if_neg (by omega)]

theorem frame_rel {ρ : Rho} {args : List Value} {args' : Array Value} (h : VsRel ρ args args'.toList) (n : Nat) :
    FRel ρ (frOf args (max n args.length)) { tmps := args' ++ Array.replicate (n - args'.size) undef, defers := [] } := by
  have hlen : args.length = args'.size := by simpa using h.length
  refine ⟨fun t => ?_, by simp [frOf, hlen]; omega, rfl⟩
  simp only [Fr.get, frOf, frOf_get, Nat.zero_le, true_and, Nat.zero_add, Nat.sub_zero, Array.getD_eq_getD_getElem?]
  by_cases ht : t < args.length
  · rw [if_pos ht, Array.getElem?_append_left (by omega)]
    obtain ⟨v', h1, h2⟩ := h.get t args[t] (List.getElem?_eq_getElem ht)
    have h3 : args'[t]? = some v' := by simpa using h1
    rw [h3, List.getElem?_eq_getElem ht]; exact h2
  · rw [if_neg ht, Array.getElem?_append_right (by omega)]
    have : (Tr.nil : Tr Value).get t = none := Tr.get_nil t
    rw [this]
    by_cases h4 : t - args'.size < n - args'.size
    · rw [Array.getElem?_replicate, if_pos h4]; exact VRel.undef ρ
    · rw [Array.getElem?_replicate, if_neg h4]; exact VRel.undef ρ

theorem res_run {ρ : Rho} {base : Nat} {H : AHeap} {w : World} (hs : Sim ρ base H w) {f : Fr} {a : Act} (hf : FRel ρ f a) : ∀ {l : List ResultVar} {vs : List Value}, resA P f H l = some vs →
    ∃ vs', (l.mapM (m := Sem) fun r => match r with
      | .tmp t => pure (a.tmps.getD t undef)
      | .cell c t => do loadVar t (← asAddr (a.tmps.getD c undef))).run P w = .ok vs' w ∧ VsRel ρ vs vs'
  | [], vs, h => by simp [resA] at h; subst h; exact ⟨[], rfl, trivial⟩
  | .tmp t :: r, vs, h => by
    simp only [resA] at h
    cases h1 : resA P f H r with
    | none => simp [h1] at h
    | some l =>
      simp [h1] at h; subst h
      obtain ⟨vs', h2, h3⟩ := res_run hs hf h1
      refine ⟨a.tmps.getD t undef :: vs', ?_, hf.val t, h3⟩
      simp only [List.mapM_cons, Sem.run_bind, Sem.run_pure, Result.andThen_ok, h2]
  | .cell c t :: r, vs, h => by
    simp only [resA] at h
    split at h
    · rename_i v H1 e l hld h1
      simp at h; subst h
      obtain ⟨vs', h2, h3⟩ := res_run hs hf h1
      have hv := hf.val c
      generalize hx : a.tmps.getD c undef = x' at hv
      obtain ⟨_, _, v', h4, h5⟩ := load_run (P := P) hs hld hv
      have h6 : ∃ a', x' = .pointer (some a') := by
        unfold aLoad at hld
        split at hld
        · rename_i b o d n hp _ _
          rw [hp] at hv; cases hv; exact ⟨_, rfl⟩
        · cases hld
      obtain ⟨a', rfl⟩ := h6
      refine ⟨v' :: vs', ?_, h5, h3⟩
      have h7 : (loadVar t a').run P w = .ok v' w := by simpa [Instr.loadAt, Instr.sureAddr] using h4
      have h8 : (asAddr (.pointer (some a'))).run P w = .ok a' w := rfl
      simp only [List.mapM_cons, Sem.run_bind, hx, h8, Sem.run_pure, Result.andThen_ok, h7, h2]
    · cases h

theorem results_run {ρ : Rho} {base : Nat} {H : AHeap} {w : World} (hs : Sim ρ base H w) {f : Fr} {a : Act} (hf : FRel ρ f a) {fn : Func} {vs : List Value} (h : resA P f H fn.results.toList = some vs) :
    ∃ v', (results fn a.tmps).run P w = .ok v' w ∧ VRel ρ (oneOf vs) v' := by
  obtain ⟨vs', h1, h2⟩ := res_run (P := P) hs hf h
  refine ⟨if h : vs'.toArray.size = 1 then vs'.toArray[0] else .tuple vs'.toArray, ?_, ?_⟩
  · unfold results
    rw [Array.mapM_eq_mapM_toList]
    simp only [Sem.run_bind, Sem.run_map]
    erw [h1]
    rfl
  · match vs, vs', h2 with
    | [], [], _ => exact VRel.mkTuple (xs := []) (ys := []) trivial
    | [v], [v'], h => exact h.1
    | a :: b :: r, a' :: b' :: r', h => exact VRel.mkTuple (xs := a :: b :: r) (ys := a' :: b' :: r') h

theorem call_sound (hname : ∀ (g : FuncId) fn, P.funcs[g]? = some fn → fn.name ≠ "runtime.NumGoroutine") {k : Nat}
    (hA : ∀ (g : FuncId) fn c, P.funcs[g]? = some fn → fn.body = some c → ∀ f H ex f' H', exec P k c f H = some (ex, f', H') →
      H.next ≤ H'.next ∧ ∀ ρ base w a (Q : Exit → Act → World → Prop), Wf H → Sim ρ base H w → FRel ρ f a → Fresh ρ H.next H'.next → EOk ρ base H w Q f' H' ex → c.wp P Q a w) :
    CallOk P (callA P k) := by
  intro g args H r H' h
  unfold callA at h
  cases hf : P.funcs[g]? with
  | none => simp [hf] at h
  | some fn =>
    cases hb : fn.body with
    | none => simp [hf, hb] at h
    | some c =>
      simp only [hf, hb] at h
      have hret : ∀ (f' : Fr) (Hx : AHeap) ex, (ex = .normal ∨ ex = .ret) → exec P k c (frOf args (max fn.ntmps args.length)) H = some (ex, f', Hx) →
          (match resA P f' Hx fn.results.toList with | some l => some (CRes.ret (oneOf l), Hx) | none => none) = some (r, H') →
          H.next ≤ H'.next ∧ (∃ (fn : Func) (c : Code), some fn = some fn ∧ fn.body = some c) ∧ (Wf H → ∀ ρ base w (args' : Array Value), Sim ρ base H w → VsRel ρ args args'.toList → Fresh ρ H.next H'.next → Calls P g args' w (Ends ρ base H w H' r)) := by
        intro f' Hx ex hex hrun hres
        split at hres
        · rename_i l hl
          simp at hres
          obtain ⟨rfl, rfl⟩ := hres
          obtain ⟨n1, h1⟩ := hA g fn c hf hb _ _ _ _ _ hrun
          refine ⟨n1, ⟨fn, c, rfl, hb⟩, fun hwf ρ base w args' hs hargs hfr => ?_⟩
          have hfin : ∀ ρ' a' w', Ok ρ base H w ρ' Hx w' → FRel ρ' f' a' → a'.defers = [] ∧ ∃ v, (results fn a'.tmps).run P w' = .ok v w' ∧ Ends ρ base H w Hx (.ret (oneOf l)) (.returned v) w' := fun ρ' a' w' ok hf' => by
            obtain ⟨v', r1, r2⟩ := results_run (P := P) ok.sim hf' hl
            exact ⟨hf'.defers, v', r1, ρ', ok, r2⟩
          refine calls_of_wp hf hb (h1 ρ base w _ _ hwf hs (frame_rel hargs fn.ntmps) hfr ?_)
          rcases hex with rfl | rfl
          · exact fun ρ' a' w' ok hf' => hfin ρ' a' w' ok hf'
          · exact fun ρ' a' w' ok hf' => hfin ρ' a' w' ok hf'
        · cases hres
      split at h
      · rename_i f' Hx hrun
        obtain ⟨q1, -, q3⟩ := hret f' Hx _ (.inl rfl) hrun h
        exact ⟨q1, ⟨fn, c, rfl, hb⟩, q3⟩
      · rename_i f' Hx hrun
        obtain ⟨q1, -, q3⟩ := hret f' Hx _ (.inr rfl) hrun h
        exact ⟨q1, ⟨fn, c, rfl, hb⟩, q3⟩
      · rename_i v f' Hx hrun
        simp at h
        obtain ⟨rfl, rfl⟩ := h
        obtain ⟨n1, h1⟩ := hA g fn c hf hb _ _ _ _ _ hrun
        refine ⟨n1, ⟨fn, c, rfl, hb⟩, fun hwf ρ base w args' hs hargs hfr => ?_⟩
        exact calls_of_wp hf hb (h1 ρ base w _ _ hwf hs (frame_rel hargs fn.ntmps) hfr fun ρ' a' w' v' ok hf' hv => ⟨hf'.defers, ρ', ok, v', rfl, hv⟩)
      · cases h

theorem exec_sound (hmix : P.follows .mixedOrders = true) (hname : ∀ (g : FuncId) fn, P.funcs[g]? = some fn → fn.name ≠ "runtime.NumGoroutine")
    (hreg : ∀ (g : FuncId) fn c, P.funcs[g]? = some fn → fn.body = some c → codeOk P c = true) :
    ∀ k, (∀ c f H ex f' H', codeOk P c = true → exec P k c f H = some (ex, f', H') →
      H.next ≤ H'.next ∧ ∀ ρ base w a (Q : Exit → Act → World → Prop), Wf H → Sim ρ base H w → FRel ρ f a → Fresh ρ H.next H'.next → EOk ρ base H w Q f' H' ex → c.wp P Q a w) ∧
    (∀ c f H ex f' H', codeOk P c = true → exec P k (.loop c) f H = some (ex, f', H') →
      H.next ≤ H'.next ∧ ∀ ρ base w a (Q : Exit → Act → World → Prop), Wf H → Sim ρ base H w → FRel ρ f a → Fresh ρ H.next H'.next → EOk ρ base H w Q f' H' ex → Code.rounds P c Q k a w) := by
  intro k
  induction k with
  | zero => exact ⟨fun c f H ex f' H' _ h => by simp [exec] at h, fun c f H ex f' H' _ h => by simp [exec] at h⟩
  | succ k ih =>
    have hcall := call_sound (P := P) hname (k := k) fun g fn c h1 h2 f H ex f' H' h => ih.1 c f H ex f' H' (hreg g fn c h1 h2) h
    have hB : ∀ c f H ex f' H', codeOk P c = true → exec P (k + 1) (.loop c) f H = some (ex, f', H') →
      H.next ≤ H'.next ∧ ∀ ρ base w a (Q : Exit → Act → World → Prop), Wf H → Sim ρ base H w → FRel ρ f a → Fresh ρ H.next H'.next → EOk ρ base H w Q f' H' ex → Code.rounds P c Q (k + 1) a w := by
      intro c f H ex f' H' hc h
      simp only [exec] at h
      split at h
      · rename_i f1 H1 h1
        obtain ⟨n1, w1⟩ := ih.1 c f H _ f1 H1 hc h1
        obtain ⟨n2, w2⟩ := ih.2 c f1 H1 _ f' H' hc h
        refine ⟨Nat.le_trans n1 n2, fun ρ base w a Q hwf hs hf hfr he => ?_⟩
        rw [rounds_succ]
        refine w1 ρ base w a _ hwf hs hf (fun b q1 q2 => hfr b q1 (by omega)) fun ρ' a' w' ok hf' => ?_
        exact w2 ρ' base w' a' Q (exec_wf _ _ _ _ _ _ _ h1 hwf) ok.sim hf' (Fresh.rest hfr ok.mono n1) (he.after ok n1 n2)
      · rename_i hne
        obtain ⟨n1, w1⟩ := ih.1 c f H ex f' H' hc h
        refine ⟨n1, fun ρ base w a Q hwf hs hf hfr he => ?_⟩
        rw [rounds_succ]
        refine w1 ρ base w a _ hwf hs hf hfr ?_
        cases ex with
        | normal => exact (hne _ _ h).elim
        | exit id => exact he
        | ret => exact he
        | panic v => exact he
    refine ⟨?_, hB⟩
    intro c f H ex f' H' hc h
    cases c with
    | skip => simp [exec] at h; obtain ⟨rfl, rfl, rfl⟩ := h; exact ⟨Nat.le_refl _, fun ρ base w a Q hwf hs hf _ he => wp_skip (he ρ a w (Ok.refl hs) hf)⟩
    | label l => simp [exec] at h; obtain ⟨rfl, rfl, rfl⟩ := h; exact ⟨Nat.le_refl _, fun ρ base w a Q hwf hs hf _ he => wp_label (he ρ a w (Ok.refl hs) hf)⟩
    | ret => simp [exec] at h; obtain ⟨rfl, rfl, rfl⟩ := h; exact ⟨Nat.le_refl _, fun ρ base w a Q hwf hs hf _ he => wp_ret (he ρ a w (Ok.refl hs) hf)⟩
    | exit id => simp [exec] at h; obtain ⟨rfl, rfl, rfl⟩ := h; exact ⟨Nat.le_refl _, fun ρ base w a Q hwf hs hf _ he => wp_exit (he ρ a w (Ok.refl hs) hf)⟩
    | seq x y =>
      simp only [codeOk, Bool.and_eq_true] at hc
      simp only [exec] at h
      split at h
      · rename_i f1 H1 h1
        obtain ⟨n1, w1⟩ := ih.1 x f H _ f1 H1 hc.1 h1
        obtain ⟨n2, w2⟩ := ih.1 y f1 H1 _ f' H' hc.2 h
        refine ⟨Nat.le_trans n1 n2, fun ρ base w a Q hwf hs hf hfr he => wp_seq (w1 ρ base w a _ hwf hs hf (fun b q1 q2 => hfr b q1 (by omega)) fun ρ' a' w' ok hf' => ?_)⟩
        exact w2 ρ' base w' a' Q (exec_wf _ _ _ _ _ _ _ h1 hwf) ok.sim hf' (Fresh.rest hfr ok.mono n1) (he.after ok n1 n2)
      · rename_i hne
        obtain ⟨n1, w1⟩ := ih.1 x f H ex f' H' hc.1 h
        refine ⟨n1, fun ρ base w a Q hwf hs hf hfr he => wp_seq (w1 ρ base w a _ hwf hs hf hfr ?_)⟩
        cases ex with
        | normal => exact (hne _ _ h).elim
        | exit id => exact he
        | ret => exact he
        | panic v => exact he
    | cond x p q =>
      simp only [codeOk, Bool.and_eq_true] at hc
      simp only [exec] at h
      split at h
      · rename_i t hx
        cases t with
        | true =>
          simp only [cond_true] at h
          obtain ⟨n1, w1⟩ := ih.1 p f H ex f' H' hc.1 h
          refine ⟨n1, fun ρ base w a Q hwf hs hf hfr he => ?_⟩
          have hr := evO_rel hf hx
          generalize hv : a.eval x = xv at hr
          cases hr
          exact wp_cond_true hv (w1 ρ base w a Q hwf hs hf hfr he)
        | false =>
          simp only [cond_false] at h
          obtain ⟨n1, w1⟩ := ih.1 q f H ex f' H' hc.2 h
          refine ⟨n1, fun ρ base w a Q hwf hs hf hfr he => ?_⟩
          have hr := evO_rel hf hx
          generalize hv : a.eval x = xv at hr
          cases hr
          exact wp_cond_false hv (w1 ρ base w a Q hwf hs hf hfr he)
      · cases h
    | block id x =>
      simp only [codeOk] at hc
      simp only [exec] at h
      split at h
      · rename_i i f1 H1 h1
        obtain ⟨n1, w1⟩ := ih.1 x f H _ f1 H1 hc h1
        cases hb : Nat.beq i id with
        | true =>
          simp [hb] at h
          obtain ⟨rfl, rfl, rfl⟩ := h
          have e : i = id := Nat.eq_of_beq_eq_true hb
          refine ⟨n1, fun ρ base w a Q hwf hs hf hfr he => wp_block (w1 ρ base w a _ hwf hs hf hfr fun ρ' a' w' ok hf' => ?_)⟩
          show (if i = id then Q .normal a' w' else Q (.exit i) a' w')
          rw [if_pos e]; exact he ρ' a' w' ok hf'
        | false =>
          simp [hb] at h
          obtain ⟨rfl, rfl, rfl⟩ := h
          have e : i ≠ id := fun e => by rw [e] at hb; simp at hb
          refine ⟨n1, fun ρ base w a Q hwf hs hf hfr he => wp_block (w1 ρ base w a _ hwf hs hf hfr fun ρ' a' w' ok hf' => ?_)⟩
          show (if i = id then Q .normal a' w' else Q (.exit i) a' w')
          rw [if_neg e]; exact he ρ' a' w' ok hf'
      · rename_i hne
        obtain ⟨n1, w1⟩ := ih.1 x f H ex f' H' hc h
        refine ⟨n1, fun ρ base w a Q hwf hs hf hfr he => wp_block (w1 ρ base w a _ hwf hs hf hfr ?_)⟩
        cases ex with
        | normal => exact he
        | exit id => exact (hne _ _ _ h).elim
        | ret => exact he
        | panic v => exact he
    | loop x =>
      simp only [codeOk] at hc
      obtain ⟨n1, w1⟩ := hB x f H ex f' H' hc h
      exact ⟨n1, fun ρ base w a Q hwf hs hf hfr he => wp_loop_rounds (k + 1) (w1 ρ base w a Q hwf hs hf hfr he)⟩
    | region id ops draw =>
      have h' : (match runOps P (callA P k) ops ops.toList 0 f H [] with
        | some (.done f' H' tr) => bif draw then (bif drawOk ops tr then some (AExit.normal, f', H') else none) else some (.normal, f', H')
        | some (.panic v f' H') => bif draw then none else some (.panic v, f', H')
        | none => none) = some (ex, f', H') := h
      clear h
      split at h'
      · rename_i f1 H1 tr hrun
        obtain ⟨n1, w1⟩ := plain_wp hcall (call_wf k) hname ops.toList 0 f H [] _ (fun j => by simp) hrun
        cases draw with
        | true =>
          simp only [cond_true] at h'
          cases hd : drawOk ops tr with
          | false => simp [hd] at h'
          | true =>
            simp [hd] at h'
            obtain ⟨rfl, rfl, rfl⟩ := h'
            simp only [codeOk, Bool.not_true, Bool.false_or] at hc
            refine ⟨n1, fun ρ base w a Q hwf hs hf hfr he => wp_region_any hmix ?_⟩
            refine draw_sound hname hcall (call_wf k) hc hrun hd hwf ρ base _ a Q (hs.of_heap rfl) hf hfr ?_
            intro ρ' a' w' ok hf'
            refine he ρ' a' w' ⟨ok.mono, ok.sim, ?_⟩ hf'
            exact (Step.of_heap (ρ := ρ) (H := H) (w := w) (w' := { w with drawn := w.drawn + 1 }) rfl rfl rfl rfl).trans ok.step
        | false =>
          simp at h'
          obtain ⟨rfl, rfl, rfl⟩ := h'
          refine ⟨n1, fun ρ base w a Q hwf hs hf hfr he => wp_region ?_⟩
          have := w1 ρ base w a Q hwf hs hf hfr he
          rw [List.range_eq_range']
          simpa using this
      · rename_i v f1 H1 hrun
        obtain ⟨n1, w1⟩ := plain_wp hcall (call_wf k) hname ops.toList 0 f H [] _ (fun j => by simp) hrun
        cases draw with
        | true => simp at h'
        | false =>
          simp at h'
          obtain ⟨rfl, rfl, rfl⟩ := h'
          refine ⟨n1, fun ρ base w a Q hwf hs hf hfr he => wp_region ?_⟩
          have := w1 ρ base w a Q hwf hs hf hfr he
          rw [List.range_eq_range']
          simpa using this
      · cases h'
    | rangeFunc _ _ _ _ => simp [exec] at h
    | scope _ => simp [exec] at h
    | goto _ => simp [exec] at h
    | refuse _ => simp [exec] at h
end Go.AX
