/- The executor with an oracle: functions whose answers are known from elsewhere. -/
import Derived.Test.YtjnegbcdeggpfaaDoorAxMono
import Derived.Test.YtjnegbcdeggpfaaDoorAxExec
namespace Go.AX
open Go Go.RowKit
set_option linter.unusedVariables false
set_option linter.unusedSimpArgs false
variable {P : Program}

/-- What is known of calls from elsewhere. -/
abbrev Orc := FuncId → List Value → AHeap → Option (CRes × AHeap)
noncomputable section
def callO (P : Program) (O : Orc) (ex : Exec) (g : FuncId) (args : List Value) (H : AHeap) : Option (CRes × AHeap) :=
  match O g args H with
  | some r => some r
  | none => callB P ex g args H
def execO (P : Program) (O : Orc) : Nat → Code → Fr → AHeap → Option (AExit × Fr × AHeap)
  | 0, _, _, _ => none
  | k + 1, c, f, H =>
    match c with
    | .skip => some (.normal, f, H)
    | .label _ => some (.normal, f, H)
    | .ret => some (.ret, f, H)
    | .exit id => some (.exit id, f, H)
    | .seq a b => match execO P O k a f H with
      | some (.normal, f', H') => execO P O k b f' H'
      | r => r
    | .cond c a b => match evO f c with
      | some (.bool t) => bif t then execO P O k a f H else execO P O k b f H
      | _ => none
    | .block id c => match execO P O k c f H with
      | some (.exit i, f', H') => bif Nat.beq i id then some (.normal, f', H') else some (.exit i, f', H')
      | r => r
    | .loop c => match execO P O k c f H with
      | some (.normal, f', H') => execO P O k (.loop c) f' H'
      | r => r
    | .scope c => execO P O k c f H
    | .region _ ops draw =>
      match lastDefer ops.toList with
      | none => match runOps P (callO P O (execO P O k)) ops ops.toList 0 f H [] with
        | some (.done f' H' tr) => bif draw then (bif drawOk ops tr then some (.normal, f', H') else none) else some (.normal, f', H')
        | some (.panic v f' H') => bif draw then none else some (.panic v, f', H')
        | none => none
      | some (pre, o, c) => bif draw then none else match runOps P (callO P O (execO P O k)) ops pre 0 f H [] with
        | some (.done f' H' _) => match deferA f' c, f'.put o.dst undef with
          | some d, some f'' => some (.normal, ⟨f''.tmps, f''.size, d :: f''.defs, f''.glob⟩, H')
          | _, _ => none
        | _ => none
    | _ => none

def callAO (P : Program) (O : Orc) (k : Nat) (g : FuncId) (args : List Value) (H : AHeap) : Option (CRes × AHeap) := callO P O (execO P O k) g args H
end
theorem callO_mono {P : Program} {O : Orc} {x x' : Exec} (hx : XLe x x') : CLe (callO P O x) (callO P O x') := by
  intro g a H r h
  unfold callO at h ⊢
  cases hp : O g a H with
  | some p => rw [hp] at h; exact h
  | none => rw [hp] at h; exact callB_mono hx g a H r h
theorem execO_succ (P : Program) (O : Orc) : ∀ k, XLe (execO P O k) (execO P O (k + 1))
  | 0 => fun c f H r h => by rw [execO] at h; cases h
  | k + 1 => fun c f H r h => by
    have ih := execO_succ P O k
    cases c with
    | seq a b =>
      rw [execO] at h ⊢
      cases ha : execO P O k a f H with
      | none => simp only [ha] at h; cases h
      | some y =>
        rw [ih _ _ _ _ ha]; rw [ha] at h
        obtain ⟨e, f', H'⟩ := y
        cases e <;> first | exact ih _ _ _ _ h | exact h
    | cond c a b =>
      rw [execO] at h ⊢
      split at h
      · rename_i t ht
        cases t with
        | true => exact ih _ _ _ _ h
        | false => exact ih _ _ _ _ h
      · cases h
    | block id c =>
      rw [execO] at h ⊢
      cases ha : execO P O k c f H with
      | none => simp only [ha] at h; cases h
      | some y => rw [ih _ _ _ _ ha]; rw [ha] at h; exact h
    | loop c =>
      rw [execO] at h ⊢
      cases ha : execO P O k c f H with
      | none => simp only [ha] at h; cases h
      | some y =>
        rw [ih _ _ _ _ ha]; rw [ha] at h
        obtain ⟨e, f', H'⟩ := y
        cases e <;> first | exact ih _ _ _ _ h | exact h
    | scope c => rw [execO] at h ⊢; exact ih _ _ _ _ h
    | region id ops draw =>
      have hc := callO_mono (P := P) (O := O) ih
      rw [execO] at h ⊢
      cases hl : lastDefer ops.toList with
      | none =>
        simp only [hl] at h ⊢
        cases ho : runOps P (callO P O (execO P O k)) ops ops.toList 0 f H [] with
        | none => simp only [ho] at h; cases h
        | some y => rw [runOps_mono hc _ _ _ _ _ _ _ ho]; rw [ho] at h; exact h
      | some d =>
        obtain ⟨pre, o, c⟩ := d
        simp only [hl] at h ⊢
        cases draw with
        | true => cases h
        | false =>
          simp only [cond_false] at h ⊢
          cases ho : runOps P (callO P O (execO P O k)) ops pre 0 f H [] with
          | none => simp only [ho] at h; cases h
          | some y => rw [runOps_mono hc _ _ _ _ _ _ _ ho]; rw [ho] at h; exact h
    | skip => simpa only [execO] using h
    | label _ => simpa only [execO] using h
    | ret => simpa only [execO] using h
    | exit _ => simpa only [execO] using h
    | _ => simp [execO] at h

theorem execO_mono (P : Program) (O : Orc) {k k' : Nat} (hk : k ≤ k') : XLe (execO P O k) (execO P O k') := by
  induction hk with
  | refl => exact fun _ _ _ _ h => h
  | step _ ih => exact fun c f H r h => execO_succ P O _ c f H r (ih c f H r h)
theorem callAO_mono (P : Program) (O : Orc) {k k' : Nat} (hk : k ≤ k') : CLe (callAO P O k) (callAO P O k') := callO_mono (execO_mono P O hk)
theorem callO_wf {O : Orc} (hOw : CallWf O) {ex : Exec} (he : ExWf ex) : CallWf (callO P O ex) := by
  intro g args H r H' h hw
  unfold callO at h
  split at h
  · rename_i r' hr; cases h; exact hOw _ _ _ _ _ hr hw
  · exact callB_wf he g args H r H' h hw
theorem execO_wf {O : Orc} (hOw : CallWf O) : ∀ (k : Nat), ExWf (execO P O k) := by
  intro k
  induction k with
  | zero => intro c f H ex f' H' h; simp [execO] at h
  | succ k ih =>
    have hcall : CallWf (callO P O (execO P O k)) := callO_wf hOw ih
    intro c f H ex f' H' h hw
    cases c with
    | region id ops draw =>
      simp only [execO, Bool.cond_eq_ite] at h
      split at h
      · split at h
        · rename_i f1 H1 tr hr
          have := runOps_wf hcall _ _ _ _ _ _ hr hw
          repeat' split at h
          all_goals first | (cases h; done) | (simp at h; obtain ⟨_, _, rfl⟩ := h; exact this)
        · rename_i f1 H1 tr hr
          have := runOps_wf hcall _ _ _ _ _ _ hr hw
          repeat' split at h
          all_goals first | (cases h; done) | (simp at h; obtain ⟨_, _, rfl⟩ := h; exact this)
        · cases h
      · split at h
        · cases h
        · split at h
          · rename_i f1 H1 tr hr
            have := runOps_wf hcall _ _ _ _ _ _ hr hw
            split at h
            · simp at h; obtain ⟨_, _, rfl⟩ := h; exact this
            · cases h
          · cases h
    | seq x y =>
      simp only [execO] at h
      split at h
      · rename_i hr; exact ih _ _ _ _ _ _ h (ih _ _ _ _ _ _ hr hw)
      · exact ih _ _ _ _ _ _ h hw
    | loop x =>
      simp only [execO] at h
      split at h
      · rename_i hr; exact ih _ _ _ _ _ _ h (ih _ _ _ _ _ _ hr hw)
      · exact ih _ _ _ _ _ _ h hw
    | cond x p q =>
      simp only [execO, Bool.cond_eq_ite] at h
      split at h
      · split at h
        · exact ih _ _ _ _ _ _ h hw
        · exact ih _ _ _ _ _ _ h hw
      · cases h
    | block id x =>
      simp only [execO, Bool.cond_eq_ite] at h
      split at h
      · rename_i hr
        have := ih _ _ _ _ _ _ hr hw
        split at h
        · simp at h; obtain ⟨_, _, rfl⟩ := h; exact this
        · simp at h; obtain ⟨_, _, rfl⟩ := h; exact this
      · exact ih _ _ _ _ _ _ h hw
    | scope x => simp only [execO] at h; exact ih _ _ _ _ _ _ h hw
    | _ => first | (simp [execO] at h; done) | (simp [execO] at h; obtain ⟨_, _, rfl⟩ := h; exact hw)
theorem callAO_wf {O : Orc} (hOw : CallWf O) (k : Nat) : CallWf (callAO P O k) := callO_wf hOw (execO_wf hOw k)
theorem callO_sound {O : Orc} (hO : CallOk P O) (hname : ∀ (g : FuncId) fn, P.funcs[g]? = some fn → fn.name ≠ "runtime.NumGoroutine") (hcode : ∀ (g : FuncId) fn c, P.funcs[g]? = some fn → bodyOf fn = some c → codeOk P c = true)
    {ex : Exec} (hex : ExOk P ex) (hwx : ExWf ex) : CallOk P (callO P O ex) := by
  intro g args H r H' h
  unfold callO at h
  split at h
  · rename_i r' hr; cases h; exact hO g args H r H' hr
  · exact callB_sound hname hcode hex hwx g args H r H' h

theorem execO_sound {O : Orc} (hOw : CallWf O) (hO : CallOk P O) (hmix : P.follows .mixedOrders = true) (hname : ∀ (g : FuncId) fn, P.funcs[g]? = some fn → fn.name ≠ "runtime.NumGoroutine")
    (hreg : ∀ (g : FuncId) fn c, P.funcs[g]? = some fn → bodyOf fn = some c → codeOk P c = true) :
    ∀ k, ExOk P (execO P O k) ∧
    (∀ c f H ex f' H', codeOk P c = true → execO P O k (.loop c) f H = some (ex, f', H') →
      H.next ≤ H'.next ∧ ∀ ρ base w a (Q : Exit → Act → World → Prop), Wf H → Sim ρ base H w → FRel ρ f a → Fresh ρ H.next H'.next → EOk ρ base H w Q f' H' ex → Code.rounds P c Q k a w) := by
  intro k
  induction k with
  | zero => exact ⟨fun c f H ex f' H' _ h => by simp [execO] at h, fun c f H ex f' H' _ h => by simp [execO] at h⟩
  | succ k ih =>
    have hcall := callO_sound (P := P) hO hname hreg ih.1 (execO_wf hOw k)
    have hcwf : CallWf (callO P O (execO P O k)) := callO_wf hOw (execO_wf hOw k)
    have hB : ∀ c f H ex f' H', codeOk P c = true → execO P O (k + 1) (.loop c) f H = some (ex, f', H') →
      H.next ≤ H'.next ∧ ∀ ρ base w a (Q : Exit → Act → World → Prop), Wf H → Sim ρ base H w → FRel ρ f a → Fresh ρ H.next H'.next → EOk ρ base H w Q f' H' ex → Code.rounds P c Q (k + 1) a w := by
      intro c f H ex f' H' hc h
      simp only [execO] at h
      split at h
      · rename_i f1 H1 h1
        obtain ⟨n1, w1⟩ := ih.1 c f H _ f1 H1 hc h1
        obtain ⟨n2, w2⟩ := ih.2 c f1 H1 _ f' H' hc h
        refine ⟨Nat.le_trans n1 n2, fun ρ base w a Q hwf hs hf hfr he => ?_⟩
        rw [rounds_succ]
        refine w1 ρ base w a _ hwf hs hf (fun b q1 q2 => hfr b q1 (by omega)) fun ρ' a' w' ok hf' => ?_
        exact w2 ρ' base w' a' Q (execO_wf hOw _ _ _ _ _ _ _ h1 hwf) ok.sim hf' (Fresh.rest hfr ok.mono n1) (he.after ok n1 n2)
      · rename_i hne
        obtain ⟨n1, w1⟩ := ih.1 c f H ex f' H' hc h
        refine ⟨n1, fun ρ base w a Q hwf hs hf hfr he => ?_⟩
        rw [rounds_succ]
        refine w1 ρ base w a _ hwf hs hf hfr ?_
        cases ex with
        | normal => exact (hne _ _ h).elim
        | exit id => exact he
        | ret => exact he
        | panic v => exact he
    refine ⟨?_, hB⟩
    intro c f H ex f' H' hc h
    cases c with
    | skip => simp [execO] at h; obtain ⟨rfl, rfl, rfl⟩ := h; exact ⟨Nat.le_refl _, fun ρ base w a Q hwf hs hf _ he => wp_skip (he ρ a w (Ok.refl hs) hf)⟩
    | label l => simp [execO] at h; obtain ⟨rfl, rfl, rfl⟩ := h; exact ⟨Nat.le_refl _, fun ρ base w a Q hwf hs hf _ he => wp_label (he ρ a w (Ok.refl hs) hf)⟩
    | ret => simp [execO] at h; obtain ⟨rfl, rfl, rfl⟩ := h; exact ⟨Nat.le_refl _, fun ρ base w a Q hwf hs hf _ he => wp_ret (he ρ a w (Ok.refl hs) hf)⟩
    | exit id => simp [execO] at h; obtain ⟨rfl, rfl, rfl⟩ := h; exact ⟨Nat.le_refl _, fun ρ base w a Q hwf hs hf _ he => wp_exit (he ρ a w (Ok.refl hs) hf)⟩
    | seq x y =>
      simp only [codeOk, Bool.and_eq_true] at hc
      simp only [execO] at h
      split at h
      · rename_i f1 H1 h1
        obtain ⟨n1, w1⟩ := ih.1 x f H _ f1 H1 hc.1 h1
        obtain ⟨n2, w2⟩ := ih.1 y f1 H1 _ f' H' hc.2 h
        refine ⟨Nat.le_trans n1 n2, fun ρ base w a Q hwf hs hf hfr he => wp_seq (w1 ρ base w a _ hwf hs hf (fun b q1 q2 => hfr b q1 (by omega)) fun ρ' a' w' ok hf' => ?_)⟩
        exact w2 ρ' base w' a' Q (execO_wf hOw _ _ _ _ _ _ _ h1 hwf) ok.sim hf' (Fresh.rest hfr ok.mono n1) (he.after ok n1 n2)
      · rename_i hne
        obtain ⟨n1, w1⟩ := ih.1 x f H ex f' H' hc.1 h
        refine ⟨n1, fun ρ base w a Q hwf hs hf hfr he => wp_seq (w1 ρ base w a _ hwf hs hf hfr ?_)⟩
        cases ex with
        | normal => exact (hne _ _ h).elim
        | exit id => exact he
        | ret => exact he
        | panic v => exact he
    | cond x p q =>
      simp only [codeOk, Bool.and_eq_true] at hc
      simp only [execO] at h
      split at h
      · rename_i t hx
        cases t with
        | true =>
          simp only [cond_true] at h
          obtain ⟨n1, w1⟩ := ih.1 p f H ex f' H' hc.1 h
          refine ⟨n1, fun ρ base w a Q hwf hs hf hfr he => ?_⟩
          have hr := evO_rel hf hx
          generalize hv : a.eval x = xv at hr
          cases hr
          exact wp_cond_true hv (w1 ρ base w a Q hwf hs hf hfr he)
        | false =>
          simp only [cond_false] at h
          obtain ⟨n1, w1⟩ := ih.1 q f H ex f' H' hc.2 h
          refine ⟨n1, fun ρ base w a Q hwf hs hf hfr he => ?_⟩
          have hr := evO_rel hf hx
          generalize hv : a.eval x = xv at hr
          cases hr
          exact wp_cond_false hv (w1 ρ base w a Q hwf hs hf hfr he)
      · cases h
    | block id x =>
      simp only [codeOk] at hc
      simp only [execO] at h
      split at h
      · rename_i i f1 H1 h1
        obtain ⟨n1, w1⟩ := ih.1 x f H _ f1 H1 hc h1
        cases hb : Nat.beq i id with
        | true =>
          simp [hb] at h
          obtain ⟨rfl, rfl, rfl⟩ := h
          have e : i = id := Nat.eq_of_beq_eq_true hb
          refine ⟨n1, fun ρ base w a Q hwf hs hf hfr he => wp_block (w1 ρ base w a _ hwf hs hf hfr fun ρ' a' w' ok hf' => ?_)⟩
          show (if i = id then Q .normal a' w' else Q (.exit i) a' w')
          rw [if_pos e]; exact he ρ' a' w' ok hf'
        | false =>
          simp [hb] at h
          obtain ⟨rfl, rfl, rfl⟩ := h
          have e : i ≠ id := fun e => by rw [e] at hb; simp at hb
          refine ⟨n1, fun ρ base w a Q hwf hs hf hfr he => wp_block (w1 ρ base w a _ hwf hs hf hfr fun ρ' a' w' ok hf' => ?_)⟩
          show (if i = id then Q .normal a' w' else Q (.exit i) a' w')
          rw [if_neg e]; exact he ρ' a' w' ok hf'
      · rename_i hne
        obtain ⟨n1, w1⟩ := ih.1 x f H ex f' H' hc h
        refine ⟨n1, fun ρ base w a Q hwf hs hf hfr he => wp_block (w1 ρ base w a _ hwf hs hf hfr ?_)⟩
        cases ex with
        | normal => exact he
        | exit id => exact (hne _ _ _ h).elim
        | ret => exact he
        | panic v => exact he
    | loop x =>
      simp only [codeOk] at hc
      obtain ⟨n1, w1⟩ := hB x f H ex f' H' hc h
      exact ⟨n1, fun ρ base w a Q hwf hs hf hfr he => wp_loop_rounds (k + 1) (w1 ρ base w a Q hwf hs hf hfr he)⟩
    | region id ops draw =>
      simp only [execO] at h
      split at h
      · split at h
        · rename_i f1 H1 tr hrun
          obtain ⟨n1, w1⟩ := plain_wp hcall hcwf hname ops.toList 0 f H [] _ (fun j => by simp) hrun
          cases draw with
          | true =>
            simp only [cond_true] at h
            cases hd : drawOk ops tr with
            | false => simp [hd] at h
            | true =>
              simp [hd] at h
              obtain ⟨rfl, rfl, rfl⟩ := h
              simp only [codeOk, Bool.not_true, Bool.false_or] at hc
              refine ⟨n1, fun ρ base w a Q hwf hs hf hfr he => wp_region_any hmix ?_⟩
              refine draw_sound hname hcall hcwf hc hrun hd hwf ρ base _ a Q (hs.of_heap rfl) hf hfr ?_
              intro ρ' a' w' ok hf'
              refine he ρ' a' w' ⟨ok.mono, ok.sim, ?_⟩ hf'
              exact (Step.of_heap (ρ := ρ) (H := H) (w := w) (w' := { w with drawn := w.drawn + 1 }) rfl rfl rfl rfl).trans ok.step
          | false =>
            simp at h
            obtain ⟨rfl, rfl, rfl⟩ := h
            refine ⟨n1, fun ρ base w a Q hwf hs hf hfr he => wp_region ?_⟩
            have := w1 ρ base w a Q hwf hs hf hfr he
            rw [List.range_eq_range']
            simpa using this
        · rename_i v f1 H1 hrun
          obtain ⟨n1, w1⟩ := plain_wp hcall hcwf hname ops.toList 0 f H [] _ (fun j => by simp) hrun
          cases draw with
          | true => simp at h
          | false =>
            simp at h
            obtain ⟨rfl, rfl, rfl⟩ := h
            refine ⟨n1, fun ρ base w a Q hwf hs hf hfr he => wp_region ?_⟩
            have := w1 ρ base w a Q hwf hs hf hfr he
            rw [List.range_eq_range']
            simpa using this
        · cases h
      · -- it defers
        rename_i pre o cl hld
        obtain ⟨hl, hop, hg⟩ := lastDefer_spec hld
        cases draw with
        | true => simp at h
        | false =>
          simp only [cond_false] at h
          split at h
          · rename_i f1 H1 tr hrun
            split at h
            · rename_i d f2 hd hput
              simp at h
              obtain ⟨rfl, rfl, rfl⟩ := h
              have hsz : ops.size = pre.length + 1 := by rw [← Array.length_toList, hl]; simp
              have hpre : ∀ j, j < pre.length → pre[j]? = ops[0 + j]? := fun j hj => by rw [Nat.zero_add, ← Array.getElem?_toList, hl, List.getElem?_append_left hj]
              have hlast : ops[pre.length]? = some o := by rw [← Array.getElem?_toList, hl]; simp
              obtain ⟨n1, w1⟩ := plain_to hcall hcwf hname pre 0 f H [] _ hpre hrun
              refine ⟨n1, fun ρ base w a Q hwf hs hf hfr he => wp_region ?_⟩
              have := w1 [pre.length] ρ base w a Q hwf hs hf hfr (fun ρ1 a1 w2 ok1 hf1 => ?_)
              · rw [hsz, List.range_eq_range', List.range'_concat]; simpa using this
              · simp only [wpOps, hlast]
                rw [if_pos (by simp [Region.wanted, hg])]
                left
                unfold deferA at hd
                split at hd
                · rename_i x hcl
                  split at hd
                  · rename_i g fi ca args hgx hargs
                    simp at hd
                    subst hd
                    have hgr := evO_rel hf1 hgx
                    generalize hgv : a1.eval x = gv at hgr
                    cases hgr with
                    | func _ p1 p2 p3 p4 =>
                    rename_i fi' ca'
                    have hrun2 : (execOp a1.eval o).run P w2 = .ok (.defer ⟨.fn (.func g) ca', fi' ++ cl.args.map a1.eval⟩) w2 := by
                      simp only [execOp, hop, resolve, hcl, hgv, Deferred.ofValue, Sem.run_bind, Sem.run_pure, Result.andThen_ok]
                    unfold Oper.wp
                    rw [hrun2, Oper.upon_defer]
                    refine he ρ1 _ w2 ok1 ?_
                    have hdr : DRel ρ1 (g, fi.toList ++ (args ++ ca.toList)) ⟨.fn (.func g) ca', fi' ++ cl.args.map a1.eval⟩ := by
                      refine ⟨ca', fi' ++ cl.args.map a1.eval, rfl, ?_⟩
                      rw [← List.append_assoc]
                      rw [Array.toList_append]
                      exact LRel.append (LRel.append (vs_of_idx p1 p3) (by simpa using evL_rel hf1 hargs)) (vs_of_idx p2 p4)
                    have hf2 := hf1.put hput (VRel.undef ρ1)
                    obtain ⟨e1, e2⟩ := Fr.put_fix hput
                    have hdef : ∀ (a : Act) (d : Option Tmp) (v : Value) (l : List Deferred), ({ a with defers := l } : Act).put d v = { a.put d v with defers := l } := fun a d v l => by cases d <;> rfl
                    rw [hdef]
                    refine ⟨hf2.val, hf2.size, ⟨hdr, ?_⟩, hf2.glob⟩
                    have := hf2.defers
                    have hpd : (a1.put o.dst undef).defers = a1.defers := by cases o.dst <;> rfl
                    rw [hpd] at this
                    exact this
                  · cases hd
                · cases hd
            · cases h
          · cases h
    | rangeFunc _ _ _ _ => simp [execO] at h
    | scope x =>
      simp only [codeOk] at hc
      simp only [execO] at h
      obtain ⟨n1, w1⟩ := ih.1 x f H ex f' H' hc h
      refine ⟨n1, fun ρ base w a Q hwf hs hf hfr he => wp_scope_straight (w1 ρ base w a _ hwf hs hf hfr ?_)⟩
      cases ex with
      | normal => exact he
      | exit id => exact he
      | ret => exact he
      | panic v => exact he
    | goto _ => simp [execO] at h
    | refuse _ => simp [execO] at h
end Go.AX
