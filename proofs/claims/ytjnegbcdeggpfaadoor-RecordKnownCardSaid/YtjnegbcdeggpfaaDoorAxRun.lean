/- Regions in the order of the text. -/
import Derived.Test.YtjnegbcdeggpfaaDoorAxOp
namespace Go.AX
open Go Go.RowKit
set_option linter.unusedVariables false
set_option linter.unusedSimpArgs false

variable {P : Program}

theorem wanted_rel {ρ : Rho} {f : Fr} {a : Act} (hf : FRel ρ f a) (ops : Array Oper) (o : Oper) : Region.wanted o (yielded ops a.tmps) = wantedA ops o f := by
  unfold Region.wanted wantedA
  cases hg : o.guard with
  | none => rfl
  | some jw =>
    obtain ⟨j, want⟩ := jw
    simp only [yielded]
    cases hd : (ops[j]?).bind (·.dst) with
    | none => rfl
    | some d =>
      simp only [Option.bind_some]
      have hv := hf.val d
      rw [Array.getD_eq_getD_getElem?] at hv
      generalize hx : f.get d = x at hv
      cases hq : a.tmps[d]? with
      | none =>
        rw [hq] at hv
        simp only [Option.getD_none] at hv
        cases hv <;> rfl
      | some y =>
        rw [hq] at hv
        simp only [Option.getD_some] at hv
        cases hv with
        | hid h1 h2 =>
          cases y with
          | bool b => exact (h2 b rfl).elim
          | _ => first | rfl | (simp; done)
        | _ => first | rfl | (simp; done)

/-- One operation that panics. -/
theorem op_panic {call : FuncId → List Value → AHeap → Option (CRes × AHeap)} (hcall : CallOk P call) (hname : ∀ (g : FuncId) fn, P.funcs[g]? = some fn → fn.name ≠ "runtime.NumGoroutine")
    {f : Fr} {H H' : AHeap} {o : Oper} {v : Value} (h : aOp P call f H o.op = some (.panic v H')) :
    H.next ≤ H'.next ∧ ∀ ρ base w a (K : Act → World → Prop) (Q : Exit → Act → World → Prop), Wf H → Sim ρ base H w → FRel ρ f a → Fresh ρ H.next H'.next →
      (∀ v' w' ρ', VRel ρ' v v' → Ok ρ base H w ρ' H' w' → Q (.panic [{ v := v', recovered := false }]) a w') → o.wp P a w K Q := by
  have quiet : ∀ op, (aQuiet P f op).map (fun v => Out.val v H .quiet) = some (.panic v H') → False := by
    intro op hq
    cases hv : aQuiet P f op <;> simp [hv] at hq
  have make : ∀ op, (match aMake P f op with | some (ob, vf) => some (Out.val (vf H.next) (H.push ob) (.make H.next ob)) | none => none) = some (.panic v H') → False := by
    intro op hq
    split at hq <;> simp at hq
  cases ho : o.op with
  | alloc e => rw [ho] at h; exact (make _ h).elim
  | box e x => rw [ho] at h; exact (make _ h).elim
  | buildSlice t l ps => rw [ho] at h; exact (make _ h).elim
  | makeSlice t l c => rw [ho] at h; exact (make _ h).elim
  | makeMap t r => rw [ho] at h; exact (make _ h).elim
  | range t x => rw [ho] at h; exact (make _ h).elim
  | next it isS =>
    exfalso
    simp only [ho, aOp] at h
    split at h
    · obtain ⟨_, _, e | ⟨_, _, _, _, e⟩⟩ := next_wf h <;> cases e
    · cases h
  | load t x =>
    exfalso
    simp only [ho, aOp] at h
    split at h
    · simp only [aLoad, Bool.cond_eq_ite] at h
      repeat' split at h
      all_goals (simp at h; done)
    · cases h
  | store t x y =>
    exfalso
    simp only [ho, aOp] at h
    split at h
    · simp only [aStore, Bool.cond_eq_ite] at h
      repeat' split at h
      all_goals (simp at h; done)
    · cases h
  | panic x =>
    simp only [ho, aOp] at h
    split at h
    · rename_i t u hx
      simp at h
      obtain ⟨rfl, rfl⟩ := h
      refine ⟨Nat.le_refl _, fun ρ base w a K Q hwf hs hf hfr hk => ?_⟩
      have hr := evO_rel hf hx
      generalize hv : a.eval x = xv at hr
      cases hr with
      | iface _ hr =>
      rename_i u'
      have hrun : (execOp a.eval o).run P w = .halt (.panic (.iface t u')) w := by
        simp only [execOp, ho, hv, Instr.panic, Sem.run_bind]; rfl
      unfold Oper.wp; rw [hrun]
      exact hk _ w ρ (.iface t hr) (Ok.refl hs)
    · cases h
  | convert t d x =>
    exfalso
    simp only [ho, aOp] at h
    split at h
    · obtain ⟨_, _, e⟩ := text_wf h; cases e
    · cases h
  | lookup t m k ok =>
    exfalso
    simp only [ho, aOp] at h
    split at h
    · obtain ⟨_, _, e⟩ := lookup_wf h; cases e
    · cases h
  | mapUpdate t m k y =>
    exfalso
    simp only [ho, aOp] at h
    split at h
    · obtain ⟨_, _, _, _, _, e⟩ := upd_wf h; cases e
    · cases h
  | insert t m k y =>
    exfalso
    simp only [ho, aOp] at h
    split at h
    · obtain ⟨_, _, _, _, _, e⟩ := upd_wf h; cases e
    · cases h
  | call c =>
    simp only [ho, aOp] at h
    split at h
    · exfalso
      split at h
      · simp only [aAppend, aAppendTo, Bool.cond_eq_ite] at h
        repeat' split at h
        all_goals (simp at h; done)
      · cases h
    · exfalso
      split at h
      · obtain ⟨_, _, e | ⟨_, _, _, _, e⟩⟩ := copy_wf h <;> cases e
      · cases h
    · exfalso
      split at h
      · obtain ⟨_, e | ⟨_, _, _, _, e⟩⟩ := del_wf h <;> cases e
      · cases h
    · exfalso
      split at h
      · obtain ⟨_, _, e | ⟨_, _, _, _, e⟩⟩ := clear_wf h <;> cases e
      · cases h
    · exfalso
      split at h
      · obtain ⟨_, e⟩ := data_wf h; cases e
      · cases h
    · exfalso
      split at h
      · obtain ⟨_, e | ⟨_, _, _, e⟩⟩ := utext_wf h <;> cases e
      · cases h
    · exfalso
      split at h
      · obtain ⟨_, _, e⟩ := len_wf h; cases e
      · cases h
    · rename_i x hc
      split at h
      · rename_i g fi ca args hg hargs
        split at h
        · simp at h
        · rename_i rv Hr hcl
          simp at h
          obtain ⟨rfl, rfl⟩ := h
          obtain ⟨c1, ⟨⟨fn, cd, c2, c3⟩, c4⟩ | ⟨-, v0, hv0, -⟩⟩ := hcall _ _ _ _ _ hcl
          case inr => cases hv0
          refine ⟨c1, fun ρ base w a K Q hwf hs hf hfr hk => ?_⟩
          have hgr := evO_rel hf hg
          generalize hgv : a.eval x = gv at hgr
          cases hgr with
          | func _ p1 p2 p3 p4 =>
          rename_i fi' ca'
          have hrun := call_resolve (P := P) (w := w) ho hc hgv hname c2 c3
          have hrel : VsRel ρ (fi.toList ++ args ++ ca.toList) (fi' ++ c.args.map a.eval ++ ca').toList := by
            rw [Array.toList_append, Array.toList_append]
            exact LRel.append (LRel.append (vs_of_idx p1 p3) (by simpa using evL_rel hf hargs)) (vs_of_idx p2 p4)
          unfold Oper.wp
          rw [hrun]
          show Calls P g _ w _
          refine (c4 hwf ρ base w _ hs hrel hfr).mono fun e w' he => ?_
          obtain ⟨ρ', k1, k2⟩ := he
          cases e with
          | returned v' => exact k2.elim
          | panicked chain => obtain ⟨v', rfl, hv'⟩ := k2; exact hk v' w' ρ' hv' k1
          | outgrown => exact k2.elim
        · cases h
      · cases h
    · exact (quiet _ h).elim
    · cases h
  | _ => rw [ho] at h; exact (quiet o.op (by rw [ho]; exact h)).elim

/-- What a region's end owes. -/
def ROk (ρ : Rho) (base : Nat) (H : AHeap) (w : World) (Q : Exit → Act → World → Prop) : ROut → Prop
  | .done f' H' _ => ∀ ρ' a' w', Ok ρ base H w ρ' H' w' → FRel ρ' f' a' → Q .normal a' w'
  | .panic v f' H' => ∀ ρ' a' w' v', Ok ρ base H w ρ' H' w' → FRel ρ' f' a' → VRel ρ' v v' → Q (.panic [{ v := v', recovered := false }]) a' w'

theorem Fresh.rest {ρ ρ' : Rho} {n m l : Nat} (h : Fresh ρ n l) (hm : Mono n m ρ ρ') (h1 : n ≤ m) : Fresh ρ' m l := fun b hb1 hb2 => by
  have h0 := h b (by omega) hb2
  rcases hm.out b (by omega) with e | ⟨c, k, x, e1, _⟩
  · rw [e]; exact h0
  · rw [h0] at e1; cases e1
theorem Ok.trans {ρ ρ1 ρ2 : Rho} {base : Nat} {H H1 H2 : AHeap} {w w1 w2 : World} (h : Ok ρ base H w ρ1 H1 w1) (h' : Ok ρ1 base H1 w1 ρ2 H2 w2) (n1 : H.next ≤ H1.next) (n2 : H1.next ≤ H2.next) : Ok ρ base H w ρ2 H2 w2 :=
  ⟨h.mono.trans h'.mono n1 n2, h'.sim, h.step.trans h'.step⟩

/-- What a region's beginning owes to what comes behind it. -/
def RTo (ρ : Rho) (base : Nat) (H : AHeap) (w : World) (K : Act → World → Prop) (Q : Exit → Act → World → Prop) : ROut → Prop
  | .done f' H' _ => ∀ ρ' a' w', Ok ρ base H w ρ' H' w' → FRel ρ' f' a' → K a' w'
  | .panic v f' H' => ∀ ρ' a' w' v', Ok ρ base H w ρ' H' w' → FRel ρ' f' a' → VRel ρ' v v' → Q (.panic [{ v := v', recovered := false }]) a' w'

theorem plain_to {call : FuncId → List Value → AHeap → Option (CRes × AHeap)} (hcall : CallOk P call) (hcw : CallWf call) (hname : ∀ (g : FuncId) fn, P.funcs[g]? = some fn → fn.name ≠ "runtime.NumGoroutine") {ops : Array Oper} :
    ∀ (l : List Oper) (i : Nat) (f : Fr) (H : AHeap) (tr : List (Nat × Ev)) (out : ROut), (∀ j, j < l.length → l[j]? = ops[i + j]?) → runOps P call ops l i f H tr = some out →
    H.next ≤ out.heap.next ∧ ∀ (tail : List Nat) ρ base w a (Q : Exit → Act → World → Prop), Wf H → Sim ρ base H w → FRel ρ f a → Fresh ρ H.next out.heap.next → RTo ρ base H w (wpOps P ops Q tail) Q out → wpOps P ops Q (List.range' i l.length ++ tail) a w
  | [], i, f, H, tr, out, _, h => by
    simp [runOps] at h; subst h
    exact ⟨Nat.le_refl _, fun tail ρ base w a Q hwf hs hf _ hk => hk ρ a w (Ok.refl hs) hf⟩
  | o :: r, i, f, H, tr, out, hl, h => by
    have ho : ops[i]? = some o := by have := hl 0 (by simp); simpa using this.symm
    have hl' : ∀ j, j < r.length → r[j]? = ops[i + 1 + j]? := fun j hj => by have := hl (j + 1) (by simpa using hj); rw [show i + 1 + j = i + (j + 1) by omega]; simpa using this
    simp only [runOps] at h
    cases hw : wantedA ops o f with
    | true =>
      simp only [hw, cond_true] at h
      split at h
      · rename_i v H1 e hop
        split at h
        · rename_i f1 hp
          obtain ⟨n1, h1⟩ := op_val hcall hname hop
          obtain ⟨n2, h2⟩ := plain_to hcall hcw hname r (i + 1) f1 H1 _ out hl' h
          refine ⟨Nat.le_trans n1 n2, fun tail ρ base w a Q hwf hs hf hfr hk => ?_⟩
          simp only [List.length_cons, List.range'_succ, List.cons_append, wpOps, ho]
          rw [if_pos (by rw [wanted_rel hf]; exact hw)]
          refine .inl (h1 ρ base w a _ Q (fun _ _ _ => hwf) hs hf (fun b q1 q2 => hfr b q1 (by omega)) fun v' w' ρ' hv hok => ?_)
          refine h2 tail ρ' base w' _ Q (op_wf hcw hop hwf) hok.sim ((hf.mono hok.mono).put hp hv) (Fresh.rest hfr hok.mono n1) ?_
          cases out with
          | done f' H' tr' => exact fun ρ2 a2 w2 ok2 hf2 => hk ρ2 a2 w2 (hok.trans ok2 n1 n2) hf2
          | panic v2 f' H' => exact fun ρ2 a2 w2 v3 ok2 hf2 hv2 => hk ρ2 a2 w2 v3 (hok.trans ok2 n1 n2) hf2 hv2
        · cases h
      · rename_i v H1 hop
        simp at h; subst h
        obtain ⟨n1, h1⟩ := op_panic hcall hname hop
        refine ⟨n1, fun tail ρ base w a Q hwf hs hf hfr hk => ?_⟩
        simp only [List.length_cons, List.range'_succ, List.cons_append, wpOps, ho]
        rw [if_pos (by rw [wanted_rel hf]; exact hw)]
        exact .inl (h1 ρ base w a _ Q hwf hs hf hfr fun v' w' ρ' hv hok => hk ρ' a w' v' hok (hf.mono hok.mono) hv)
      · cases h
    | false =>
      simp only [hw, cond_false] at h
      split at h
      · rename_i f1 hp
        obtain ⟨n2, h2⟩ := plain_to hcall hcw hname r (i + 1) f1 H _ out hl' h
        refine ⟨n2, fun tail ρ base w a Q hwf hs hf hfr hk => ?_⟩
        simp only [List.length_cons, List.range'_succ, List.cons_append, wpOps, ho]
        rw [if_neg (by rw [wanted_rel hf, hw]; simp)]
        exact h2 tail ρ base w _ Q hwf hs (hf.put hp (VRel.undef ρ)) hfr hk
      · cases h

theorem plain_wp {call : FuncId → List Value → AHeap → Option (CRes × AHeap)} (hcall : CallOk P call) (hcw : CallWf call) (hname : ∀ (g : FuncId) fn, P.funcs[g]? = some fn → fn.name ≠ "runtime.NumGoroutine") {ops : Array Oper}
    (l : List Oper) (i : Nat) (f : Fr) (H : AHeap) (tr : List (Nat × Ev)) (out : ROut) (hl : ∀ j, l[j]? = ops[i + j]?) (h : runOps P call ops l i f H tr = some out) :
    H.next ≤ out.heap.next ∧ ∀ ρ base w a (Q : Exit → Act → World → Prop), Wf H → Sim ρ base H w → FRel ρ f a → Fresh ρ H.next out.heap.next → ROk ρ base H w Q out → wpOps P ops Q (List.range' i l.length) a w := by
  obtain ⟨n, k⟩ := plain_to hcall hcw hname l i f H tr out (fun j _ => hl j) h
  refine ⟨n, fun ρ base w a Q hwf hs hf hfr hk => ?_⟩
  have := k [] ρ base w a Q hwf hs hf hfr (by cases out <;> exact hk)
  simpa using this
end Go.AX
