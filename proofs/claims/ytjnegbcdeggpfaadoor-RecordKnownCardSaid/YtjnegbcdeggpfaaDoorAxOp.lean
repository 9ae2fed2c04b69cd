/- One operation. -/
import Derived.Test.YtjnegbcdeggpfaaDoorAxWf
namespace Go.AX
open Go Go.RowKit
set_option linter.unusedVariables false
set_option linter.unusedSimpArgs false

variable {P : Program}

/-- How a call ends, seen from both sides. -/
def Ends (ρ : Rho) (base : Nat) (H : AHeap) (w : World) (H' : AHeap) (r : CRes) (e : Ending) (w' : World) : Prop :=
  ∃ ρ', Ok ρ base H w ρ' H' w' ∧ match r, e with
    | .ret v, .returned v' => VRel ρ' v v'
    | .panic v, .panicked chain => ∃ v', chain = [{ v := v', recovered := false }] ∧ VRel ρ' v v'
    | _, _ => False

def Fresh (ρ : Rho) (n m : Nat) : Prop := ∀ b, n ≤ b → b < m → ρ b = .no

/-- A function without a body, that the model itself answers. -/
def ExtCall (P : Program) (g : FuncId) (args : List Value) (H : AHeap) (r : CRes) (H' : AHeap) : Prop :=
  H' = H ∧ ∃ v, r = .ret v ∧ (∀ b, v ≠ .bool b) ∧ ∀ ρ (args' : Array Value) w, VsRel ρ args args'.toList → ∃ v', (callFunc g args').run P w = .ok (.value v') w ∧ VRel ρ v v'
/-- How a call comes about. -/
def CallHow (P : Program) (g : FuncId) (args : List Value) (H : AHeap) (r : CRes) (H' : AHeap) : Prop :=
  ((∃ fn c, P.funcs[g]? = some fn ∧ fn.body = some c) ∧
    (Wf H → ∀ ρ base w (args' : Array Value), Sim ρ base H w → VsRel ρ args args'.toList → Fresh ρ H.next H'.next → Calls P g args' w (Ends ρ base H w H' r))) ∨ ExtCall P g args H r H'
/-- What is asked of 'call'. -/
def CallOk (P : Program) (call : FuncId → List Value → AHeap → Option (CRes × AHeap)) : Prop :=
  ∀ g args H r H', call g args H = some (r, H') → H.next ≤ H'.next ∧ CallHow P g args H r H'

theorem wp_of_value {o : Oper} {a : Act} {w w' : World} {v : Value} {K : Act → World → Prop} {Q : Exit → Act → World → Prop} (h : (execOp a.eval o).run P w = .ok (.value v) w') (hk : K (a.put o.dst v) w') : o.wp P a w K Q := by
  unfold Oper.wp; rw [h]; exact hk
theorem wp_of_skip {o : Oper} {a : Act} {w w' : World} {K : Act → World → Prop} {Q : Exit → Act → World → Prop} (h : (execOp a.eval o).run P w = .ok .skip w') (hk : K (a.put o.dst undef) w') : o.wp P a w K Q := by
  unfold Oper.wp; rw [h]; exact hk

theorem call_resolve {o : Oper} {c : Call} {a : Act} {w : World} {x : Operand} {g : FuncId} {fi ca : Array Value} {fn : Func} {cd : Code} (ho : o.op = .call c) (hc : c.callee = .value x) (hx : a.eval x = .func (.func g) fi ca)
    (hname : ∀ (g : FuncId) fn, P.funcs[g]? = some fn → fn.name ≠ "runtime.NumGoroutine") (hf : P.funcs[g]? = some fn) (hb : fn.body = some cd) :
    (execOp a.eval o).run P w = .ok (.enter g (fi ++ c.args.map a.eval ++ ca)) w := by
  have hn : (fn.name == "runtime.NumGoroutine") = false := by simpa using hname g fn hf
  simp only [execOp, ho, resolve, hc, hx, Deferred.ofValue, Sem.run_bind, Sem.run_pure, Result.andThen_ok, invoke, callFunc, run_program, hf, hn, Bool.false_eq_true, if_false, hb, Option.isNone_some]

theorem appTo_next {H H' : AHeap} {size code by_ len cap n : Nat} {base : Option Addr} {new : List Value} {v : Value} {ev : Ev} (h : aAppendTo H size code by_ base len cap n new = some (.val v H' ev)) : H.next ≤ H'.next := by
  simp only [aAppendTo, Bool.cond_eq_ite] at h
  repeat' split at h
  all_goals first | (cases h; done) | (simp only [Option.some.injEq, Out.val.injEq] at h; obtain ⟨_, rfl, _⟩ := h; simp)
theorem append_next {H H' : AHeap} {ts : Array TypeId} {l : List Value} {v : Value} {ev : Ev} (h : aAppend P H ts l = some (.val v H' ev)) : H.next ≤ H'.next := by
  simp only [aAppend, Bool.cond_eq_ite] at h
  repeat' split at h
  all_goals first | (cases h; done) | exact appTo_next h

theorem evL_one {f : Fr} {args : Array Operand} {x : Value} (h : evL f args.toList = some [x]) : (args[0]?).bind (evO f) = some x := by
  obtain ⟨l⟩ := args
  rcases l with _ | ⟨y, _ | ⟨z, l⟩⟩
  · simp [evL] at h
  · simp only [evL] at h
    cases hy : evO f y with
    | none => simp [hy] at h
    | some v => simp [hy] at h; subst h; simpa using hy
  · simp only [evL] at h
    cases hy : evO f y with
    | none => simp [hy] at h
    | some v => cases hz : evO f z with
      | none => simp [hy, hz] at h
      | some v2 => cases hl : evL f l <;> simp [hy, hz, hl] at h

/-- One operation that gives a value. -/
theorem op_val {call : FuncId → List Value → AHeap → Option (CRes × AHeap)} (hcall : CallOk P call) (hname : ∀ (g : FuncId) fn, P.funcs[g]? = some fn → fn.name ≠ "runtime.NumGoroutine")
    {f : Fr} {H H' : AHeap} {o : Oper} {v : Value} {ev : Ev} (h : aOp P call f H o.op = some (.val v H' ev)) :
    H.next ≤ H'.next ∧ ∀ ρ base w a (K : Act → World → Prop) (Q : Exit → Act → World → Prop), (∀ H1 H2, ev = .eff H1 H2 → Wf H) → Sim ρ base H w → FRel ρ f a → Fresh ρ H.next H'.next →
      (∀ v' w' ρ', VRel ρ' v v' → Ok ρ base H w ρ' H' w' → K (a.put o.dst v') w') → o.wp P a w K Q := by
  have quiet : (aQuiet P f o.op).map (fun v => Out.val v H .quiet) = some (.val v H' ev) → H.next ≤ H'.next ∧ ∀ ρ base w a (K : Act → World → Prop) (Q : Exit → Act → World → Prop), (∀ H1 H2, ev = .eff H1 H2 → Wf H) → Sim ρ base H w → FRel ρ f a → Fresh ρ H.next H'.next →
      (∀ v' w' ρ', VRel ρ' v v' → Ok ρ base H w ρ' H' w' → K (a.put o.dst v') w') → o.wp P a w K Q := by
    intro hq
    cases hv : aQuiet P f o.op with
    | none => simp [hv] at hq
    | some u =>
      simp [hv] at hq
      obtain ⟨rfl, rfl, rfl⟩ := hq
      refine ⟨Nat.le_refl _, fun ρ base w a K Q hwf hs hf _ hk => ?_⟩
      obtain ⟨v', h1, h2⟩ := quiet_run (P := P) hf hv w
      exact wp_of_value h1 (hk v' w ρ h2 (Ok.refl hs))
  have make : (match aMake P f o.op with | some (ob, vf) => some (Out.val (vf H.next) (H.push ob) (.make H.next ob)) | none => none) = some (.val v H' ev) → H.next ≤ H'.next ∧ ∀ ρ base w a (K : Act → World → Prop) (Q : Exit → Act → World → Prop), (∀ H1 H2, ev = .eff H1 H2 → Wf H) → Sim ρ base H w → FRel ρ f a → Fresh ρ H.next H'.next →
      (∀ v' w' ρ', VRel ρ' v v' → Ok ρ base H w ρ' H' w' → K (a.put o.dst v') w') → o.wp P a w K Q := by
    intro hm
    split at hm
    · rename_i ob vf hmk
      simp at hm
      obtain ⟨rfl, rfl, rfl⟩ := hm
      refine ⟨by simp, fun ρ base w a K Q hwf hs hf hfr hk => ?_⟩
      have hno := hfr H.next (Nat.le_refl _) (by simp)
      obtain ⟨v', O, h1, h2⟩ := make_run (P := P) hf hmk w base hs.bsz
      obtain ⟨h3, h4⟩ := h2 H.next hno _ rfl
      obtain ⟨r1, r2⟩ := sim_new hs hno h4
      refine wp_of_value h1 (hk v' _ _ h3 ⟨⟨fun c hc => .inl (upd_ne _ _ ?_), fun c q1 q2 => ?_⟩, r1.congr (push_get H _), r2.congr (push_get H _)⟩)
      · intro e; exact hc (by simp; omega)
      · simp at q2; rw [show c = H.next by omega]; exact hno
    · cases hm
  cases ho : o.op with
  | alloc e => rw [ho] at h make; exact make h
  | box e x => rw [ho] at h make; exact make h
  | buildSlice t l ps => rw [ho] at h make; exact make h
  | makeSlice t l c => rw [ho] at h make; exact make h
  | makeMap t r => rw [ho] at h make; exact make h
  | range t x => rw [ho] at h make; exact make h
  | next it isS =>
    simp only [ho, aOp] at h
    split at h
    · rename_i iv hiv
      refine ⟨?_, fun ρ base w a K Q hwf hs hf _ hk => ?_⟩
      · obtain ⟨_, _, e | ⟨_, _, _, _, e⟩⟩ := next_wf h <;> cases e <;> exact Nat.le_refl _
      · obtain ⟨-, v', w', h1, h2, h3⟩ := next_run (P := P) (ty := o.type) hs h (evO_rel hf hiv)
        exact wp_of_value (by simp only [execOp, ho, Sem.run_bind, h1, Result.andThen_ok, Sem.run_pure]) (hk v' w' ρ h2 h3)
    · cases h
  | load t x =>
    simp only [ho, aOp] at h
    split at h
    · rename_i av hav
      refine ⟨?_, fun ρ base w a K Q hwf hs hf _ hk => ?_⟩
      · unfold aLoad at h
        split at h
        · rename_i b o' d n _ _
          cases hd : isAggD d <;> simp only [hd, cond_true, cond_false] at h <;> split at h <;> first | (simp at h; obtain ⟨_, rfl, _⟩ := h; exact Nat.le_refl _) | cases h
        · cases h
      · obtain ⟨rfl, -, v', h1, h2⟩ := load_run (P := P) hs h (evO_rel hf hav)
        exact wp_of_value (by simp only [execOp, ho, Sem.run_bind, h1, Result.andThen_ok, Sem.run_pure]) (hk v' w ρ h2 (Ok.refl hs))
    · cases h
  | store t x y =>
    simp only [ho, aOp] at h
    split at h
    · rename_i av vv hav hvv
      refine ⟨?_, fun ρ base w a K Q hwf hs hf _ hk => ?_⟩
      · unfold aStore at h
        split at h
        · rename_i b o' n _
          cases hc : Nat.beq vv.cells.size n && allOne vv.cells.toList <;> simp only [hc, cond_true, cond_false] at h
          · cases h
          · split at h
            · split at h
              · simp at h; obtain ⟨_, rfl, _⟩ := h; exact Nat.le_refl _
              · cases h
            · cases h
        · cases h
      · obtain ⟨rfl, rfl, w', h1, h2⟩ := astore_run (P := P) hs h (evO_rel hf hav) (evO_rel hf hvv)
        exact wp_of_skip (by simp only [execOp, ho, Sem.run_bind, h1, Result.andThen_ok, Sem.run_pure]) (hk undef w' ρ (VRel.undef ρ) h2)
    · cases h
  | panic x =>
    simp only [ho, aOp] at h
    split at h <;> simp at h
  | convert src dst x =>
    simp only [ho, aOp] at h
    split at h
    · rename_i xv hxv
      unfold aText at h
      split at h
      · rename_i sa n c
        split at h
        · rename_i el hu hd
          split at h
          · rename_i hel
            split at h
            · rename_i m cs hcs
              split at h
              · rename_i l hl
                simp only [Option.some.injEq, Out.val.injEq] at h
                obtain ⟨rfl, rfl, rfl⟩ := h
                refine ⟨Nat.le_refl _, fun ρ base w a K Q hwf hs hf _ hk => ?_⟩
                have h1 := text_run (P := P) hs hu hd hel hcs hl (evO_rel hf hxv)
                exact wp_of_value (by simp only [execOp, ho, Sem.run_bind, h1, Result.andThen_ok, Sem.run_pure]) (hk _ w ρ (.string _) (Ok.refl hs))
              · cases h
            · cases h
          · cases h
        · cases h
      · have hq : aQuiet P f (.convert src dst x) = aConv P src dst xv := by simp only [aQuiet, hxv]
        have := quiet (by rw [ho, hq]; exact h)
        simpa only [ho] using this
    · cases h
  | lookup t m k ok =>
    simp only [ho, aOp] at h
    split at h
    · rename_i mv kv hmv hkv
      refine ⟨?_, fun ρ base w a K Q hwf hs hf _ hk => ?_⟩
      · obtain ⟨_, _, e⟩ := lookup_wf h; cases e; exact Nat.le_refl _
      · obtain ⟨rfl, rfl, v', h1, h2⟩ := lookup_run (P := P) hs h (evO_rel hf hmv) (evO_rel hf hkv)
        exact wp_of_value (by simp only [execOp, ho, Sem.run_bind, h1, Result.andThen_ok, Sem.run_pure]) (hk v' w ρ h2 (Ok.refl hs))
    · cases h
  | mapUpdate t m k y =>
    simp only [ho, aOp] at h
    split at h
    · rename_i mv kv yv hmv hkv hyv
      refine ⟨?_, fun ρ base w a K Q hwf hs hf _ hk => ?_⟩
      · obtain ⟨_, _, _, _, _, e⟩ := upd_wf h; cases e; exact Nat.le_refl _
      · obtain ⟨-, rfl, w', h1, h2⟩ := mapUpdate_run (P := P) hs h (evO_rel hf hmv) (evO_rel hf hkv) (evO_rel hf hyv)
        exact wp_of_skip (by simp only [execOp, ho, Sem.run_bind, h1, Result.andThen_ok, Sem.run_pure]) (hk undef w' ρ (VRel.undef ρ) h2)
    · cases h
  | insert t m k y =>
    simp only [ho, aOp] at h
    split at h
    · rename_i mv kv yv hmv hkv hyv
      refine ⟨?_, fun ρ base w a K Q hwf hs hf _ hk => ?_⟩
      · obtain ⟨_, _, _, _, _, e⟩ := upd_wf h; cases e; exact Nat.le_refl _
      · obtain ⟨-, rfl, w', h1, h2⟩ := mapUpdate_run (P := P) hs h (evO_rel hf hmv) (evO_rel hf hkv) (evO_rel hf hyv)
        exact wp_of_skip (by simp only [execOp, ho, Sem.run_bind, h1, Result.andThen_ok, Sem.run_pure]) (hk undef w' ρ (VRel.undef ρ) h2)
    · cases h
  | call c =>
    simp only [ho, aOp] at h
    split at h
    · -- append
      rename_i hc
      split at h
      · rename_i l hl
        have hnx : H.next ≤ H'.next := append_next h
        refine ⟨hnx, fun ρ base w a K Q hwf hs hf hfr hk => ?_⟩
        obtain ⟨-, v', w', ρ', h1, h2, h3⟩ := append_ok (P := P) hs (ty := o.type) (args' := c.args.map a.eval) h (by simpa using evL_rel hf hl) hfr
        refine wp_of_value ?_ (hk v' w' ρ' h2 h3)
        simp only [execOp, ho, resolve, hc, Sem.run_bind, Sem.run_pure, Result.andThen_ok, invoke, builtin, h1]
      · cases h
    · -- copy
      rename_i hc
      split at h
      · rename_i l hl
        refine ⟨?_, fun ρ base w a K Q hwf hs hf hfr hk => ?_⟩
        · obtain ⟨_, _, e | ⟨_, _, _, _, e⟩⟩ := copy_wf h <;> cases e <;> exact Nat.le_refl _
        · obtain ⟨-, v', w', h1, h2, h3⟩ := copy_run (P := P) hs (ty := o.type) (args' := c.args.map a.eval) h (by simpa using evL_rel hf hl)
          refine wp_of_value ?_ (hk v' w' ρ h2 h3)
          simp only [execOp, ho, resolve, hc, Sem.run_bind, Sem.run_pure, Result.andThen_ok, invoke, builtin, h1]
      · cases h
    · -- delete
      rename_i hc
      split at h
      · rename_i l hl
        refine ⟨?_, fun ρ base w a K Q hwf hs hf hfr hk => ?_⟩
        · obtain ⟨_, e | ⟨_, _, _, _, e⟩⟩ := del_wf h <;> cases e <;> exact Nat.le_refl _
        · obtain ⟨-, v', w', h1, h2, h3⟩ := delete_run (P := P) hs (ty := o.type) (args' := c.args.map a.eval) h (by simpa using evL_rel hf hl)
          refine wp_of_value ?_ (hk v' w' ρ h2 h3)
          simp only [execOp, ho, resolve, hc, Sem.run_bind, Sem.run_pure, Result.andThen_ok, invoke, builtin, h1]
      · cases h
    · -- clear
      rename_i hc
      split at h
      · rename_i l hl
        refine ⟨?_, fun ρ base w a K Q hwf hs hf hfr hk => ?_⟩
        · obtain ⟨_, _, e | ⟨_, _, _, _, e⟩⟩ := clear_wf h <;> cases e <;> exact Nat.le_refl _
        · obtain ⟨-, v', w', h1, h2, h3⟩ := clear_run (P := P) hs (ty := o.type) (args' := c.args.map a.eval) h (by simpa using evL_rel hf hl)
          refine wp_of_value ?_ (hk v' w' ρ h2 h3)
          simp only [execOp, ho, resolve, hc, Sem.run_bind, Sem.run_pure, Result.andThen_ok, invoke, builtin, h1]
      · cases h
    · -- unsafe.SliceData
      rename_i hc
      split at h
      · rename_i l hl
        refine ⟨?_, fun ρ base w a K Q hwf hs hf hfr hk => ?_⟩
        · obtain ⟨_, e⟩ := data_wf h; cases e; exact Nat.le_refl _
        · obtain ⟨_, e⟩ := data_wf h
          obtain ⟨v', h1, h2⟩ := data_run (P := P) hs (ts := c.argTypes) (ty := o.type) (args' := c.args.map a.eval) h (by simpa using evL_rel hf hl)
          cases e
          refine wp_of_value ?_ (hk v' w ρ h2 (Ok.refl hs))
          simp only [execOp, ho, resolve, hc, Sem.run_bind, Sem.run_pure, Result.andThen_ok, invoke, builtin, h1]
      · cases h
    · -- unsafe.String
      rename_i hc
      split at h
      · rename_i l hl
        refine ⟨?_, fun ρ base w a K Q hwf hs hf hfr hk => ?_⟩
        · obtain ⟨_, e | ⟨_, _, _, e⟩⟩ := utext_wf h <;> cases e <;> exact Nat.le_refl _
        · obtain ⟨v', w', ρ', h1, h2, h3⟩ := utext_run (P := P) hs (ty := o.type) (args' := c.args.map a.eval) h (by simpa using evL_rel hf hl)
          refine wp_of_value ?_ (hk v' w' ρ' h2 h3)
          simp only [execOp, ho, resolve, hc, Sem.run_bind, Sem.run_pure, Result.andThen_ok, invoke, builtin, h1]
      · cases h
    · -- len
      rename_i hc
      split at h
      · rename_i l hl
        unfold aLen at h
        split at h
        · rename_i t r ht
          split at h
          · rename_i kt el es hu hg
            simp only [Option.some.injEq, Out.val.injEq] at h
            obtain ⟨rfl, rfl, rfl⟩ := h
            refine ⟨Nat.le_refl _, fun ρ base w a K Q hwf hs hf hfr hk => ?_⟩
            have h1 := len_map_run (P := P) hs (ty := o.type) (args' := c.args.map a.eval) ht hu hg (by simpa using evL_rel hf hl)
            refine wp_of_value ?_ (hk _ w ρ (.int _ _) (Ok.refl hs))
            simp only [execOp, ho, resolve, hc, Sem.run_bind, Sem.run_pure, Result.andThen_ok, invoke, builtin, h1]
          · cases h
        · rename_i t x _ ht
          have hq : aQuiet P f (.call c) = aLenCap P true t x := by simp only [aQuiet, hc, ht, evL_one hl]
          have := quiet (by rw [ho, hq]; exact h)
          simpa only [ho] using this
        · cases h
      · cases h
    · -- a function
      rename_i x hc
      split at h
      · rename_i g fi ca args hg hargs
        split at h
        · rename_i rv Hr hcl
          simp at h
          obtain ⟨rfl, rfl, rfl⟩ := h
          obtain ⟨c1, ⟨⟨fn, cd, c2, c3⟩, c4⟩ | ⟨rfl, v0, hv0, -, c3⟩⟩ := hcall _ _ _ _ _ hcl
          case inr =>
            cases hv0
            refine ⟨c1, fun ρ base w a K Q hwf hs hf hfr hk => ?_⟩
            have hgr := evO_rel hf hg
            generalize hgv : a.eval x = gv at hgr
            cases hgr with
            | func _ p1 p2 p3 p4 =>
            rename_i fi' ca'
            have hrel : VsRel ρ (fi.toList ++ args ++ ca.toList) (fi' ++ c.args.map a.eval ++ ca').toList := by
              rw [Array.toList_append, Array.toList_append]
              exact LRel.append (LRel.append (vs_of_idx p1 p3) (by simpa using evL_rel hf hargs)) (vs_of_idx p2 p4)
            obtain ⟨v', q1, q2⟩ := c3 ρ _ w hrel
            exact wp_of_value (by simp only [execOp, ho, resolve, hc, hgv, Deferred.ofValue, Sem.run_bind, Sem.run_pure, Result.andThen_ok, invoke, q1]) (hk v' w ρ q2 (Ok.refl hs))
          refine ⟨c1, fun ρ base w a K Q hwf hs hf hfr hk => ?_⟩
          have hgr := evO_rel hf hg
          generalize hgv : a.eval x = gv at hgr
          cases hgr with
          | func _ p1 p2 p3 p4 =>
          rename_i fi' ca'
          have hrun := call_resolve (P := P) (w := w) ho hc hgv hname c2 c3
          have hrel : VsRel ρ (fi.toList ++ args ++ ca.toList) (fi' ++ c.args.map a.eval ++ ca').toList := by
            rw [Array.toList_append, Array.toList_append]
            exact LRel.append (LRel.append (vs_of_idx p1 p3) (by simpa using evL_rel hf hargs)) (vs_of_idx p2 p4)
          unfold Oper.wp
          rw [hrun]
          show Calls P g _ w _
          refine (c4 (hwf _ _ rfl) ρ base w _ hs hrel hfr).mono fun e w' he => ?_
          obtain ⟨ρ', k1, k2⟩ := he
          cases e with
          | returned v' => exact hk v' w' ρ' k2 k1
          | panicked chain => exact k2.elim
          | outgrown => exact k2.elim
        · simp at h
        · cases h
      · cases h
    · have := quiet (by rw [ho]; exact h); simpa only [ho] using this
    · cases h
  | _ => rw [ho] at h quiet; exact quiet h
end Go.AX
