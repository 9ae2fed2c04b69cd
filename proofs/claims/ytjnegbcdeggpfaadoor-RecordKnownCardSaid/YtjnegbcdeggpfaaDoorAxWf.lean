/- Nothing lies beyond the counter. -/
import Derived.Test.YtjnegbcdeggpfaaDoorAxClr
import Derived.Test.YtjnegbcdeggpfaaDoorAxUns
namespace Go.AX
open Go Go.RowKit
set_option linter.unusedVariables false
set_option linter.unusedSimpArgs false

variable {P : Program}

def Wf (H : AHeap) : Prop := ∀ b, H.next ≤ b → H.get b = none
theorem Wf.lt {H : AHeap} (h : Wf H) {b : Nat} {o : AObj} (hg : H.get b = some o) : b < H.next := by
  rcases Nat.lt_or_ge b H.next with e | e
  · exact e
  · rw [h b e] at hg; cases hg
theorem Wf.set {H : AHeap} (h : Wf H) {b : Nat} {o : AObj} (hg : H.get b = some o) (o' : AObj) : Wf (H.set b o') := fun c hc => by
  have := h.lt hg
  rw [AHeap.get_set, if_neg (by simp at hc; omega)]; exact h c hc
theorem Wf.push {H : AHeap} (h : Wf H) (o : AObj) : Wf (H.push o) := fun c hc => by
  simp at hc
  rw [AHeap.get_push, if_neg (by omega)]; exact h c (by omega)

def CallWf (call : FuncId → List Value → AHeap → Option (CRes × AHeap)) : Prop := ∀ g args H r H', call g args H = some (r, H') → Wf H → Wf H'

theorem appTo_wf {H H' : AHeap} {size code by_ len cap n : Nat} {base : Option Addr} {new : List Value} {v : Value} {ev : Ev} (h : aAppendTo H size code by_ base len cap n new = some (.val v H' ev)) (hw : Wf H) : Wf H' := by
  simp only [aAppendTo, Bool.cond_eq_ite] at h
  repeat' split at h
  all_goals first
    | (cases h; done)
    | (simp only [Option.some.injEq, Out.val.injEq] at h; obtain ⟨_, rfl, _⟩ := h
       first | exact hw | exact hw.push _ | exact hw.set ‹_› _ | exact (hw.set ‹_› _).push _)
theorem append_wf {H H' : AHeap} {ts : Array TypeId} {l : List Value} {v : Value} {ev : Ev} (h : aAppend P H ts l = some (.val v H' ev)) (hw : Wf H) : Wf H' := by
  simp only [aAppend, Bool.cond_eq_ite] at h
  repeat' split at h
  all_goals first | (cases h; done) | exact appTo_wf h hw

theorem lookup_wf {H : AHeap} {t : TypeId} {m k : Value} {ok : Bool} {out : Out} (h : aLookup P H t m k ok = some out) : ∃ v e, out = .val v H e := by
  simp only [aLookup, Bool.cond_eq_ite] at h
  repeat' split at h
  all_goals first | (cases h; done) | (simp only [Option.some.injEq] at h; exact ⟨_, _, h.symm⟩)
theorem upd_wf {H : AHeap} {t : TypeId} {m k v : Value} {out : Out} (h : aMapUpdate P H t m k v = some out) : ∃ b o o' e, H.get b = some o ∧ out = .val undef (H.set b o') e := by
  simp only [aMapUpdate, Bool.cond_eq_ite] at h
  repeat' split at h
  all_goals first | (cases h; done) | (simp only [Option.some.injEq] at h; exact ⟨_, _, _, _, ‹H.get _ = some _›, h.symm⟩)
theorem del_wf {H : AHeap} {ts : Array TypeId} {l : List Value} {out : Out} (h : aDelete P H ts l = some out) : ∃ e, out = .val undef H e ∨ ∃ b o o', H.get b = some o ∧ out = .val undef (H.set b o') e := by
  simp only [aDelete, Bool.cond_eq_ite] at h
  repeat' split at h
  all_goals first | (cases h; done) | (simp only [Option.some.injEq] at h; first | exact ⟨_, .inl h.symm⟩ | exact ⟨_, .inr ⟨_, _, _, ‹H.get _ = some _›, h.symm⟩⟩)
theorem copyTo_wf {H : AHeap} {b : Option Addr} {n : Nat} {l : List Value} {out : Out} (h : aCopyTo H b n l = some out) : ∃ v e, out = .val v H e ∨ ∃ b o o', H.get b = some o ∧ out = .val v (H.set b o') e := by
  simp only [aCopyTo, Bool.cond_eq_ite] at h
  repeat' split at h
  all_goals first | (cases h; done) | (simp only [Option.some.injEq] at h; first | exact ⟨_, _, .inl h.symm⟩ | exact ⟨_, _, .inr ⟨_, _, _, ‹H.get _ = some _›, h.symm⟩⟩)
theorem copy_wf {H : AHeap} {ts : Array TypeId} {l : List Value} {out : Out} (h : aCopy P H ts l = some out) : ∃ v e, out = .val v H e ∨ ∃ b o o', H.get b = some o ∧ out = .val v (H.set b o') e := by
  simp only [aCopy, Bool.cond_eq_ite] at h
  repeat' split at h
  all_goals first | (cases h; done) | exact copyTo_wf h
theorem len_wf {H : AHeap} {ts : Array TypeId} {l : List Value} {out : Out} (h : aLen P H ts l = some out) : ∃ v e, out = .val v H e := by
  simp only [aLen] at h
  repeat' split at h
  all_goals first
    | (cases h; done)
    | (simp only [Option.some.injEq] at h; exact ⟨_, _, h.symm⟩)
    | (simp only [Option.map_eq_some_iff] at h; obtain ⟨_, _, h⟩ := h; exact ⟨_, _, h.symm⟩)

theorem text_wf {H : AHeap} {s d : TypeId} {x : Value} {out : Out} (h : aText P H s d x = some out) : ∃ v e, out = .val v H e := by
  simp only [aText] at h
  repeat' split at h
  all_goals first
    | (cases h; done)
    | (simp only [Option.some.injEq] at h; exact ⟨_, _, h.symm⟩)
    | (simp only [Option.map_eq_some_iff] at h; obtain ⟨_, _, h⟩ := h; exact ⟨_, _, h.symm⟩)

def Out.heap : Out → AHeap
  | .val _ H _ => H
  | .panic _ H => H

theorem op_wf {call : FuncId → List Value → AHeap → Option (CRes × AHeap)} (hcall : CallWf call) {f : Fr} {H : AHeap} {op : Op} {out : Out} (h : aOp P call f H op = some out) (hw : Wf H) : Wf out.heap := by
  have quiet : ∀ op, (aQuiet P f op).map (fun v => Out.val v H .quiet) = some out → Wf out.heap := by
    intro op hq
    cases hv : aQuiet P f op <;> simp [hv] at hq
    subst hq; exact hw
  have make : ∀ op, (match aMake P f op with | some (ob, vf) => some (Out.val (vf H.next) (H.push ob) (.make H.next ob)) | none => none) = some out → Wf out.heap := by
    intro op hq
    split at hq
    · simp at hq; subst hq; exact hw.push _
    · cases hq
  cases op with
  | alloc e => exact make _ h
  | box e x => exact make _ h
  | buildSlice t l ps => exact make _ h
  | makeSlice t l c => exact make _ h
  | makeMap t r => exact make _ h
  | range t x => exact make _ h
  | next it isS =>
    simp only [aOp] at h
    split at h
    · obtain ⟨_, _, rfl | ⟨_, _, _, hg, rfl⟩⟩ := next_wf h
      · exact hw
      · exact hw.set hg _
    · cases h
  | load t x =>
    simp only [aOp] at h
    split at h
    · simp only [aLoad, Bool.cond_eq_ite] at h
      repeat' split at h
      all_goals first | (cases h; done) | (simp at h; subst h; exact hw)
    · cases h
  | store t x y =>
    simp only [aOp] at h
    split at h
    · simp only [aStore, Bool.cond_eq_ite] at h
      repeat' split at h
      all_goals first | (cases h; done) | (simp at h; subst h; exact hw.set ‹_› _)
    · cases h
  | panic x =>
    simp only [aOp] at h
    split at h
    · simp at h; subst h; exact hw
    · cases h
  | convert s d x =>
    simp only [aOp] at h
    split at h
    · obtain ⟨_, _, rfl⟩ := text_wf h; exact hw
    · cases h
  | lookup t m k ok =>
    simp only [aOp] at h
    split at h
    · obtain ⟨_, _, rfl⟩ := lookup_wf h; exact hw
    · cases h
  | mapUpdate t m k v =>
    simp only [aOp] at h
    split at h
    · obtain ⟨_, _, _, _, hg, rfl⟩ := upd_wf h; exact hw.set hg _
    · cases h
  | insert t m k v =>
    simp only [aOp] at h
    split at h
    · obtain ⟨_, _, _, _, hg, rfl⟩ := upd_wf h; exact hw.set hg _
    · cases h
  | call c =>
    simp only [aOp] at h
    split at h
    · split at h
      · cases out with
        | val v H' e => exact append_wf h hw
        | panic v H' =>
          exfalso
          simp only [aAppend, aAppendTo, Bool.cond_eq_ite] at h
          repeat' split at h
          all_goals (simp at h; done)
      · cases h
    · split at h
      · obtain ⟨_, _, rfl | ⟨_, _, _, hg, rfl⟩⟩ := copy_wf h
        · exact hw
        · exact hw.set hg _
      · cases h
    · split at h
      · obtain ⟨_, rfl | ⟨_, _, _, hg, rfl⟩⟩ := del_wf h
        · exact hw
        · exact hw.set hg _
      · cases h
    · split at h
      · obtain ⟨_, _, rfl | ⟨_, _, _, hg, rfl⟩⟩ := clear_wf h
        · exact hw
        · exact hw.set hg _
      · cases h
    · split at h
      · obtain ⟨_, rfl⟩ := data_wf h; exact hw
      · cases h
    · split at h
      · obtain ⟨_, rfl | ⟨_, _, hg, rfl⟩⟩ := utext_wf h
        · exact hw
        · exact hw.set hg _
      · cases h
    · split at h
      · obtain ⟨_, _, rfl⟩ := len_wf h; exact hw
      · cases h
    · split at h
      · split at h
        · rename_i hc; simp at h; subst h; exact hcall _ _ _ _ _ hc hw
        · rename_i hc; simp at h; subst h; exact hcall _ _ _ _ _ hc hw
        · cases h
      · cases h
    · exact quiet _ h
    · cases h
  | _ => first | exact quiet _ h | (simp [aOp, aQuiet] at h; done)

def ROut.heap : ROut → AHeap
  | .done _ H _ => H
  | .panic _ _ H => H

theorem runOps_wf {call : FuncId → List Value → AHeap → Option (CRes × AHeap)} (hcall : CallWf call) {ops : Array Oper} : ∀ (l : List Oper) (i : Nat) (f : Fr) (H : AHeap) (tr : List (Nat × Ev)) (out : ROut), runOps P call ops l i f H tr = some out → Wf H → Wf out.heap
  | [], i, f, H, tr, out, h, hw => by simp [runOps] at h; subst h; exact hw
  | o :: r, i, f, H, tr, out, h, hw => by
    simp only [runOps, Bool.cond_eq_ite] at h
    split at h
    · split at h
      · rename_i v H1 e hop
        split at h
        · exact runOps_wf hcall r _ _ _ _ _ h (op_wf hcall hop hw)
        · cases h
      · rename_i v H1 hop
        simp at h; subst h; exact op_wf hcall hop hw
      · cases h
    · split at h
      · exact runOps_wf hcall r _ _ _ _ _ h hw
      · cases h

/-- An executor for code keeps what lies beyond the counter. -/
def ExWf (ex : Exec) : Prop := ∀ c f H e f' H', ex c f H = some (e, f', H') → Wf H → Wf H'

theorem deferX_wf {ex : Exec} {cx : FuncId → List Value → AHeap → Option (CRes × AHeap)} (he : ExWf ex) (hc : CallWf cx) {g : FuncId} {args : List Value} {m m' : AMode} {H H' : AHeap} (h : deferX P ex cx g args m H = some (m', H')) (hw : Wf H) : Wf H' := by
  unfold deferX at h
  split at h
  · cases h
  · split at h
    · cases h
    · split at h
      · split at h
        · cases h
        · split at h
          · rename_i hr
            have h1 := runOps_wf hc _ _ _ _ _ _ hr hw
            split at h
            · rename_i hx; have h2 := he _ _ _ _ _ _ hx h1
              split at h
              · simp at h; obtain ⟨_, rfl⟩ := h; exact h2
              · cases h
            · rename_i hx; have h2 := he _ _ _ _ _ _ hx h1
              split at h
              · simp at h; obtain ⟨_, rfl⟩ := h; exact h2
              · cases h
            · cases h
          · cases h
      · split at h
        · rename_i hx; have h2 := he _ _ _ _ _ _ hx hw
          split at h
          · simp at h; obtain ⟨_, rfl⟩ := h; exact h2
          · cases h
        · rename_i hx; have h2 := he _ _ _ _ _ _ hx hw
          split at h
          · simp at h; obtain ⟨_, rfl⟩ := h; exact h2
          · cases h
        · cases h

theorem leaveX_wf {dx : FuncId → List Value → AMode → AHeap → Option (AMode × AHeap)} (hd : ∀ g args m H m' H', dx g args m H = some (m', H') → Wf H → Wf H') : ∀ (ds : List (FuncId × List Value)) (m : AMode) (H : AHeap) (m' : AMode) (H' : AHeap), leaveX dx ds m H = some (m', H') → Wf H → Wf H'
  | [], m, H, m', H', h, hw => by simp [leaveX] at h; obtain ⟨_, rfl⟩ := h; exact hw
  | (g, args) :: ds, m, H, m', H', h, hw => by
    simp only [leaveX] at h
    split at h
    · rename_i h1; exact leaveX_wf hd ds _ _ _ _ h (hd _ _ _ _ _ _ h1 hw)
    · cases h

theorem callB_wf {ex : Exec} (he : ExWf ex) : CallWf (callB P ex) := by
  intro g args H r H' h hw
  have hdx : ∀ g args m H m' H', deferX P ex (fun _ _ _ => none) g args m H = some (m', H') → Wf H → Wf H' := fun _ _ _ _ _ _ h hw => deferX_wf he (fun _ _ _ _ _ h => by cases h) h hw
  have hend : ∀ (fn : Func) (f : Fr) (ds : List (FuncId × List Value)) (m : AMode) (H1 : AHeap), endX P fn f (leaveX (deferX P ex fun _ _ _ => none) ds m H1) = some (r, H') → Wf H1 → Wf H' := by
    intro fn f ds m H1 h hw
    cases hl : leaveX (deferX P ex fun _ _ _ => none) ds m H1 with
    | none => rw [hl] at h; simp [endX] at h
    | some x =>
      obtain ⟨m', H2⟩ := x
      have h2 := leaveX_wf hdx ds m H1 m' H2 hl hw
      rw [hl] at h
      cases m' with
      | back =>
        simp only [endX] at h
        split at h
        · simp at h; obtain ⟨_, rfl⟩ := h; exact h2
        · cases h
      | thrown v => simp [endX] at h; obtain ⟨_, rfl⟩ := h; exact h2
      | caught => simp [endX] at h
  unfold callB at h
  cases hf : P.funcs[g]? with
  | none => simp [hf] at h
  | some fn =>
    cases hb : bodyOf fn with
    | none => simp [hf, hb] at h
    | some c =>
      simp only [hf, hb] at h
      cases hx : ex c (frOf args (max fn.ntmps args.length) H.globN) H with
      | none => rw [hx] at h; simp [bodyX] at h
      | some x =>
        obtain ⟨e, f, H1⟩ := x
        have h1 := he _ _ _ _ _ _ hx hw
        rw [hx] at h
        cases e with
        | normal => exact hend _ _ _ _ _ h h1
        | ret => exact hend _ _ _ _ _ h h1
        | panic v => exact hend _ _ _ _ _ h h1
        | exit id => simp [bodyX] at h

theorem primA_wf {p : Prim} {args : List Value} {H H' : AHeap} {v : Value} (h : primA P p args H = some (v, H')) : H' = H ∨ ∃ b o o', H.get b = some o ∧ H' = H.set b o' := by
  simp only [primA, Bool.cond_eq_ite] at h
  repeat' split at h
  all_goals first | (cases h; done) | (simp only [Option.some.injEq, Prod.mk.injEq] at h; obtain ⟨-, rfl⟩ := h; first | exact .inl rfl | exact .inr ⟨_, _, _, ‹H.get _ = some _›, rfl⟩)
theorem callX_wf {ex : Exec} (he : ExWf ex) : CallWf (callX P ex) := by
  intro g args H r H' h hw
  unfold callX at h
  split at h
  · split at h
    · rename_i v H1 hv
      simp only [Option.some.injEq, Prod.mk.injEq] at h
      obtain ⟨-, rfl⟩ := h
      rcases primA_wf hv with rfl | ⟨b, o, o', hg, rfl⟩
      · exact hw
      · exact hw.set hg _
    · cases h
  · exact callB_wf he g args H r H' h hw

theorem exec_wf : ∀ (k : Nat), ExWf (exec P k) := by
  intro k
  induction k with
  | zero => intro c f H ex f' H' h; simp [exec] at h
  | succ k ih =>
    have hcall : CallWf (callX P (exec P k)) := callX_wf ih
    intro c f H ex f' H' h hw
    cases c with
    | region id ops draw =>
      simp only [exec, Bool.cond_eq_ite] at h
      split at h
      · split at h
        · rename_i f1 H1 tr hr
          have := runOps_wf hcall _ _ _ _ _ _ hr hw
          repeat' split at h
          all_goals first | (cases h; done) | (simp at h; obtain ⟨_, _, rfl⟩ := h; exact this)
        · rename_i f1 H1 tr hr
          have := runOps_wf hcall _ _ _ _ _ _ hr hw
          repeat' split at h
          all_goals first | (cases h; done) | (simp at h; obtain ⟨_, _, rfl⟩ := h; exact this)
        · cases h
      · split at h
        · cases h
        · split at h
          · rename_i f1 H1 tr hr
            have := runOps_wf hcall _ _ _ _ _ _ hr hw
            split at h
            · simp at h; obtain ⟨_, _, rfl⟩ := h; exact this
            · cases h
          · cases h
    | seq x y =>
      simp only [exec] at h
      split at h
      · rename_i hr; exact ih _ _ _ _ _ _ h (ih _ _ _ _ _ _ hr hw)
      · exact ih _ _ _ _ _ _ h hw
    | loop x =>
      simp only [exec] at h
      split at h
      · rename_i hr; exact ih _ _ _ _ _ _ h (ih _ _ _ _ _ _ hr hw)
      · exact ih _ _ _ _ _ _ h hw
    | cond x p q =>
      simp only [exec, Bool.cond_eq_ite] at h
      split at h
      · split at h
        · exact ih _ _ _ _ _ _ h hw
        · exact ih _ _ _ _ _ _ h hw
      · cases h
    | block id x =>
      simp only [exec, Bool.cond_eq_ite] at h
      split at h
      · rename_i hr
        have := ih _ _ _ _ _ _ hr hw
        split at h
        · simp at h; obtain ⟨_, _, rfl⟩ := h; exact this
        · simp at h; obtain ⟨_, _, rfl⟩ := h; exact this
      · exact ih _ _ _ _ _ _ h hw
    | scope x => simp only [exec] at h; exact ih _ _ _ _ _ _ h hw
    | _ => first | (simp [exec] at h; done) | (simp [exec] at h; obtain ⟨_, _, rfl⟩ := h; exact hw)
theorem call_wf (k : Nat) : CallWf (callA P k) := callX_wf (exec_wf k)
end Go.AX
