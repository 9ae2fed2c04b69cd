/- More fuel, the same answer. -/
import Derived.Test.YtjnegbcdeggpfaaDoorAxExec
namespace Go.AX
open Go
set_option linter.unusedVariables false

abbrev Callee' := FuncId → List Value → AHeap → Option (CRes × AHeap)
def CLe (c c' : Callee') : Prop := ∀ g a H r, c g a H = some r → c' g a H = some r
def XLe (x x' : Exec) : Prop := ∀ c f H r, x c f H = some r → x' c f H = some r

theorem aOp_mono {P : Program} {c c' : Callee'} (hc : CLe c c') {f : Fr} {H : AHeap} {op : Op} {o : Out} (h : aOp P c f H op = some o) : aOp P c' f H op = some o := by
  cases op with
  | call d =>
    unfold aOp at h ⊢
    dsimp only at h ⊢
    split at h <;> rename_i hcal <;> (try simp only [hcal]) <;> (try exact h)
    split at h
    · rename_i g first captured args hg ha
      split at h
      · rename_i v H' hr; rw [hc _ _ _ _ hr]; exact h
      · rename_i v H' hr; rw [hc _ _ _ _ hr]; exact h
      · cases h
    · cases h
  | _ => exact h

theorem runOps_mono {P : Program} {c c' : Callee'} (hc : CLe c c') (ops : Array Oper) : ∀ (l : List Oper) (i : Nat) (f : Fr) (H : AHeap) (tr : List (Nat × Ev)) (r : ROut), runOps P c ops l i f H tr = some r → runOps P c' ops l i f H tr = some r
  | [], i, f, H, tr, r, h => h
  | o :: l, i, f, H, tr, r, h => by
    simp only [runOps] at h ⊢
    cases hw : wantedA ops o f with
    | false =>
      simp only [hw, cond_false] at h ⊢
      cases hp : f.put o.dst undef with
      | none => simp only [hp] at h; cases h
      | some f' => simp only [hp] at h ⊢; exact runOps_mono hc ops l _ _ _ _ _ h
    | true =>
      simp only [hw, cond_true] at h ⊢
      cases ha : aOp P c f H o.op with
      | none => simp only [ha] at h; cases h
      | some x =>
        rw [aOp_mono hc ha]
        simp only [ha] at h
        cases x with
        | panic v H' => exact h
        | val v H' e =>
          dsimp only at h ⊢
          cases hp : f.put o.dst v with
          | none => simp only [hp] at h; cases h
          | some f' => simp only [hp] at h ⊢; exact runOps_mono hc ops l _ _ _ _ _ h

theorem deferX_mono {P : Program} {x x' : Exec} (hx : XLe x x') {c c' : Callee'} (hc : CLe c c') {g : FuncId} {a : List Value} {m : AMode} {H : AHeap} {r : AMode × AHeap} (h : deferX P x c g a m H = some r) : deferX P x' c' g a m H = some r := by
  unfold deferX at h ⊢
  cases hf : P.funcs[g]? with
  | none => simp only [hf] at h; cases h
  | some fn =>
    simp only [hf] at h ⊢
    cases hb : bodyOf fn with
    | none => simp only [hb] at h; cases h
    | some code =>
      simp only [hb] at h ⊢
      cases hr : headRecover code with
      | none =>
        simp only [hr] at h ⊢
        cases he : x code (frOf a (max fn.ntmps a.length) H.globN) H with
        | none => simp only [he] at h; cases h
        | some y => rw [hx _ _ _ _ he]; rw [he] at h; exact h
      | some q =>
        obtain ⟨ops, d, rr, rest⟩ := q
        simp only [hr] at h ⊢
        cases hp : (frOf a (max fn.ntmps a.length) H.globN).put d m.tell.1 with
        | none => simp only [hp] at h; cases h
        | some f =>
          simp only [hp] at h ⊢
          cases ho : runOps P c ops rr 1 f H [] with
          | none => simp only [ho] at h; cases h
          | some y =>
            rw [runOps_mono hc _ _ _ _ _ _ _ ho]
            simp only [ho] at h
            cases y with
            | panic v f' H' => exact h
            | done f' H' tr =>
              dsimp only at h ⊢
              cases he : x rest f' H' with
              | none => simp only [he] at h; cases h
              | some y => rw [hx _ _ _ _ he]; rw [he] at h; exact h

theorem leaveX_mono {d d' : FuncId → List Value → AMode → AHeap → Option (AMode × AHeap)} (hd : ∀ g a m H r, d g a m H = some r → d' g a m H = some r) : ∀ (l : List (FuncId × List Value)) (m : AMode) (H : AHeap) (r : AMode × AHeap), leaveX d l m H = some r → leaveX d' l m H = some r
  | [], m, H, r, h => h
  | (g, a) :: l, m, H, r, h => by
    simp only [leaveX] at h ⊢
    cases hg : d g a m H with
    | none => simp only [hg] at h; cases h
    | some y =>
      obtain ⟨m', H'⟩ := y
      rw [hd _ _ _ _ _ hg]
      simp only [hg] at h
      exact leaveX_mono hd l _ _ _ h

theorem endX_mono {P : Program} {fn : Func} {f : Fr} {o o' : Option (AMode × AHeap)} (ho : ∀ r, o = some r → o' = some r) {r : CRes × AHeap} (h : endX P fn f o = some r) : endX P fn f o' = some r := by
  cases o with
  | none => cases h
  | some x => rw [ho x rfl]; exact h

theorem bodyX_mono {P : Program} {x x' : Exec} (hx : XLe x x') {fn : Func} {e : Option (AExit × Fr × AHeap)} {r : CRes × AHeap} (h : bodyX P (deferX P x fun _ _ _ => none) fn e = some r) : bodyX P (deferX P x' fun _ _ _ => none) fn e = some r := by
  have hl := fun (l : List (FuncId × List Value)) (m : AMode) (H : AHeap) => leaveX_mono (d := deferX P x fun _ _ _ => none) (d' := deferX P x' fun _ _ _ => none) (fun g a m H r h => deferX_mono hx (fun _ _ _ _ h => h) h) l m H
  unfold bodyX at h ⊢
  split at h <;> first | exact endX_mono (hl _ _ _) h | cases h

theorem callB_mono {P : Program} {x x' : Exec} (hx : XLe x x') : CLe (callB P x) (callB P x') := by
  intro g a H r h
  unfold callB at h ⊢
  cases hf : P.funcs[g]? with
  | none => simp only [hf] at h; cases h
  | some fn =>
    simp only [hf] at h ⊢
    cases hb : bodyOf fn with
    | none => simp only [hb] at h; cases h
    | some code =>
      simp only [hb] at h ⊢
      cases he : x code (frOf a (max fn.ntmps a.length) H.globN) H with
      | none => rw [he] at h; simp only [bodyX] at h; cases h
      | some y => rw [he] at h; rw [hx _ _ _ _ he]; exact bodyX_mono hx h

theorem callX_mono {P : Program} {x x' : Exec} (hx : XLe x x') : CLe (callX P x) (callX P x') := by
  intro g a H r h
  unfold callX at h ⊢
  cases hp : primAt P g with
  | some p => rw [hp] at h; exact h
  | none => rw [hp] at h; exact callB_mono hx g a H r h

theorem exec_succ (P : Program) : ∀ k, XLe (exec P k) (exec P (k + 1))
  | 0 => fun c f H r h => by rw [exec] at h; cases h
  | k + 1 => fun c f H r h => by
    have ih := exec_succ P k
    cases c with
    | seq a b =>
      rw [exec] at h ⊢
      cases ha : exec P k a f H with
      | none => simp only [ha] at h; cases h
      | some y =>
        rw [ih _ _ _ _ ha]; rw [ha] at h
        obtain ⟨e, f', H'⟩ := y
        cases e <;> first | exact ih _ _ _ _ h | exact h
    | cond c a b =>
      rw [exec] at h ⊢
      split at h
      · rename_i t ht
        cases t with
        | true => exact ih _ _ _ _ h
        | false => exact ih _ _ _ _ h
      · cases h
    | block id c =>
      rw [exec] at h ⊢
      cases ha : exec P k c f H with
      | none => simp only [ha] at h; cases h
      | some y => rw [ih _ _ _ _ ha]; rw [ha] at h; exact h
    | loop c =>
      rw [exec] at h ⊢
      cases ha : exec P k c f H with
      | none => simp only [ha] at h; cases h
      | some y =>
        rw [ih _ _ _ _ ha]; rw [ha] at h
        obtain ⟨e, f', H'⟩ := y
        cases e <;> first | exact ih _ _ _ _ h | exact h
    | scope c => rw [exec] at h ⊢; exact ih _ _ _ _ h
    | region id ops draw =>
      have hc := callX_mono (P := P) ih
      rw [exec] at h ⊢
      cases hl : lastDefer ops.toList with
      | none =>
        simp only [hl] at h ⊢
        cases ho : runOps P (callX P (exec P k)) ops ops.toList 0 f H [] with
        | none => simp only [ho] at h; cases h
        | some y => rw [runOps_mono hc _ _ _ _ _ _ _ ho]; rw [ho] at h; exact h
      | some d =>
        obtain ⟨pre, o, c⟩ := d
        simp only [hl] at h ⊢
        cases draw with
        | true => cases h
        | false =>
          simp only [cond_false] at h ⊢
          cases ho : runOps P (callX P (exec P k)) ops pre 0 f H [] with
          | none => simp only [ho] at h; cases h
          | some y => rw [runOps_mono hc _ _ _ _ _ _ _ ho]; rw [ho] at h; exact h
    | skip => simpa only [exec] using h
    | label _ => simpa only [exec] using h
    | ret => simpa only [exec] using h
    | exit _ => simpa only [exec] using h
    | _ => simp [exec] at h

theorem exec_mono (P : Program) {k k' : Nat} (hk : k ≤ k') : XLe (exec P k) (exec P k') := by
  induction hk with
  | refl => exact fun _ _ _ _ h => h
  | step _ ih => exact fun c f H r h => exec_succ P _ c f H r (ih c f H r h)
theorem callA_mono (P : Program) {k k' : Nat} (hk : k ≤ k') : CLe (callA P k) (callA P k') := callX_mono (exec_mono P hk)
end Go.AX
