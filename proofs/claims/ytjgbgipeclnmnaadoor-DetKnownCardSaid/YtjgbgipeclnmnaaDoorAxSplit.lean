/- A run cut into pieces: the first statements of a body, then the rest. -/
import Derived.Test.YtjgbgipeclnmnaaDoorAxSame4
namespace Go.AX
open Go
set_option linter.unusedVariables false

/-- What is left of a chain of statements behind the first n. -/
def rightN : Nat → Code → Code
  | 0, c => c
  | n + 1, .seq _ b => rightN n b
  | _ + 1, c => c
noncomputable def fastN (P : Program) (k : Nat) : Nat → Code → Fr → AHeap → Res
  | 0, _, f, H => .nrm f H
  | n + 1, .seq a b, f, H => fThen (fexec P (k + n) a f H) (fastN P k n b)
  | _ + 1, _, _, _ => .no

theorem fastN_eq {P : Program} {k : Nat} : ∀ (n : Nat) (c : Code) (f : Fr) (H : AHeap) (f' : Fr) (H' : AHeap), fastN P k n c f H = .nrm f' H' → exec P (k + n) c f H = exec P k (rightN n c) f' H'
  | 0, c, f, H, f', H', h => by
    simp only [fastN, Res.nrm.injEq] at h
    obtain ⟨rfl, rfl⟩ := h; rfl
  | n + 1, c, f, H, f', H', h => by
    cases c with
    | seq a b =>
      simp only [fastN] at h
      have ha := fexec_eq P (k + n) a f H
      rw [show k + (n + 1) = (k + n) + 1 by omega]
      simp only [exec, rightN]
      rw [← ha]
      cases hr : fexec P (k + n) a f H with
      | nrm f1 H1 =>
        rw [hr] at h
        exact fastN_eq n b f1 H1 f' H' h
      | _ => rw [hr] at h; cases h
    | _ => simp [fastN] at h

/-- The end of a body: it leaves with true, and nothing is deferred. -/
noncomputable def endF (P : Program) (fn : Func) (f : Fr) (H : AHeap) : Bool :=
  match f.defs, resA P f H fn.results.toList with
  | [], some l => (match oneOf l with | .bool b => b | _ => false)
  | _, _ => false
noncomputable def endT (P : Program) (fn : Func) (r : Res) : Bool :=
  Res.rec (motive := fun _ => Bool) (fun f H => endF P fn f H) (fun _ _ _ => false) (fun f H => endF P fn f H) (fun _ _ _ => false) false r

theorem end_true {P : Program} {K k : Nat} {g : FuncId} {fn : Func} {c c' : Code} {args : List Value} {H f1 H1} (hf : P.funcs[g]? = some fn) (hb : fn.body = some c)
    (he : exec P K c (frOf args (max fn.ntmps args.length) H.globN) H = exec P k c' f1 H1) (h : endT P fn (fexec P k c' f1 H1) = true) : isTrue (callA P K g args H) = true := by
  unfold callA callX
  simp only [hf, hb]
  rw [he, ← fexec_eq]
  have key : ∀ (f' : Fr) (H' : AHeap), endF P fn f' H' = true → isTrue (endX P fn f' (leaveX (deferX P (exec P K) fun _ _ _ => none) f'.defs .back H')) = true := by
    intro f' H' h
    unfold endF at h
    split at h
    · rename_i l hd hl
      rw [hd]
      simp only [leaveX, endX, hl]
      split at h
      · rename_i b hob; rw [hob]; exact h
      · cases h
    · cases h
  cases hr : fexec P k c' f1 H1 with
  | nrm f' H' => rw [hr] at h; exact key f' H' h
  | ret f' H' => rw [hr] at h; exact key f' H' h
  | _ => rw [hr] at h; cases h
end Go.AX
