/- The machine tells the truth. -/
import Derived.Test.YtjgbgipeclnmnaaDoorAxMach
import Derived.Test.YtjgbgipeclnmnaaDoorAxSplit
namespace Go.AX
open Go
set_option linter.unusedVariables false
variable {P : Program}

theorem ev_skip {f H} : Ev' P .skip f H (.normal, f, H) := ⟨1, by simp only [exec]⟩
theorem ev_label {l f H} : Ev' P (.label l) f H (.normal, f, H) := ⟨1, by simp only [exec]⟩
theorem ev_ret {f H} : Ev' P .ret f H (.ret, f, H) := ⟨1, by simp only [exec]⟩
theorem ev_exit {i f H} : Ev' P (.exit i) f H (.exit i, f, H) := ⟨1, by simp only [exec]⟩
theorem ev_seq {a b : Code} {f H f1 H1 z} (ha : Ev' P a f H (.normal, f1, H1)) (hb : Ev' P b f1 H1 z) : Ev' P (.seq a b) f H z := by
  obtain ⟨j, hj⟩ := ha; obtain ⟨k, hk⟩ := hb
  refine ⟨max j k + 1, ?_⟩
  simp only [exec]
  rw [exec_mono P (Nat.le_max_left j k) _ _ _ _ hj]
  exact exec_mono P (Nat.le_max_right j k) _ _ _ _ hk
theorem ev_seq_out {a b : Code} {f H z} (ha : Ev' P a f H z) (hz : z.1 ≠ .normal) : Ev' P (.seq a b) f H z := by
  obtain ⟨j, hj⟩ := ha
  refine ⟨j + 1, ?_⟩
  simp only [exec, hj]
  obtain ⟨e, f', H'⟩ := z
  cases e <;> first | rfl | exact absurd rfl hz
theorem ev_loop {c : Code} {f H f1 H1 z} (ha : Ev' P c f H (.normal, f1, H1)) (hb : Ev' P (.loop c) f1 H1 z) : Ev' P (.loop c) f H z := by
  obtain ⟨j, hj⟩ := ha; obtain ⟨k, hk⟩ := hb
  refine ⟨max j k + 1, ?_⟩
  rw [exec]
  rw [exec_mono P (Nat.le_max_left j k) _ _ _ _ hj]
  exact exec_mono P (Nat.le_max_right j k) _ _ _ _ hk
theorem ev_loop_out {c : Code} {f H z} (ha : Ev' P c f H z) (hz : z.1 ≠ .normal) : Ev' P (.loop c) f H z := by
  obtain ⟨j, hj⟩ := ha
  refine ⟨j + 1, ?_⟩
  rw [exec, hj]
  obtain ⟨e, f', H'⟩ := z
  cases e <;> first | rfl | exact absurd rfl hz
theorem ev_block {id : Nat} {c : Code} {f H f1 H1 i} (ha : Ev' P c f H (.exit i, f1, H1)) : Ev' P (.block id c) f H (bif Nat.beq i id then (.normal, f1, H1) else (.exit i, f1, H1)) := by
  obtain ⟨j, hj⟩ := ha
  refine ⟨j + 1, ?_⟩
  simp only [exec, hj]
  cases Nat.beq i id <;> rfl
theorem ev_block_out {id : Nat} {c : Code} {f H z} (ha : Ev' P c f H z) (hz : ∀ i, z.1 ≠ .exit i) : Ev' P (.block id c) f H z := by
  obtain ⟨j, hj⟩ := ha
  refine ⟨j + 1, ?_⟩
  simp only [exec, hj]
  obtain ⟨e, f', H'⟩ := z
  cases e <;> first | rfl | exact absurd rfl (hz _)
theorem ev_scope {c : Code} {f H z} (ha : Ev' P c f H z) : Ev' P (.scope c) f H z := by
  obtain ⟨j, hj⟩ := ha
  exact ⟨j + 1, by simpa only [exec] using hj⟩
theorem ev_cond {c : Operand} {a b : Code} {f H z t} (hc : evO f c = some (.bool t)) (h : Ev' P (bif t then a else b) f H z) : Ev' P (.cond c a b) f H z := by
  obtain ⟨j, hj⟩ := h
  refine ⟨j + 1, ?_⟩
  simp only [exec, hc]
  cases t <;> exact hj

theorem runOps_append {c : Callee'} (ops : Array Oper) (l : List Oper) : ∀ (p : List Oper) (i : Nat) (f : Fr) (H : AHeap) (tr : List (Nat × Ev)) {f1 H1 tr1}, runOps P c ops p i f H tr = some (.done f1 H1 tr1) → ∃ j, runOps P c ops (p ++ l) i f H tr = runOps P c ops l j f1 H1 tr1
  | [], i, f, H, tr, f1, H1, tr1, h => by simp only [runOps, Option.some.injEq, ROut.done.injEq] at h; obtain ⟨rfl, rfl, rfl⟩ := h; exact ⟨i, rfl⟩
  | o :: p, i, f, H, tr, f1, H1, tr1, h => by
    simp only [List.cons_append, runOps] at h ⊢
    cases hw : wantedA ops o f with
    | false =>
      simp only [hw, cond_false] at h ⊢
      cases hp : f.put o.dst undef with
      | none => simp only [hp] at h; cases h
      | some f' => simp only [hp] at h ⊢; exact runOps_append ops l p _ _ _ _ h
    | true =>
      simp only [hw, cond_true] at h ⊢
      cases ha : aOp P c f H o.op with
      | none => simp only [ha] at h; cases h
      | some x =>
        simp only [ha] at h ⊢
        cases x with
        | panic v H' => cases h
        | val v H' e =>
          dsimp only at h ⊢
          cases hp : f.put o.dst v with
          | none => simp only [hp] at h; cases h
          | some f' => simp only [hp] at h ⊢; exact runOps_append ops l p _ _ _ _ h

def ROut.out : Option ROut → Option (AExit × Fr × AHeap)
  | some (.done f H _) => some (.normal, f, H)
  | some (.panic v f H) => some (.panic v, f, H)
  | none => none
theorem runOps_loose {c : Callee'} (ops ops' : Array Oper) : ∀ (l : List Oper) (i j : Nat) (f : Fr) (H : AHeap) (tr tr' : List (Nat × Ev)), noGuards l = true → ROut.out (runOps P c ops l i f H tr) = ROut.out (runOps P c ops' l j f H tr')
  | [], i, j, f, H, tr, tr', _ => rfl
  | o :: l, i, j, f, H, tr, tr', h => by
    have hg : o.guard = none ∧ noGuards l = true := by
      simp only [noGuards, List.all_cons, Bool.and_eq_true, Option.isNone_iff_eq_none] at h
      exact ⟨h.1, h.2⟩
    simp only [runOps, wantedA, hg.1, cond_true]
    cases aOp P c f H o.op with
    | none => rfl
    | some x => cases x with
      | panic v H' => rfl
      | val v H' e =>
        dsimp only
        cases f.put o.dst v with
        | none => rfl
        | some f' => exact runOps_loose ops ops' l _ _ _ _ _ _ hg.2

theorem deepSplit_spec {D : Nat → Bool} : ∀ {l : List Oper} {p d g as r}, deepSplit D l = some (p, d, g, as, r) → ∃ o c, l = p ++ o :: r ∧ o.op = .call c ∧ c.callee = .value (.func g) ∧ o.guard = none ∧ o.dst = d ∧ as = c.args.toList ∧ noGuards r = true ∧ lastDefer r = none
  | [], p, d, g, as, r, h => by cases h
  | o :: l, p, d, g, as, r, h => by
    have next : ∀ {x}, (match deepSplit D l with | some (p, x) => some (o :: p, x) | none => none) = some x → x = (p, d, g, as, r) → ∃ o' c, o :: l = p ++ o' :: r ∧ o'.op = .call c ∧ c.callee = .value (.func g) ∧ o'.guard = none ∧ o'.dst = d ∧ as = c.args.toList ∧ noGuards r = true ∧ lastDefer r = none := by
      intro x hx hxe
      subst hxe
      cases hd : deepSplit D l with
      | none => rw [hd] at hx; cases hx
      | some q =>
        obtain ⟨p', q⟩ := q
        rw [hd] at hx
        cases hx
        obtain ⟨o', c, h1, h2⟩ := deepSplit_spec hd
        exact ⟨o', c, by rw [h1]; rfl, h2⟩
    unfold deepSplit at h
    dsimp only at h
    split at h
    · rename_i c ho
      split at h
      · rename_i g' hc
        cases hb : (D g' && o.guard.isNone && noGuards l && (lastDefer l).isNone) with
        | false => rw [hb] at h; exact next h rfl
        | true =>
          rw [hb] at h
          simp only [cond_true, Option.some.injEq, Prod.mk.injEq] at h
          obtain ⟨rfl, rfl, rfl, rfl, rfl⟩ := h
          simp only [Bool.and_eq_true, Option.isNone_iff_eq_none] at hb
          exact ⟨o, c, rfl, ho, hc, hb.1.1.2, rfl, rfl, hb.1.2, hb.2⟩
      · exact next h rfl
    · exact next h rfl

/-- A region, cut at a call. -/
theorem ev_region {id : Nat} {ops : Array Oper} {p r : List Oper} {o : Oper} {c : Call} {g : FuncId} {f H f1 H1 f2 H2 l v z} {k : Nat}
    (hld : lastDefer ops.toList = none) (hs : ops.toList = p ++ o :: r) (ho : o.op = .call c) (hc : c.callee = .value (.func g)) (hg : o.guard = none) (hn : noGuards r = true) (hr : lastDefer r = none)
    (hp : (fRunQ P (fCall P (fexec P k)) ops p f H) = .nrm f1 H1) (ha : evL f1 c.args.toList = some l) {m : Nat} (hcall : callX P (exec P m) g l H1 = some (.ret v, H2)) (hput : f1.put o.dst v = some f2)
    (hrest : Ev' P (.region 0 r.toArray false) f2 H2 z) : Ev' P (.region id ops false) f H z := by
  have hfe : (fun c f H => (fexec P k c f H).toR) = exec P k := by funext c f H; exact fexec_eq P k c f H
  have hcs := fCall_eq (P := P) (ex := fexec P k)
  rw [hfe] at hcs
  have hpre := fRunQ_eq (P := P) hcs ops p 0 f H []
  rw [hp] at hpre
  obtain ⟨q, hq⟩ := hrest
  cases q with
  | zero => rw [exec] at hq; cases hq
  | succ q =>
  obtain ⟨M, h1, h2, h3⟩ : ∃ M, k ≤ M ∧ m ≤ M ∧ q ≤ M := ⟨k + m + q, by omega, by omega, by omega⟩
  refine ⟨M + 1, ?_⟩
  rw [exec] at hq ⊢
  simp only [hld, hr, cond_false] at hq ⊢
  -- the calls ahead
  cases hrun : runOps P (callX P (exec P k)) ops p 0 f H [] with
  | none => rw [hrun] at hpre; cases hpre
  | some x =>
    rw [hrun] at hpre
    cases x with
    | panic v f' H' => cases hpre
    | done f' H' tr =>
      cases hpre
      have hrun' := runOps_mono (callX_mono (P := P) (exec_mono P h1)) _ _ _ _ _ _ _ hrun
      obtain ⟨j, hj⟩ := runOps_append ops (o :: r) p 0 f H [] hrun'
      rw [hs, hj]
      have hcall' := callX_mono (P := P) (exec_mono P h2) _ _ _ _ hcall
      have hop : aOp P (callX P (exec P M)) f1 H1 o.op = some (.val v H2 (.eff H1 H2)) := by
        rw [ho]
        simp only [aOp, hc, evO, ha]
        simp only [List.nil_append, List.append_nil, hcall']
      simp only [runOps, wantedA, hg, cond_true, hop, hput]
      have hq' : ROut.out (runOps P (callX P (exec P q)) r.toArray r 0 f2 H2 []) = some z := by
        revert hq
        cases runOps P (callX P (exec P q)) r.toArray r 0 f2 H2 [] with
        | none => intro h; cases h
        | some x => cases x <;> exact fun h => h
      cases hrr : runOps P (callX P (exec P q)) r.toArray r 0 f2 H2 [] with
      | none => rw [hrr] at hq'; cases hq'
      | some x =>
        have hrr' := runOps_mono (callX_mono (P := P) (exec_mono P h3)) _ _ _ _ _ _ _ hrr
        have hl := runOps_loose (P := P) (c := callX P (exec P M)) ops r.toArray r (j + 1) 0 f2 H2 ((j, .eff H1 H2) :: tr) [] hn
        rw [hrr', ← hrr, hq'] at hl
        revert hl
        cases runOps P (callX P (exec P M)) ops r (j + 1) f2 H2 ((j, .eff H1 H2) :: tr) with
        | none => intro h; cases h
        | some x => cases x <;> exact fun h => h

theorem mEnter_says {run : MRun} (hr : Sound P run) {d : Option Tmp} {g : FuncId} {args : List Operand} {rest : Code} {K : List Kt} {f1 : Fr} {H1 : AHeap} {y} (h : (mEnter P run d g args rest K f1 H1).says P y) :
    ∃ fn body l, P.funcs[g]? = some fn ∧ fn.body = some body ∧ evL f1 args = some l ∧ Reach P body (frOf l (max fn.ntmps l.length) H1.globN) H1 (.call fn d f1 rest :: K) y := by
  unfold mEnter at h
  cases hf : P.funcs[g]? with
  | none => rw [hf] at h; exact h.elim
  | some fn =>
    rw [hf] at h
    dsimp only at h
    cases hb : fn.body with
    | none => rw [hb] at h; exact h.elim
    | some body =>
      rw [hb] at h
      dsimp only at h
      obtain ⟨f2, H2, he, hs⟩ := onNrm_says (P := P) h
      rw [fL_eq] at he
      cases hl : evL f1 args with
      | none => rw [hl] at he; cases he
      | some l =>
        rw [hl] at he
        rw [ofO_some, frK_eq] at he
        cases he
        exact ⟨fn, body, l, rfl, hb, rfl, hr _ _ _ _ _ hs⟩

theorem mStep_sound {run : MRun} (hr : Sound P run) (k : Nat) (D : Nat → Bool) : Sound P (mStep P k D run) := by
  intro c f H K y h
  cases c with
  | skip => obtain ⟨z, hz, hk⟩ := mPop_says hr k K (.nrm f H) y h; cases hz; exact ⟨_, ev_skip, hk⟩
  | label l => obtain ⟨z, hz, hk⟩ := mPop_says hr k K (.nrm f H) y h; cases hz; exact ⟨_, ev_label, hk⟩
  | ret => obtain ⟨z, hz, hk⟩ := mPop_says hr k K (.ret f H) y h; cases hz; exact ⟨_, ev_ret, hk⟩
  | exit i => obtain ⟨z, hz, hk⟩ := mPop_says hr k K (.ext i f H) y h; cases hz; exact ⟨_, ev_exit, hk⟩
  | scope c => obtain ⟨z, hz, hk⟩ := hr c f H K y h; exact ⟨z, ev_scope hz, hk⟩
  | seq a b =>
    obtain ⟨⟨e, f', H'⟩, hz, hk⟩ := hr a f H (.seq b :: K) y h
    cases e with
    | normal => obtain ⟨z', h1, h2⟩ := hk; exact ⟨z', ev_seq hz h1, h2⟩
    | exit i => exact ⟨_, ev_seq_out hz (by simp), hk⟩
    | ret => exact ⟨_, ev_seq_out hz (by simp), hk⟩
    | panic v => exact ⟨_, ev_seq_out hz (by simp), hk⟩
  | loop c =>
    obtain ⟨⟨e, f', H'⟩, hz, hk⟩ := hr c f H (.loop c :: K) y h
    cases e with
    | normal => obtain ⟨z', h1, h2⟩ := hk; exact ⟨z', ev_loop hz h1, h2⟩
    | exit i => exact ⟨_, ev_loop_out hz (by simp), hk⟩
    | ret => exact ⟨_, ev_loop_out hz (by simp), hk⟩
    | panic v => exact ⟨_, ev_loop_out hz (by simp), hk⟩
  | block id c =>
    obtain ⟨⟨e, f', H'⟩, hz, hk⟩ := hr c f H (.block id :: K) y h
    cases e with
    | exit i => exact ⟨_, ev_block hz, hk⟩
    | normal => exact ⟨_, ev_block_out hz (by simp), hk⟩
    | ret => exact ⟨_, ev_block_out hz (by simp), hk⟩
    | panic v => exact ⟨_, ev_block_out hz (by simp), hk⟩
  | cond c a b =>
    have h' : (onNrmOr (fE c f fun c => asBool c .no fun t => Bool.rec (motive := fun _ => Res) (.ret f H) (.nrm f H) t) (fun f H => run a f H K) fun _ => run b f H K).says P y := h
    rw [fE_eq] at h'
    cases hv : evO f c with
    | none => rw [hv] at h'; exact h'.elim
    | some v =>
      rw [hv] at h'
      cases v with
      | bool t =>
        cases t with
        | true => obtain ⟨z, hz, hk⟩ := hr a f H K y h'; exact ⟨z, ev_cond hv hz, hk⟩
        | false => obtain ⟨z, hz, hk⟩ := hr b f H K y h'; exact ⟨z, ev_cond hv hz, hk⟩
      | _ => exact h'.elim
  | region id ops draw =>
    have leaf : ∀ dr, (mPop P (fexec P k) run K (fexec P (k + 1) (.region id ops dr) f H)).says P y → Reach P (.region id ops dr) f H K y := fun dr h => by
      obtain ⟨z, hz, hk⟩ := mPop_says hr k K _ y h
      rw [fexec_eq] at hz
      exact ⟨z, ⟨k + 1, hz⟩, hk⟩
    cases draw with
    | true => exact leaf true h
    | false =>
      cases hd : deepSplit D ops.toList with
      | none =>
        have h' : (Option.rec (motive := fun _ => MRes) (mPop P (fexec P k) run K (fexec P (k + 1) (.region id ops false) f H)) _ (deepSplit D ops.toList) : MRes).says P y := h
        rw [hd] at h'
        exact leaf false h'
      | some x =>
        obtain ⟨p, d, g, as, r⟩ := x
        have h' : (Option.rec (motive := fun _ => MRes) (mPop P (fexec P k) run K (fexec P (k + 1) (.region id ops false) f H)) (fun x => Option.rec (motive := fun _ => MRes)
          (onNrm (fRunQ P (fCall P (fexec P k)) ops x.1 f H) fun f1 H1 => mEnter P run x.2.1 x.2.2.1 x.2.2.2.1 (.region 0 x.2.2.2.2.toArray false) K f1 H1)
          (fun _ => .no) (lastDefer ops.toList)) (deepSplit D ops.toList) : MRes).says P y := h
        rw [hd] at h'
        dsimp only at h'
        cases hld : lastDefer ops.toList with
        | some _ => rw [hld] at h'; exact h'.elim
        | none =>
          rw [hld] at h'
          dsimp only at h'
          obtain ⟨f1, H1, he, hs⟩ := onNrm_says (P := P) h'
          obtain ⟨fn, body, l, h1, h2, h3, z, ⟨m, hz⟩, hk⟩ := mEnter_says hr hs
          obtain ⟨k', v, H2, f2, z', hb, hput, hrest, hK⟩ := hk
          obtain ⟨o, c, s1, s2, s3, s4, s5, s6, s7, s8⟩ := deepSplit_spec hd
          refine ⟨z', ?_, hK⟩
          have hcall : callX P (exec P (max m k')) g l H1 = some (.ret v, H2) := by
            unfold callX
            simp only [h1, h2]
            rw [exec_mono P (Nat.le_max_left m k') _ _ _ _ hz]
            exact bodyX_mono (exec_mono P (Nat.le_max_right m k')) hb
          exact ev_region hld s1 s2 s3 s4 s7 s8 he (by rw [← s6]; exact h3) hcall (by rw [s5]; exact hput) hrest
  | _ => exact h.elim

theorem mrun_sound (k : Nat) (D : Nat → Bool) : ∀ n, Sound P (mrun P k D n)
  | 0 => fun _ _ _ _ _ h => h
  | n + 1 => mStep_sound (mrun_sound k D n) k D

/-- A piece. -/
theorem mrun_stop {k n : Nat} {D : Nat → Bool} {c f H K c' f' H' K'} (h : mrun P k D n c f H K = .stop c' f' H' K') {y} (hy : Reach P c' f' H' K' y) : Reach P c f H K y :=
  mrun_sound k D n c f H K y (by rw [h]; exact hy)
/-- How a run that ends well is told. -/
noncomputable def endM (P : Program) (fn : Func) (m : MRes) : Bool :=
  MRes.rec (motive := fun _ => Bool) (fun _ _ _ _ => false) (fun r => endT P fn r) false m
theorem mrun_fin {k n : Nat} {D : Nat → Bool} {fn : Func} {c f H K} (h : endM P fn (mrun P k D n c f H K) = true) : ∃ r y, r.toR = some y ∧ endT P fn r = true ∧ Reach P c f H K y := by
  have hs := mrun_sound (P := P) k D n c f H K
  cases hm : mrun P k D n c f H K with
  | stop _ _ _ _ => rw [hm] at h; cases h
  | no => rw [hm] at h; cases h
  | fin r =>
    rw [hm] at h hs
    cases hr : r.toR with
    | none => cases r <;> first | (simp [Res.toR] at hr; done) | exact absurd h (by simp [endM, endT])
    | some y => exact ⟨r, y, hr, h, hs y hr⟩
theorem toR_inj : ∀ {r r' : Res}, r.toR = r'.toR → r = r' := by
  intro r r' h
  cases r <;> cases r' <;> simp only [Res.toR, Option.some.injEq, Prod.mk.injEq, AExit.exit.injEq, AExit.panic.injEq, reduceCtorEq, false_and] at h <;> first | rfl | (obtain ⟨h1, h2, h3⟩ := h; subst h1; subst h2; subst h3; rfl) | (obtain ⟨-, h2, h3⟩ := h; subst h2; subst h3; rfl)
theorem mach_true {g : FuncId} {fn : Func} {c : Code} {args : List Value} {H : AHeap} (hf : P.funcs[g]? = some fn) (hb : fn.body = some c)
    (h : ∃ r y, r.toR = some y ∧ endT P fn r = true ∧ Reach P c (frOf args (max fn.ntmps args.length) H.globN) H [] y) : ∃ k, isTrue (callA P k g args H) = true := by
  obtain ⟨r, y, hr, he, z, ⟨k, hz⟩, hk⟩ := h
  cases hk
  refine ⟨k, end_true hf hb (k := k) (c' := c) rfl ?_⟩
  have : fexec P k c (frOf args (max fn.ntmps args.length) H.globN) H = r := toR_inj (by rw [fexec_eq, hz, hr])
  rw [this]; exact he
/-- A piece, ahead of what ends well. -/
theorem piece_fin {k n : Nat} {D : Nat → Bool} {fn : Func} {c f H K c' f' H' K'} (h : mrun P k D n c f H K = .stop c' f' H' K')
    (hy : ∃ r y, r.toR = some y ∧ endT P fn r = true ∧ Reach P c' f' H' K' y) : ∃ r y, r.toR = some y ∧ endT P fn r = true ∧ Reach P c f H K y := by
  obtain ⟨r, y, h1, h2, h3⟩ := hy
  exact ⟨r, y, h1, h2, mrun_stop h h3⟩
end Go.AX
