/- The conditions along the code are enough: regions, code, loops, calls. -/
import Derived.Test.YtgbclgkadlfejaaAxVc3
import Derived.Test.YtgbclgkadlfejaaAxExec
namespace Go.AX
open Go
set_option linter.unusedVariables false
set_option linter.unusedSimpArgs false

variable {P : Program} {N ng : Nat}

theorem lk_cons {n m : Nat} {v : Value} {r : Env} : lk n ((m, v) :: r) = if n = m then some v else lk n r := by
  simp only [lk]
  cases hb : Nat.beq n m with
  | true => rw [if_pos (Nat.eq_of_beq_eq_true hb), cond_true]
  | false => rw [if_neg (Nat.ne_of_beq_eq_false hb), cond_false]
theorem putE_sound {env : Env} {f : Fr} (hf : FOk env N ng f) {d : Option Tmp} {v : Value} {K : Env → Prop} (h : putE N env d v K) :
    ∃ f' env', f.put d v = some f' ∧ FOk env' N ng f' ∧ K env' := by
  unfold putE at h
  cases d with
  | none => exact ⟨f, env, rfl, hf, h⟩
  | some d =>
    dsimp only at h
    cases hb : Nat.blt d N with
    | false => rw [hb] at h; exact h.elim
    | true =>
      rw [hb] at h
      refine ⟨⟨f.tmps.set d v, f.size, f.defs, f.glob⟩, _, by simp only [Fr.put, hf.size, hb, cond_true], ⟨fun n u hn => ?_, hf.size, hf.defs, hf.glob⟩, h⟩
      rw [lk_cons] at hn
      have hg : (⟨f.tmps.set d v, f.size, f.defs, f.glob⟩ : Fr).get n = (if n = d then v else f.get n) := by
        unfold Fr.get
        simp only [Tr.get_set]
        split <;> rfl
      rw [hg]
      split at hn
      · rename_i h'; rw [if_pos h']; exact Option.some.inj hn
      · rename_i h'; rw [if_neg h']; exact hf.sub n u hn
theorem guardK_sound {ops : Array Oper} {o : Oper} {env : Env} {f : Fr} (hf : FOk env N ng f) {A B : Prop} (h : guardK ops o env A B) :
    (wantedA ops o f = true ∧ A) ∨ (wantedA ops o f = false ∧ B) := by
  unfold guardK at h; unfold wantedA
  cases hg : o.guard with
  | none => simp only [hg] at h; exact .inl ⟨rfl, h⟩
  | some x =>
    obtain ⟨j, want⟩ := x
    simp only [hg] at h
    cases hd : (ops[j]?).bind (·.dst) with
    | none => simp only [hd] at h
    | some d =>
      simp only [hd] at h
      obtain ⟨v, hv, hk⟩ := optK_sound h
      have hgv := lk_ok hf hv
      cases v
      case bool b =>
       simp only [hd, hgv]
       cases want <;> simp only at hk <;> rcases Br_sound hk with ⟨rfl, hk⟩ | ⟨rfl, hk⟩
       · exact .inr ⟨rfl, hk⟩
       · exact .inl ⟨rfl, hk⟩
       · exact .inl ⟨rfl, hk⟩
       · exact .inr ⟨rfl, hk⟩
      all_goals exact .inr ⟨by simp only [hd, hgv], hk⟩

theorem opsK_sound {ops : Array Oper} : ∀ {l : List Oper} {i : Nat} {env : Env} {f : Fr} (hf : FOk env N ng f) {H : AHeap} {tr : List (Nat × Ev)} {K : Env → AHeap → List (Nat × Ev) → Prop}
    (h : opsK P N ng ops l i env H tr K), ∃ f' env' H' tr', (∃ k0, ∀ k, k0 ≤ k → runOps P (callA P k) ops l i f H tr = some (.done f' H' tr')) ∧ FOk env' N ng f' ∧ K env' H' tr'
  | [], i, env, f, hf, H, tr, K, h => ⟨f, env, H, tr, ⟨0, fun k _ => rfl⟩, hf, h⟩
  | o :: r, i, env, f, hf, H, tr, K, h => by
    rcases guardK_sound hf h with ⟨hw, hk⟩ | ⟨hw, hk⟩
    · obtain ⟨v, H1, e, ⟨k0, ho⟩, hk⟩ := opK_sound hf hk
      obtain ⟨f1, env1, hp, hf1, hk⟩ := putE_sound hf hk
      obtain ⟨f', env', H', tr', ⟨k1, hr⟩, hf', hk⟩ := opsK_sound hf1 hk
      refine ⟨f', env', H', tr', ⟨max k0 k1, fun k hkk => ?_⟩, hf', hk⟩
      simp only [runOps, hw, cond_true, ho k (by omega), hp, hr k (by omega)]
    · obtain ⟨f1, env1, hp, hf1, hk⟩ := putE_sound hf hk
      obtain ⟨f', env', H', tr', ⟨k1, hr⟩, hf', hk⟩ := opsK_sound hf1 hk
      refine ⟨f', env', H', tr', ⟨k1, fun k hkk => ?_⟩, hf', hk⟩
      simp only [runOps, hw, cond_false, hp, hr k (by omega)]

theorem vc_sound : ∀ {c : Code} {env : Env} {H : AHeap} {Q : AExit → Env → AHeap → Prop}, vc P N ng c env H Q → Runs P N ng c env H Q
  | .skip, env, H, Q, h => ⟨fun f hf => ⟨1, _, _, _, env, by rw [exec], hf, h⟩⟩
  | .label _, env, H, Q, h => ⟨fun f hf => ⟨1, _, _, _, env, by rw [exec], hf, h⟩⟩
  | .ret, env, H, Q, h => ⟨fun f hf => ⟨1, _, _, _, env, by rw [exec], hf, h⟩⟩
  | .exit id, env, H, Q, h => ⟨fun f hf => ⟨1, _, _, _, env, by rw [exec], hf, h⟩⟩
  | .seq a b, env, H, Q, h => ⟨fun f hf => by
    obtain ⟨k, e, f1, H1, env1, he, hf1, hq⟩ := (vc_sound (c := a) h).ends f hf
    cases e with
    | normal =>
      obtain ⟨k2, e2, f2, H2, env2, he2, hf2, hq2⟩ := (vc_sound (c := b) hq).ends f1 hf1
      refine ⟨max k k2 + 1, e2, f2, H2, env2, ?_, hf2, hq2⟩
      rw [exec, exec_mono P (Nat.le_max_left k k2) _ _ _ _ he]
      exact exec_mono P (Nat.le_max_right k k2) _ _ _ _ he2
    | exit i => exact ⟨k + 1, _, f1, H1, env1, by rw [exec, he], hf1, hq⟩
    | ret => exact ⟨k + 1, _, f1, H1, env1, by rw [exec, he], hf1, hq⟩
    | panic v => exact ⟨k + 1, _, f1, H1, env1, by rw [exec, he], hf1, hq⟩⟩
  | .cond c a b, env, H, Q, h => ⟨fun f hf => by
    obtain ⟨v, hv, hk⟩ := oE_sound hf h
    cases v <;> try exact False.elim hk
    rcases Br_sound hk with ⟨rfl, hk⟩ | ⟨rfl, hk⟩
    · obtain ⟨k, e, f1, H1, env1, he, hf1, hq⟩ := (vc_sound (c := a) hk).ends f hf
      exact ⟨k + 1, e, f1, H1, env1, by rw [exec]; simp only [hv, cond_true, he], hf1, hq⟩
    · obtain ⟨k, e, f1, H1, env1, he, hf1, hq⟩ := (vc_sound (c := b) hk).ends f hf
      exact ⟨k + 1, e, f1, H1, env1, by rw [exec]; simp only [hv, cond_false, he], hf1, hq⟩⟩
  | .block id c, env, H, Q, h => ⟨fun f hf => by
    obtain ⟨k, e, f1, H1, env1, he, hf1, hq⟩ := (vc_sound (c := c) h).ends f hf
    cases e with
    | normal => exact ⟨k + 1, _, f1, H1, env1, by rw [exec, he], hf1, hq⟩
    | exit i =>
      dsimp only [blockK] at hq
      cases hb : Nat.beq i id with
      | true => rw [hb] at hq; exact ⟨k + 1, _, f1, H1, env1, by rw [exec, he]; simp only [hb, cond_true], hf1, hq⟩
      | false => rw [hb] at hq; exact ⟨k + 1, _, f1, H1, env1, by rw [exec, he]; simp only [hb, cond_false], hf1, hq⟩
    | ret => exact ⟨k + 1, _, f1, H1, env1, by rw [exec, he], hf1, hq⟩
    | panic v => exact ⟨k + 1, _, f1, H1, env1, by rw [exec, he], hf1, hq⟩⟩
  | .loop c, env, H, Q, h => h
  | .scope c, env, H, Q, h => ⟨fun f hf => by
    obtain ⟨k, e, f1, H1, env1, he, hf1, hq⟩ := (vc_sound (c := c) h).ends f hf
    exact ⟨k + 1, e, f1, H1, env1, by rw [exec, he], hf1, hq⟩⟩
  | .region id ops draw, env, H, Q, h => ⟨fun f hf => by
    have h : bif noDefer ops then opsK P N ng ops ops.toList 0 env H [] (endK ops draw Q) else False := h
    cases hd : lastDefer ops.toList with
    | some x => simp only [noDefer, hd, Option.isNone_some, cond_false] at h
    | none =>
      simp only [noDefer, hd, Option.isNone_none, cond_true] at h
      obtain ⟨f', env', H', tr', ⟨k0, hr⟩, hf', hk⟩ := opsK_sound hf h
      refine ⟨k0 + 1, .normal, f', H', env', ?_, hf', ?_⟩
      · rw [exec]
        simp only [hd]
        have := hr k0 (Nat.le_refl _)
        unfold callA at this
        simp only [this]
        cases draw with
        | false => rfl
        | true =>
          have hk : Need (DrawP ops tr') (Q .normal env' H') := hk
          simp only [cond_true]
          simp only [hk.cond.ok, cond_true]
      · cases draw with
        | false => exact hk
        | true => exact (show Need (DrawP ops tr') (Q .normal env' H') from hk).rest⟩
  | .goto _, _, _, _, h => h.elim
  | .refuse _, _, _, _, h => h.elim
  | .rangeFunc _ _ _ _, _, _, _, h => h.elim

/-- What is listed here is known there. -/
def Sub : Env → Env → Prop
  | [], _ => True
  | (n, v) :: r, env => lk n env = some v ∧ Sub r env
theorem Sub.get : ∀ {l env : Env}, Sub l env → ∀ n v, lk n l = some v → lk n env = some v
  | [], env, _, n, v, h => by simp [lk] at h
  | (m, u) :: r, env, hs, n, v, h => by
    rw [lk_cons] at h
    split at h
    · rename_i he; subst he; exact hs.1.trans h
    · exact Sub.get hs.2 n v h
theorem FOk.less {l env : Env} {f : Fr} (hf : FOk env N ng f) (hs : Sub l env) : FOk l N ng f := ⟨fun n v h => hf.sub n v (hs.get n v h), hf.size, hf.defs, hf.glob⟩
theorem Runs.less {c : Code} {l env : Env} {H : AHeap} {Q : AExit → Env → AHeap → Prop} (hs : Sub l env) (h : Runs P N ng c l H Q) : Runs P N ng c env H Q :=
  ⟨fun f hf => h.ends f (hf.less hs)⟩
theorem Runs.mono {c : Code} {env : Env} {H : AHeap} {Q Q' : AExit → Env → AHeap → Prop} (h : Runs P N ng c env H Q) (hq : ∀ e env' H', Q e env' H' → Q' e env' H') : Runs P N ng c env H Q' :=
  ⟨fun f hf => by obtain ⟨k, e, f1, H1, env1, he, hf1, hk⟩ := h.ends f hf; exact ⟨k, e, f1, H1, env1, he, hf1, hq _ _ _ hk⟩⟩
theorem Does.mono {g : FuncId} {args : List Value} {H : AHeap} {Q Q' : CRes → AHeap → Prop} (h : Does P g args H Q) (hq : ∀ r H', Q r H' → Q' r H') : Does P g args H Q' :=
  ⟨by obtain ⟨k, r, H', he, hk⟩ := h.ends; exact ⟨k, r, H', he, hq _ _ hk⟩⟩

/-- A loop: s tells where it stands. -/
theorem Runs.loop {c : Code} {σ : Type} (E : σ → Env) (J : σ → AHeap → Prop) (m : σ → Nat) (s0 : σ) {env : Env} {H : AHeap} {Q : AExit → Env → AHeap → Prop}
    (hs : Sub (E s0) env) (h0 : J s0 H)
    (step : ∀ s H, J s H → vc P N ng c (E s) H fun e env' H' => match e with
      | .normal => ∃ s', Sub (E s') env' ∧ J s' H' ∧ m s' < m s
      | e => Q e env' H') : Runs P N ng (.loop c) env H Q := by
  suffices hh : ∀ n s H, m s < n → J s H → Runs P N ng (.loop c) (E s) H Q from (hh (m s0 + 1) s0 H (Nat.lt_succ_self _) h0).less hs
  intro n
  induction n with
  | zero => intro s H hm; omega
  | succ n ih =>
    intro s H hm hj
    refine ⟨fun f hf => ?_⟩
    obtain ⟨k, e, f1, H1, env1, he, hf1, hq⟩ := (vc_sound (step s H hj)).ends f hf
    cases e with
    | normal =>
      obtain ⟨s', hsub, hj', hlt⟩ := hq
      obtain ⟨k2, e2, f2, H2, env2, he2, hf2, hq2⟩ := (ih s' H1 (by omega) hj').ends f1 (hf1.less hsub)
      refine ⟨max k k2 + 1, e2, f2, H2, env2, ?_, hf2, hq2⟩
      rw [exec, exec_mono P (Nat.le_max_left k k2) _ _ _ _ he]
      exact exec_mono P (Nat.le_max_right k k2) _ _ _ _ he2
    | exit i => exact ⟨k + 1, _, f1, H1, env1, by rw [exec, he], hf1, hq⟩
    | ret => exact ⟨k + 1, _, f1, H1, env1, by rw [exec, he], hf1, hq⟩
    | panic v => exact ⟨k + 1, _, f1, H1, env1, by rw [exec, he], hf1, hq⟩

/-! ### calls -/
def resK (P : Program) (env : Env) (H : AHeap) : List ResultVar → (List Value → Prop) → Prop
  | [], K => K []
  | .tmp t :: r, K => optK (lk t env) fun v => resK P env H r fun l => K (v :: l)
  | .cell a t :: r, K => optK (lk a env) fun a => loadK P H t a fun v _ _ => resK P env H r fun l => K (v :: l)
theorem resK_sound {env : Env} {f : Fr} (hf : FOk env N ng f) {H : AHeap} : ∀ {l : List ResultVar} {K : List Value → Prop}, resK P env H l K → ∃ vs, resA P f H l = some vs ∧ K vs
  | [], K, h => ⟨[], rfl, h⟩
  | .tmp t :: r, K, h => by
    obtain ⟨v, hv, hk⟩ := optK_sound h
    obtain ⟨vs, hvs, hk⟩ := resK_sound hf hk
    exact ⟨v :: vs, by simp only [resA, hvs, lk_ok hf hv], hk⟩
  | .cell a t :: r, K, h => by
    obtain ⟨x, hx, hk⟩ := optK_sound h
    obtain ⟨v, H', e, hl, hk⟩ := loadK_sound hk
    obtain ⟨vs, hvs, hk⟩ := resK_sound hf hk
    exact ⟨v :: vs, by simp only [resA, hvs, lk_ok hf hx, hl], hk⟩

def envOf : Nat → List Value → Env
  | _, [] => []
  | i, v :: r => (i, v) :: envOf (i + 1) r
theorem frOf_ok (args : List Value) (n ng : Nat) : FOk (envOf 0 args) n ng (frOf args n ng) := by
  have hget : ∀ (l : List Value) (t : Tr Value) (i : Nat) (env : Env), (∀ n v, lk n env = some v → n < i ∧ (t.get n) = some v) →
      ∀ n v, (lk n env = some v ∨ lk n (envOf i l) = some v) → ((l.foldl (fun (s : Tr Value × Nat) v => (s.1.set s.2 v, s.2 + 1)) (t, i)).1.get n) = some v := by
    intro l
    induction l with
    | nil => intro t i env he n v h; rcases h with h | h; exact (he n v h).2; simp [envOf, lk] at h
    | cons x r ih =>
      intro t i env he n v h
      simp only [List.foldl_cons]
      refine ih (t.set i x) (i + 1) ((i, x) :: env) (fun m u hm => ?_) n v ?_
      · rw [lk_cons] at hm
        split at hm
        · rename_i h'; subst h'; cases hm; exact ⟨by omega, by rw [Tr.get_set, if_pos rfl]⟩
        · have := he m u hm; exact ⟨by omega, by rw [Tr.get_set, if_neg (by omega)]; exact this.2⟩
      · rw [lk_cons]
        rcases h with h | h
        · have := (he n v h).1; left; rw [if_neg (by omega)]; exact h
        · simp only [envOf, lk_cons] at h
          split at h
          · rename_i h'; left; rw [if_pos h']; exact h
          · exact .inr h
  refine ⟨fun i v h => ?_, rfl, rfl, rfl⟩
  unfold Fr.get
  have := hget args .nil 0 [] (fun n v h => by simp [lk] at h) i v (.inr h)
  simp only [frOf, this, Option.getD_some]

/-- How a body's end ends the call. -/
def bodyK (P : Program) (fn : Func) (Q : CRes → AHeap → Prop) (e : AExit) (env : Env) (H : AHeap) : Prop :=
  match e with
  | .normal | .ret => resK P env H fn.results.toList fun l => Q (.ret (oneOf l)) H
  | _ => False
theorem Does.of {g : FuncId} {fn : Func} {c : Code} (hf : P.funcs[g]? = some fn) (hp : primOf fn = none) (hb : fn.body = some c) {args : List Value} {H : AHeap} {Q : CRes → AHeap → Prop}
    (h : vc P (max fn.ntmps args.length) H.globN c (envOf 0 args) H (bodyK P fn Q)) : Does P g args H Q := by
  obtain ⟨k, e, f1, H1, env1, he, hf1, hq⟩ := (vc_sound h).ends _ (frOf_ok args _ _)
  refine ⟨k, ?_⟩
  have hpa : primAt P g = none := by unfold primAt; rw [hf]; exact hp
  have hd := hf1.defs
  cases e with
  | normal =>
    obtain ⟨vs, hvs, hk⟩ := resK_sound hf1 hq
    exact ⟨_, _, by simp only [callA, callX, hpa, callB, hf, hb, he, bodyX, hd, leaveX, endX, hvs], hk⟩
  | ret =>
    obtain ⟨vs, hvs, hk⟩ := resK_sound hf1 hq
    exact ⟨_, _, by simp only [callA, callX, hpa, callB, hf, hb, he, bodyX, hd, leaveX, endX, hvs], hk⟩
  | exit i => exact hq.elim
  | panic v => exact hq.elim
end Go.AX
