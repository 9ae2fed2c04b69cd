/- Code, and calls. -/
import Derived.Test.YtjnegbcdeggpfaaDoorAxDraw
import Derived.Recover
import Derived.Scope
namespace Go.AX
open Go Go.RowKit
set_option linter.unusedVariables false
set_option linter.unusedSimpArgs false

variable {P : Program}

/-- What code's end owes. -/
def EOk (ρ : Rho) (base : Nat) (H : AHeap) (w : World) (Q : Exit → Act → World → Prop) (f' : Fr) (H' : AHeap) : AExit → Prop
  | .normal => ∀ ρ' a' w', Ok ρ base H w ρ' H' w' → FRel ρ' f' a' → Q .normal a' w'
  | .exit id => ∀ ρ' a' w', Ok ρ base H w ρ' H' w' → FRel ρ' f' a' → Q (.exit id) a' w'
  | .ret => ∀ ρ' a' w', Ok ρ base H w ρ' H' w' → FRel ρ' f' a' → Q .ret a' w'
  | .panic v => ∀ ρ' a' w' v', Ok ρ base H w ρ' H' w' → FRel ρ' f' a' → VRel ρ' v v' → Q (.panic [{ v := v', recovered := false }]) a' w'

theorem EOk.after {ρ ρ1 : Rho} {base : Nat} {H H1 H' : AHeap} {w w1 : World} {Q : Exit → Act → World → Prop} {f' : Fr} {ex : AExit} (h : EOk ρ base H w Q f' H' ex) (ok : Ok ρ base H w ρ1 H1 w1) (n1 : H.next ≤ H1.next) (n2 : H1.next ≤ H'.next) : EOk ρ1 base H1 w1 Q f' H' ex := by
  cases ex with
  | normal => exact fun ρ' a' w' ok' hf => h ρ' a' w' (ok.trans ok' n1 n2) hf
  | exit id => exact fun ρ' a' w' ok' hf => h ρ' a' w' (ok.trans ok' n1 n2) hf
  | ret => exact fun ρ' a' w' ok' hf => h ρ' a' w' (ok.trans ok' n1 n2) hf
  | panic v => exact fun ρ' a' w' v' ok' hf hv => h ρ' a' w' v' (ok.trans ok' n1 n2) hf hv

theorem frOf_get : ∀ (args : List Value) (t : Tr Value) (n i : Nat),
    ((args.foldl (fun (s : Tr Value × Nat) v => (s.1.set s.2 v, s.2 + 1)) (t, n)).1.get i) = if n ≤ i ∧ i < n + args.length then args[i - n]? else t.get i
  | [], t, n, i => by rw [if_neg (by simp only [List.length_nil]; omega)]; rfl
  | v :: r, t, n, i => by
    simp only [List.foldl_cons]
    rw [frOf_get r (t.set n v) (n + 1) i]
    simp only [List.length_cons]
    by_cases h : n + 1 ≤ i ∧ i < n + 1 + r.length
    · rw [if_pos h, if_pos (by omega), show i - n = (i - (n + 1)) + 1 by omega]; simp
    · rw [if_neg h, Tr.get_set]
      by_cases e : i = n
      · subst e; rw [if_pos rfl, if_pos (by omega)]; simp
      · rw [if_neg e, if_neg (by omega)]

theorem glob_of {ρ : Rho} {base : Nat} {H : AHeap} {w : World} (hs : Sim ρ base H w) : ∀ g, g < H.globN → PRel ρ (g + 1) 0 ⟨g, 0, none⟩ := fun g hg => by
  unfold AHeap.globN at hg
  split at hg
  · rename_i n hn; exact hs.obj 0 _ hn g hg
  · omega
theorem frame_rel {ρ : Rho} {base : Nat} {H : AHeap} {w : World} (hs : Sim ρ base H w) {args : List Value} {args' : Array Value} (h : VsRel ρ args args'.toList) (n : Nat) :
    FRel ρ (frOf args (max n args.length) H.globN) { tmps := args' ++ Array.replicate (n - args'.size) undef, defers := [] } := by
  have hlen : args.length = args'.size := by simpa using h.length
  refine ⟨fun t => ?_, by simp [frOf, hlen]; omega, trivial, glob_of hs⟩
  simp only [Fr.get, frOf, frOf_get, Nat.zero_le, true_and, Nat.zero_add, Nat.sub_zero, Array.getD_eq_getD_getElem?]
  by_cases ht : t < args.length
  · rw [if_pos ht, Array.getElem?_append_left (by omega)]
    obtain ⟨v', h1, h2⟩ := h.get t args[t] (List.getElem?_eq_getElem ht)
    have h3 : args'[t]? = some v' := by simpa using h1
    rw [h3, List.getElem?_eq_getElem ht]; exact h2
  · rw [if_neg ht, Array.getElem?_append_right (by omega)]
    have : (Tr.nil : Tr Value).get t = none := Tr.get_nil t
    rw [this]
    by_cases h4 : t - args'.size < n - args'.size
    · rw [Array.getElem?_replicate, if_pos h4]; exact VRel.undef ρ
    · rw [Array.getElem?_replicate, if_neg h4]; exact VRel.undef ρ

theorem res_run {ρ : Rho} {base : Nat} {H : AHeap} {w : World} (hs : Sim ρ base H w) {f : Fr} {a : Act} (hf : FRel ρ f a) : ∀ {l : List ResultVar} {vs : List Value}, resA P f H l = some vs →
    ∃ vs', (l.mapM (m := Sem) fun r => match r with
      | .tmp t => pure (a.tmps.getD t undef)
      | .cell c t => do loadVar t (← asAddr (a.tmps.getD c undef))).run P w = .ok vs' w ∧ VsRel ρ vs vs'
  | [], vs, h => by simp [resA] at h; subst h; exact ⟨[], rfl, trivial⟩
  | .tmp t :: r, vs, h => by
    simp only [resA] at h
    cases h1 : resA P f H r with
    | none => simp [h1] at h
    | some l =>
      simp [h1] at h; subst h
      obtain ⟨vs', h2, h3⟩ := res_run hs hf h1
      refine ⟨a.tmps.getD t undef :: vs', ?_, hf.val t, h3⟩
      simp only [List.mapM_cons, Sem.run_bind, Sem.run_pure, Result.andThen_ok, h2]
  | .cell c t :: r, vs, h => by
    simp only [resA] at h
    split at h
    · rename_i v H1 e l hld h1
      simp at h; subst h
      obtain ⟨vs', h2, h3⟩ := res_run hs hf h1
      have hv := hf.val c
      generalize hx : a.tmps.getD c undef = x' at hv
      obtain ⟨_, _, v', h4, h5⟩ := load_run (P := P) hs hld hv
      have h6 : ∃ a', x' = .pointer (some a') := by
        unfold aLoad at hld
        split at hld
        · rename_i b o d n hp _ _
          rw [hp] at hv; cases hv; exact ⟨_, rfl⟩
        · cases hld
      obtain ⟨a', rfl⟩ := h6
      refine ⟨v' :: vs', ?_, h5, h3⟩
      have h7 : (loadVar t a').run P w = .ok v' w := by simpa [Instr.loadAt, Instr.sureAddr] using h4
      have h8 : (asAddr (.pointer (some a'))).run P w = .ok a' w := rfl
      simp only [List.mapM_cons, Sem.run_bind, hx, h8, Sem.run_pure, Result.andThen_ok, h7, h2]
    · cases h

theorem results_run {ρ : Rho} {base : Nat} {H : AHeap} {w : World} (hs : Sim ρ base H w) {f : Fr} {a : Act} (hf : FRel ρ f a) {fn : Func} {vs : List Value} (h : resA P f H fn.results.toList = some vs) :
    ∃ v', (results fn a.tmps).run P w = .ok v' w ∧ VRel ρ (oneOf vs) v' := by
  obtain ⟨vs', h1, h2⟩ := res_run (P := P) hs hf h
  refine ⟨if h : vs'.toArray.size = 1 then vs'.toArray[0] else .tuple vs'.toArray, ?_, ?_⟩
  · unfold results
    rw [Array.mapM_eq_mapM_toList]
    simp only [Sem.run_bind, Sem.run_map]
    erw [h1]
    rfl
  · match vs, vs', h2 with
    | [], [], _ => exact VRel.mkTuple (xs := []) (ys := []) trivial
    | [v], [v'], h => exact h.1
    | a :: b :: r, a' :: b' :: r', h => exact VRel.mkTuple (xs := a :: b :: r) (ys := a' :: b' :: r') h

/-- What is asked of an executor for code. -/
def ExOk (P : Program) (ex : Exec) : Prop := ∀ c f H e f' H', codeOk P c = true → ex c f H = some (e, f', H') →
  H.next ≤ H'.next ∧ ∀ ρ base w a (Q : Exit → Act → World → Prop), Wf H → Sim ρ base H w → FRel ρ f a → Fresh ρ H.next H'.next → EOk ρ base H w Q f' H' e → c.wp P Q a w

/-! ### what is deferred -/
inductive MoRel (ρ : Rho) : AMode → FrameMode → Prop
  | back : MoRel ρ .back .returning
  | thrown {v v' : Value} (h : VRel ρ v v') : MoRel ρ (.thrown v) (.panicking [{ v := v', recovered := false }])
  | caught (v' : Value) : MoRel ρ .caught (.panicking [{ v := v', recovered := true }])
theorem MoRel.mono {n m : Nat} {ρ ρ' : Rho} (hm : Mono n m ρ ρ') {x : AMode} {u : FrameMode} (h : MoRel ρ x u) : MoRel ρ' x u := by
  cases h with
  | back => exact .back
  | thrown h => exact .thrown (h.mono hm)
  | caught v => exact .caught v
theorem MoRel.settle {ρ : Rho} {x : AMode} {u : FrameMode} (h : MoRel ρ x u) : MoRel ρ x.settle (Go.settle u) := by
  cases h with
  | back => exact .back
  | thrown h => exact .thrown h
  | caught v => exact .back
theorem MoRel.notRun {ρ : Rho} {x : AMode} {u : FrameMode} (h : MoRel ρ x u) : u ≠ .run := by cases h <;> simp

/-- What recover finds. -/
theorem MoRel.recover {ρ : Rho} {x : AMode} {u : FrameMode} (h : MoRel ρ x u) (c : Frame) (cs : List Frame) (hc : c.mode = u) :
    ∃ v' u', VRel ρ x.tell.1 v' ∧ MoRel ρ x.tell.2 u' ∧ (recoverD (c :: cs) = some (v', { c with mode := u' } :: cs) ∨ (recoverD (c :: cs) = none ∧ v' = .nilIface ∧ u' = u)) := by
  cases h with
  | back => exact ⟨.nilIface, .returning, .nilIface, .back, .inr ⟨by simp [recoverD, hc], rfl, rfl⟩⟩
  | @thrown v v' h => exact ⟨v', _, h, .caught v', .inl (by simp [recoverD, hc])⟩
  | caught v' => exact ⟨.nilIface, _, .nilIface, .caught v', .inr ⟨by simp [recoverD, hc], rfl, rfl⟩⟩

theorem wpS_recover {id : Nat} {ops : Array Oper} {o : Oper} {a : Act} {cs cs' : List Frame} {w : World} {v : Value} {Q : Exit → Act → List Frame → World → Prop} (ho : ops[0]? = some o) (hg : o.guard = none)
    (hr : (execOp a.eval o).run P w = .ok .recover w) (hrec : recoverD cs = some (v, cs') ∨ (recoverD cs = none ∧ v = .nilIface ∧ cs' = cs))
    (h : wpOps P ops (fun e a' w' => Q e a' cs' w') (List.range' 1 (ops.size - 1)) (a.put o.dst v) w) : (Code.region id ops false).wpS P Q a cs w := by
  intro b k hb hro
  obtain ⟨e, a', w', hq, harr⟩ := wp_ops _ _ _ h b k cs'
  have hsz : 0 < ops.size := (Array.getElem?_eq_some_iff.1 ho).1
  have hrange : List.range ops.size = 0 :: List.range' 1 (ops.size - 1) := by
    rw [List.range_eq_range']
    obtain ⟨n, hn⟩ : ∃ n, ops.size = n + 1 := ⟨ops.size - 1, by omega⟩
    rw [hn, List.range'_succ]; simp
  have hw : Region.wanted o (yielded ops a.tmps) = true := by simp [Region.wanted, hg]
  refine ⟨e, a', cs', w', hq, .of_steps (.head step_region (.one (step_lone_go ?_))) harr⟩
  rw [hrange]
  have hgo := stepG_op (P := P) (b := b) (k := k) (cs := cs) (w := w) (rest := List.range' 1 (ops.size - 1)) ho hw
  have hfin : ∀ v, (b.at a (.inRegion ops (0 :: List.range' 1 (ops.size - 1)) :: k)).finish v = b.at (a.put o.dst v) (.inRegion ops (List.range' 1 (ops.size - 1)) :: k) := by
    intro v; rw [Frame.finish_at, ho]; rfl
  have hk : (b.at a (.inRegion ops (0 :: List.range' 1 (ops.size - 1)) :: k)).kind = .deferred := hb
  have htr := tryRecover_deferred hk cs
  rw [hgo, ← hfin]
  rcases hrec with hrec | ⟨hrec, rfl, rfl⟩
  · simp only [Frame.at] at htr ⊢
    simp [stepG.apply, hr, htr, hrec, hro]
  · simp only [Frame.at] at htr ⊢
    simp [stepG.apply, hr, htr, hrec, hro]

theorem headRecover_spec {c : Code} {ops : Array Oper} {d : Option Tmp} {r : List Oper} {rest : Code} (h : headRecover c = some (ops, d, r, rest)) :
    ∃ id o cl, c = .seq (.region id ops false) rest ∧ ops.toList = o :: r ∧ o.op = .call cl ∧ cl.callee = .builtin .recover ∧ o.guard = none ∧ o.dst = d := by
  unfold headRecover at h
  split at h
  · rename_i id ops' rest'
    split at h
    · rename_i o r' hl
      split at h
      · rename_i cl hop
        split at h
        · rename_i hc
          cases hg : o.guard with
          | some _ => simp [hg] at h
          | none =>
            simp [hg] at h
            obtain ⟨rfl, rfl, rfl, rfl⟩ := h
            exact ⟨id, o, cl, rfl, hl, hop, hc, hg, rfl⟩
        · cases h
      · cases h
    · cases h
  · cases h

/-- A deferred call. -/
theorem deferX_sound (hname : ∀ (g : FuncId) fn, P.funcs[g]? = some fn → fn.name ≠ "runtime.NumGoroutine") (hcode : ∀ (g : FuncId) fn c, P.funcs[g]? = some fn → bodyOf fn = some c → codeOk P c = true)
    {ex : Exec} (hex : ExOk P ex) (hwx : ExWf ex) {cx : FuncId → List Value → AHeap → Option (CRes × AHeap)} (hcx : CallOk P cx) (hcw : CallWf cx) {g : FuncId} {args : List Value} {m m' : AMode} {H H' : AHeap} (h : deferX P ex cx g args m H = some (m', H')) :
    H.next ≤ H'.next ∧ (∃ fn c, P.funcs[g]? = some fn ∧ fn.body = some c) ∧ ∀ ρ base w (args' : Array Value) u, Wf H → Sim ρ base H w → VsRel ρ args args'.toList → MoRel ρ m u → Fresh ρ H.next H'.next →
      CallsD P g args' u w fun e u' w' => ∃ v, e = .returned v ∧ ∃ ρ', Ok ρ base H w ρ' H' w' ∧ MoRel ρ' m' u' := by
  unfold deferX at h
  split at h
  · cases h
  · rename_i fn hf
    split at h
    · cases h
    · rename_i c hb
      have hcok := hcode g fn c hf hb
      have hb := bodyOf_body hb
      split at h
      · -- it recovers
        rename_i ops d r rest hhr
        obtain ⟨id, o, cl, rfl, hl, hop, hcl, hg, rfl⟩ := headRecover_spec hhr
        simp only [codeOk, Bool.and_eq_true] at hcok
        split at h
        · cases h
        · rename_i f0 hput
          have hsz : ops.size = r.length + 1 := by rw [← Array.length_toList, hl]; simp
          have ho0 : ops[0]? = some o := by rw [← Array.getElem?_toList, hl]; rfl
          split at h
          · rename_i f1 H1 tr1 hrun
            obtain ⟨n1, k1⟩ := plain_wp hcx hcw hname r 1 f0 H [] _ (fun j => by rw [← Array.getElem?_toList, hl, Nat.add_comm]; rfl) hrun
            have hw1 : Wf H → Wf H1 := fun hw => runOps_wf hcw _ _ _ _ _ _ hrun hw
            have fin : ∀ (ex2 : AExit) (f2 : Fr) (H2 : AHeap), (ex2 = .normal ∨ ex2 = .ret) → ex rest f1 H1 = some (ex2, f2, H2) → (match f2.defs, resA P f2 H2 fn.results.toList with | [], some _ => some (m.tell.2, H2) | _, _ => none) = some (m', H') →
                H.next ≤ H'.next ∧ ∀ ρ base w (args' : Array Value) u, Wf H → Sim ρ base H w → VsRel ρ args args'.toList → MoRel ρ m u → Fresh ρ H.next H'.next →
                  CallsD P g args' u w fun e u' w' => ∃ v, e = .returned v ∧ ∃ ρ', Ok ρ base H w ρ' H' w' ∧ MoRel ρ' m' u' := by
              intro ex2 f2 H2 hx2 hrest hres
              split at hres
              · rename_i l hd hl2
                simp at hres
                obtain ⟨rfl, rfl⟩ := hres
                obtain ⟨n2, k2⟩ := hex rest f1 H1 ex2 f2 H2 hcok.2 hrest
                refine ⟨Nat.le_trans n1 n2, fun ρ base w args' u hw hs hargs hmo hfr => ?_⟩
                refine callsD_of_wpS hf hb fun c₀ cs hc0 => ?_
                refine wpS_seq ?_
                have hfr0 := frame_rel hs hargs fn.ntmps
                obtain ⟨v', u', hv', hu', hrec⟩ := hmo.recover c₀ cs hc0
                refine wpS_recover (v := v') (cs' := { c₀ with mode := u' } :: cs) ho0 hg ?_ ?_ ?_
                · simp only [execOp, hop, resolve, hcl, Sem.run_bind, Sem.run_pure, Result.andThen_ok, invoke, builtin]
                · rcases hrec with hrec | ⟨hrec, hn, hu2⟩
                  · exact .inl hrec
                  · refine .inr ⟨hrec, hn, ?_⟩
                    subst hu2; subst hc0; rfl
                · have := k1 ρ base w _ (fun e a' w' => (Exit.thenS (rest.wpS P (bodyPostS P fn c₀ cs fun e u' w' => ∃ v, e = .returned v ∧ ∃ ρ', Ok ρ base H w ρ' H2 w' ∧ MoRel ρ' m.tell.2 u')) (bodyPostS P fn c₀ cs fun e u' w' => ∃ v, e = .returned v ∧ ∃ ρ', Ok ρ base H w ρ' H2 w' ∧ MoRel ρ' m.tell.2 u')) e a' ({ c₀ with mode := u' } :: cs) w') hw hs (hfr0.put hput hv') (fun b q1 q2 => hfr b q1 (Nat.lt_of_lt_of_le q2 n2)) ?_
                  · rw [hsz]; simpa using this
                  · intro ρ1 a1 w1 ok1 hf1
                    show rest.wpS P _ a1 ({ c₀ with mode := u' } :: cs) w1
                    refine wpS_of_wp (k2 ρ1 base w1 a1 _ (hw1 hw) ok1.sim hf1 (Fresh.rest hfr ok1.mono n1) ?_)
                    have hlast : ∀ ρ2 a2 w2, Ok ρ1 base H1 w1 ρ2 H2 w2 → FRel ρ2 f2 a2 → a2.defers = [] ∧ ∃ u2, ({ c₀ with mode := u' } :: cs : List Frame) = { c₀ with mode := u2 } :: cs ∧ ∃ v, (results fn a2.tmps).run P w2 = .ok v w2 ∧ ∃ v2, Ending.returned v = .returned v2 ∧ ∃ ρ', Ok ρ base H w ρ' H2 w2 ∧ MoRel ρ' m.tell.2 u2 := by
                      intro ρ2 a2 w2 ok2 hf2
                      obtain ⟨v2, r1, r2⟩ := results_run (P := P) ok2.sim hf2 hl2
                      have hdd := hf2.defers
                      rw [hd] at hdd
                      refine ⟨?_, u', rfl, v2, r1, v2, rfl, ρ2, ok1.trans ok2 n1 n2, (hu'.mono ok1.mono).mono ok2.mono⟩
                      cases hda : a2.defers with
                      | nil => rfl
                      | cons _ _ => rw [hda] at hdd; exact hdd.elim
                    rcases hx2 with rfl | rfl
                    · exact hlast
                    · exact hlast
              · cases hres
            split at h
            · rename_i f2 H2 hrest
              obtain ⟨q1, q2⟩ := fin _ _ _ (.inl rfl) hrest h
              exact ⟨q1, ⟨fn, _, hf, hb⟩, q2⟩
            · rename_i f2 H2 hrest
              obtain ⟨q1, q2⟩ := fin _ _ _ (.inr rfl) hrest h
              exact ⟨q1, ⟨fn, _, hf, hb⟩, q2⟩
            · cases h
          · cases h
      · -- it does not
        have fin : ∀ (ex2 : AExit) (f2 : Fr) (H2 : AHeap), (ex2 = .normal ∨ ex2 = .ret) → ex c (frOf args (max fn.ntmps args.length) H.globN) H = some (ex2, f2, H2) → (match f2.defs, resA P f2 H2 fn.results.toList with | [], some _ => some (m, H2) | _, _ => none) = some (m', H') →
            H.next ≤ H'.next ∧ ∀ ρ base w (args' : Array Value) u, Wf H → Sim ρ base H w → VsRel ρ args args'.toList → MoRel ρ m u → Fresh ρ H.next H'.next →
              CallsD P g args' u w fun e u' w' => ∃ v, e = .returned v ∧ ∃ ρ', Ok ρ base H w ρ' H' w' ∧ MoRel ρ' m' u' := by
          intro ex2 f2 H2 hx2 hrest hres
          split at hres
          · rename_i l hd hl2
            simp at hres
            obtain ⟨rfl, rfl⟩ := hres
            obtain ⟨n2, k2⟩ := hex c _ H ex2 f2 H2 hcok hrest
            refine ⟨n2, fun ρ base w args' u hw hs hargs hmo hfr => ?_⟩
            refine CallsD.mono (callsD_of_wp (R := fun e w' => ∃ v, e = .returned v ∧ ∃ ρ', Ok ρ base H w ρ' H2 w' ∧ MoRel ρ' m u) hf hb (k2 ρ base w _ _ hw hs (frame_rel hs hargs fn.ntmps) hfr ?_)) fun e u' w' he => by
              obtain ⟨rfl, he⟩ := he; exact he
            have hlast : ∀ ρ2 a2 w2, Ok ρ base H w ρ2 H2 w2 → FRel ρ2 f2 a2 → a2.defers = [] ∧ ∃ v, (results fn a2.tmps).run P w2 = .ok v w2 ∧ ∃ v2, Ending.returned v = .returned v2 ∧ ∃ ρ', Ok ρ base H w ρ' H2 w2 ∧ MoRel ρ' m u := by
              intro ρ2 a2 w2 ok2 hf2
              obtain ⟨v2, r1, r2⟩ := results_run (P := P) ok2.sim hf2 hl2
              have hdd := hf2.defers
              rw [hd] at hdd
              refine ⟨?_, v2, r1, v2, rfl, ρ2, ok2, hmo.mono ok2.mono⟩
              cases hda : a2.defers with
              | nil => rfl
              | cons _ _ => rw [hda] at hdd; exact hdd.elim
            rcases hx2 with rfl | rfl
            · exact hlast
            · exact hlast
          · cases hres
        split at h
        · rename_i f2 H2 hrest
          obtain ⟨q1, q2⟩ := fin _ _ _ (.inl rfl) hrest h
          exact ⟨q1, ⟨fn, _, hf, hb⟩, q2⟩
        · rename_i f2 H2 hrest
          obtain ⟨q1, q2⟩ := fin _ _ _ (.inr rfl) hrest h
          exact ⟨q1, ⟨fn, _, hf, hb⟩, q2⟩
        · cases h

theorem run_enter {g : FuncId} {cap args : Array Value} {w : World} {fn : Func} {cd : Code} (hname : ∀ (g : FuncId) fn, P.funcs[g]? = some fn → fn.name ≠ "runtime.NumGoroutine") (hf : P.funcs[g]? = some fn) (hb : fn.body = some cd) :
    (invoke (.fn (.func g) cap) args).run P w = .ok (.enter g (args ++ cap)) w := by
  have hn : (fn.name == "runtime.NumGoroutine") = false := by simpa using hname g fn hf
  simp only [invoke, callFunc, Sem.run_bind, run_program, Result.andThen_ok, hf, hn, Bool.false_eq_true, if_false, hb, Option.isNone_some, Sem.run_pure]

/-- What is deferred is called, the last first. -/
theorem leaveX_sound (hname : ∀ (g : FuncId) fn, P.funcs[g]? = some fn → fn.name ≠ "runtime.NumGoroutine") (hcode : ∀ (g : FuncId) fn c, P.funcs[g]? = some fn → bodyOf fn = some c → codeOk P c = true)
    {ex : Exec} (hex : ExOk P ex) (hwx : ExWf ex) {cx : FuncId → List Value → AHeap → Option (CRes × AHeap)} (hcx : CallOk P cx) (hcw : CallWf cx) {fn : Func} {tmps : Array Value} {R : Ending → World → Prop} {base : Nat} :
    ∀ (ds : List (FuncId × List Value)) (m : AMode) (H : AHeap) (m' : AMode) (H' : AHeap), leaveX (deferX P ex cx) ds m H = some (m', H') →
      H.next ≤ H'.next ∧ ∀ ρ w (ds' : List Deferred) u, Wf H → Sim ρ base H w → LRel (DRel ρ) ds ds' → MoRel ρ m u → Fresh ρ H.next H'.next →
        (∀ ρ' w' u', Ok ρ base H w ρ' H' w' → MoRel ρ' m' u' → Leaves P fn tmps R [] u' w') → Leaves P fn tmps R ds' u w
  | [], m, H, m', H', h => by
    simp [leaveX] at h
    obtain ⟨rfl, rfl⟩ := h
    refine ⟨Nat.le_refl _, fun ρ w ds' u hw hs hd hm hfr hk => ?_⟩
    cases ds' with
    | nil => exact hk ρ w u (Ok.refl hs) hm
    | cons _ _ => exact hd.elim
  | (g, args) :: ds, m, H, m', H', h => by
    simp only [leaveX] at h
    split at h
    · rename_i m1 H1 h1
      obtain ⟨n1, ⟨fn1, c1, q1, q2⟩, k1⟩ := deferX_sound hname hcode hex hwx hcx hcw h1
      obtain ⟨n2, k2⟩ := leaveX_sound hname hcode hex hwx hcx hcw (fn := fn) (tmps := tmps) (R := R) (base := base) ds m1.settle H1 m' H' h
      have hw1 : Wf H → Wf H1 := fun hw => deferX_wf hwx hcw h1 hw
      refine ⟨Nat.le_trans n1 n2, fun ρ w ds' u hw hs hd hm hfr hk => ?_⟩
      cases ds' with
      | nil => exact hd.elim
      | cons d' ds' =>
        obtain ⟨⟨cap, args', rfl, hargs⟩, hd2⟩ := hd
        refine leaves_cons (hm.notRun) (run_enter hname q1 q2) ?_
        refine (k1 ρ base w (args' ++ cap) u hw hs (by simpa using hargs) hm fun b p1 p2 => hfr b p1 (Nat.lt_of_lt_of_le p2 n2)).mono fun e u' w' he => ?_
        obtain ⟨v, rfl, ρ', ok, hm'⟩ := he
        exact k2 ρ' w' ds' _ (hw1 hw) ok.sim (LRel.mono (fun _ _ h => h.mono ok.mono) hd2) hm'.settle (Fresh.rest hfr ok.mono n1) fun ρ2 w2 u2 ok2 hm2 => hk ρ2 w2 u2 (ok.trans ok2 n1 n2) hm2
    · cases h

/-- A call. -/
theorem callB_sound (hname : ∀ (g : FuncId) fn, P.funcs[g]? = some fn → fn.name ≠ "runtime.NumGoroutine") (hcode : ∀ (g : FuncId) fn c, P.funcs[g]? = some fn → bodyOf fn = some c → codeOk P c = true)
    {ex : Exec} (hex : ExOk P ex) (hwx : ExWf ex) : CallOk P (callB P ex) := by
  have hnone : CallOk P (fun _ _ _ => none) := fun g args H r H' h => by cases h
  have hnw : CallWf (fun _ _ _ => none) := fun g args H r H' h => by cases h
  intro g args H r H' h
  unfold callB at h
  cases hf : P.funcs[g]? with
  | none => simp [hf] at h
  | some fn =>
    cases hb : bodyOf fn with
    | none => simp [hf, hb] at h
    | some c =>
      simp only [hf, hb] at h
      have hcd := hcode g fn c hf hb
      have hb := bodyOf_body hb
      cases hx : ex c (frOf args (max fn.ntmps args.length) H.globN) H with
      | none => rw [hx] at h; simp [bodyX] at h
      | some x =>
        obtain ⟨e, f1, H1⟩ := x
        rw [hx] at h
        obtain ⟨n1, k1⟩ := hex c _ H e f1 H1 hcd hx
        have hw1 : Wf H → Wf H1 := hwx _ _ _ _ _ _ hx
        -- the end, whatever way it is come to
        have fin : ∀ (m : AMode), (m = .back ∨ ∃ v, m = .thrown v) → endX P fn f1 (leaveX (deferX P ex fun _ _ _ => none) f1.defs m H1) = some (r, H') → H1.next ≤ H'.next ∧
            ∀ ρ base w ρ1 a1 w1 u, Wf H → Ok ρ base H w ρ1 H1 w1 → FRel ρ1 f1 a1 → MoRel ρ1 m u → Fresh ρ H.next H'.next → Leaves P fn a1.tmps (Ends ρ base H w H' r) a1.defers u w1 := by
          intro m hm he
          cases hl : leaveX (deferX P ex fun _ _ _ => none) f1.defs m H1 with
          | none => rw [hl] at he; simp [endX] at he
          | some y =>
            obtain ⟨m2, H2⟩ := y
            rw [hl] at he
            have hH2 : H2 = H' := by
              cases m2 with
              | back => simp only [endX] at he; split at he <;> simp at he; exact he.2
              | thrown v => simp [endX] at he; exact he.2
              | caught => simp [endX] at he
            subst hH2
            obtain ⟨n2, -⟩ := leaveX_sound hname hcode hex hwx hnone hnw (fn := fn) (tmps := #[]) (R := fun _ _ => True) (base := 0) _ _ _ _ _ hl
            refine ⟨n2, fun ρ base w ρ1 a1 w1 u hw ok1 hf1 hmo hfr => ?_⟩
            obtain ⟨-, k2⟩ := leaveX_sound hname hcode hex hwx hnone hnw (fn := fn) (tmps := a1.tmps) (R := Ends ρ base H w H2 r) (base := base) _ _ _ _ _ hl
            refine k2 ρ1 w1 a1.defers u (hw1 hw) ok1.sim hf1.defers hmo (Fresh.rest hfr ok1.mono n1) fun ρ2 w2 u2 ok2 hm2 => ?_
            have hok := ok1.trans ok2 n1 n2
            cases hm2 with
            | back =>
              simp only [endX] at he
              split at he
              · rename_i l hl2
                simp at he; subst he
                have hf2 : FRel ρ2 f1 a1 := hf1.mono ok2.mono
                obtain ⟨v2, r1, r2⟩ := results_run (P := P) ok2.sim hf2 hl2
                exact ⟨v2, r1, ρ2, hok, r2⟩
              · cases he
            | thrown hv =>
              simp [endX] at he; subst he
              exact ⟨ρ2, hok, _, rfl, hv⟩
            | caught v => simp [endX] at he
        have go : ∀ (m : AMode), (m = .back ∨ ∃ v, m = .thrown v) → endX P fn f1 (leaveX (deferX P ex fun _ _ _ => none) f1.defs m H1) = some (r, H') →
            (∀ ρ base w, (∀ ρ1 a1 w1 u, Ok ρ base H w ρ1 H1 w1 → FRel ρ1 f1 a1 → MoRel ρ1 m u → Leaves P fn a1.tmps (Ends ρ base H w H' r) a1.defers u w1) → EOk ρ base H w (bodyPostD P fn (Ends ρ base H w H' r)) f1 H1 e) →
            H.next ≤ H'.next ∧ (∃ (fn : Func) (c : Code), some fn = some fn ∧ fn.body = some c) ∧ (Wf H → ∀ ρ base w (args' : Array Value), Sim ρ base H w → VsRel ρ args args'.toList → Fresh ρ H.next H'.next → Calls P g args' w (Ends ρ base H w H' r)) := by
          intro m hm he hE
          obtain ⟨n2, k2⟩ := fin m hm he
          refine ⟨Nat.le_trans n1 n2, ⟨fn, c, rfl, hb⟩, fun hw ρ base w args' hs hargs hfr => ?_⟩
          exact calls_of_wp_defers hf hb (k1 ρ base w _ _ hw hs (frame_rel hs hargs fn.ntmps) (fun b p1 p2 => hfr b p1 (Nat.lt_of_lt_of_le p2 n2)) (hE ρ base w fun ρ1 a1 w1 u ok1 hf1 hmo => k2 ρ base w ρ1 a1 w1 u hw ok1 hf1 hmo hfr))
        have hres : H.next ≤ H'.next ∧ (∃ (fn : Func) (c : Code), some fn = some fn ∧ fn.body = some c) ∧ (Wf H → ∀ ρ base w (args' : Array Value), Sim ρ base H w → VsRel ρ args args'.toList → Fresh ρ H.next H'.next → Calls P g args' w (Ends ρ base H w H' r)) := by
          cases e with
          | normal => exact go .back (.inl rfl) h fun ρ base w hk ρ1 a1 w1 ok1 hf1 => hk ρ1 a1 w1 _ ok1 hf1 .back
          | ret => exact go .back (.inl rfl) h fun ρ base w hk ρ1 a1 w1 ok1 hf1 => hk ρ1 a1 w1 _ ok1 hf1 .back
          | panic v => exact go (.thrown v) (.inr ⟨v, rfl⟩) h fun ρ base w hk ρ1 a1 w1 v' ok1 hf1 hv => hk ρ1 a1 w1 _ ok1 hf1 (.thrown hv)
          | exit id => simp [bodyX] at h
        obtain ⟨q1, -, q3⟩ := hres
        exact ⟨q1, .inl ⟨⟨fn, c, hf, hb⟩, q3⟩⟩

/-- What is asked of the functions that are known by their answers. -/
def PrimOk (P : Program) : Prop := ∀ (g : FuncId) p args H v H', primAt P g = some p → primA P p args H = some (v, H') → ((∃ fn c, P.funcs[g]? = some fn ∧ fn.body = some c) ∧
  (Wf H → ∀ ρ base w (args' : Array Value), Sim ρ base H w → VsRel ρ args args'.toList → Calls P g args' w (Ends ρ base H w H' (.ret v)))) ∨ ExtCall P g args H (.ret v) H'
theorem PrimOk.none (h : (P.funcs.toList.all fun fn => (primOf fn).isNone) = true) : PrimOk P := fun g p args H v H' hp _ => by
  unfold primAt at hp
  split at hp
  · rename_i fn hf
    have := List.all_eq_true.1 h fn (by simpa using Array.mem_of_getElem? hf)
    rw [hp] at this; cases this
  · cases hp
theorem below_ok {ρ : Rho} {base : Nat} {H : AHeap} {w w' : World} (hs : Sim ρ base H w) (hb : Below w.heap.size w w') : Ok ρ base H w ρ H w' where
  mono := Mono.refl _ _
  sim := ⟨hs.alive, Nat.le_trans hs.bsz hb.size, fun b c k x h => Nat.lt_of_lt_of_le (hs.inb b c k x h) hb.size, fun b o h => (hs.obj b o h).keep (Mono.refl 0 ρ) (by omega) fun c k x hl => hb.block c (hs.inb b c k x hl), hs.apart⟩
  step := ⟨hb.os, hb.tape, hb.output, hb.size, fun c hc _ => hb.block c hc, fun b c k x ho hl => .inr ⟨b, k, x, ho, hl⟩, fun _ _ _ _ h1 h2 => ⟨h1, h2⟩, fun _ _ _ _ h => .inl h⟩
theorem callX_sound (hname : ∀ (g : FuncId) fn, P.funcs[g]? = some fn → fn.name ≠ "runtime.NumGoroutine") (hcode : ∀ (g : FuncId) fn c, P.funcs[g]? = some fn → bodyOf fn = some c → codeOk P c = true) (hprim : PrimOk P)
    {ex : Exec} (hex : ExOk P ex) (hwx : ExWf ex) : CallOk P (callX P ex) := by
  intro g args H r H' h
  unfold callX at h
  split at h
  · rename_i p hp
    split at h
    · rename_i v H1 hv
      simp only [Option.some.injEq, Prod.mk.injEq] at h
      obtain ⟨rfl, rfl⟩ := h
      refine ⟨?_, (hprim g p args H v _ hp hv).imp (fun ⟨h1, h2⟩ => ⟨h1, fun hw ρ base w args' hs ha _ => h2 hw ρ base w args' hs ha⟩) id⟩
      rcases primA_wf hv with rfl | ⟨b, o, o', hg, rfl⟩
      · exact Nat.le_refl _
      · exact Nat.le_refl _
    · cases h
  · exact callB_sound hname hcode hex hwx g args H r H' h

theorem lastDefer_spec : ∀ {l pre : List Oper} {o : Oper} {c : Call}, lastDefer l = some (pre, o, c) → l = pre ++ [o] ∧ o.op = .defer c ∧ o.guard = none
  | [], pre, o, c, h => by simp [lastDefer] at h
  | [x], pre, o, c, h => by
    simp only [lastDefer] at h
    split at h
    · rename_i c' hop
      cases hg : x.guard with
      | some _ => simp [hg] at h
      | none =>
        simp [hg] at h
        obtain ⟨rfl, rfl, rfl⟩ := h
        exact ⟨rfl, hop, hg⟩
    · cases h
  | x :: y :: r, pre, o, c, h => by
    simp only [lastDefer] at h
    split at h
    · rename_i l o' c' hr
      simp at h
      obtain ⟨rfl, rfl, rfl⟩ := h
      obtain ⟨h1, h2, h3⟩ := lastDefer_spec hr
      exact ⟨by rw [h1]; rfl, h2, h3⟩
    · cases h

theorem exec_sound (hmix : P.follows .mixedOrders = true) (hname : ∀ (g : FuncId) fn, P.funcs[g]? = some fn → fn.name ≠ "runtime.NumGoroutine")
    (hreg : ∀ (g : FuncId) fn c, P.funcs[g]? = some fn → bodyOf fn = some c → codeOk P c = true) (hprim : PrimOk P) :
    ∀ k, ExOk P (exec P k) ∧
    (∀ c f H ex f' H', codeOk P c = true → exec P k (.loop c) f H = some (ex, f', H') →
      H.next ≤ H'.next ∧ ∀ ρ base w a (Q : Exit → Act → World → Prop), Wf H → Sim ρ base H w → FRel ρ f a → Fresh ρ H.next H'.next → EOk ρ base H w Q f' H' ex → Code.rounds P c Q k a w) := by
  intro k
  induction k with
  | zero => exact ⟨fun c f H ex f' H' _ h => by simp [exec] at h, fun c f H ex f' H' _ h => by simp [exec] at h⟩
  | succ k ih =>
    have hcall := callX_sound (P := P) hname hreg hprim ih.1 (exec_wf k)
    have hcwf : CallWf (callX P (exec P k)) := callX_wf (exec_wf k)
    have hB : ∀ c f H ex f' H', codeOk P c = true → exec P (k + 1) (.loop c) f H = some (ex, f', H') →
      H.next ≤ H'.next ∧ ∀ ρ base w a (Q : Exit → Act → World → Prop), Wf H → Sim ρ base H w → FRel ρ f a → Fresh ρ H.next H'.next → EOk ρ base H w Q f' H' ex → Code.rounds P c Q (k + 1) a w := by
      intro c f H ex f' H' hc h
      simp only [exec] at h
      split at h
      · rename_i f1 H1 h1
        obtain ⟨n1, w1⟩ := ih.1 c f H _ f1 H1 hc h1
        obtain ⟨n2, w2⟩ := ih.2 c f1 H1 _ f' H' hc h
        refine ⟨Nat.le_trans n1 n2, fun ρ base w a Q hwf hs hf hfr he => ?_⟩
        rw [rounds_succ]
        refine w1 ρ base w a _ hwf hs hf (fun b q1 q2 => hfr b q1 (by omega)) fun ρ' a' w' ok hf' => ?_
        exact w2 ρ' base w' a' Q (exec_wf _ _ _ _ _ _ _ h1 hwf) ok.sim hf' (Fresh.rest hfr ok.mono n1) (he.after ok n1 n2)
      · rename_i hne
        obtain ⟨n1, w1⟩ := ih.1 c f H ex f' H' hc h
        refine ⟨n1, fun ρ base w a Q hwf hs hf hfr he => ?_⟩
        rw [rounds_succ]
        refine w1 ρ base w a _ hwf hs hf hfr ?_
        cases ex with
        | normal => exact (hne _ _ h).elim
        | exit id => exact he
        | ret => exact he
        | panic v => exact he
    refine ⟨?_, hB⟩
    intro c f H ex f' H' hc h
    cases c with
    | skip => simp [exec] at h; obtain ⟨rfl, rfl, rfl⟩ := h; exact ⟨Nat.le_refl _, fun ρ base w a Q hwf hs hf _ he => wp_skip (he ρ a w (Ok.refl hs) hf)⟩
    | label l => simp [exec] at h; obtain ⟨rfl, rfl, rfl⟩ := h; exact ⟨Nat.le_refl _, fun ρ base w a Q hwf hs hf _ he => wp_label (he ρ a w (Ok.refl hs) hf)⟩
    | ret => simp [exec] at h; obtain ⟨rfl, rfl, rfl⟩ := h; exact ⟨Nat.le_refl _, fun ρ base w a Q hwf hs hf _ he => wp_ret (he ρ a w (Ok.refl hs) hf)⟩
    | exit id => simp [exec] at h; obtain ⟨rfl, rfl, rfl⟩ := h; exact ⟨Nat.le_refl _, fun ρ base w a Q hwf hs hf _ he => wp_exit (he ρ a w (Ok.refl hs) hf)⟩
    | seq x y =>
      simp only [codeOk, Bool.and_eq_true] at hc
      simp only [exec] at h
      split at h
      · rename_i f1 H1 h1
        obtain ⟨n1, w1⟩ := ih.1 x f H _ f1 H1 hc.1 h1
        obtain ⟨n2, w2⟩ := ih.1 y f1 H1 _ f' H' hc.2 h
        refine ⟨Nat.le_trans n1 n2, fun ρ base w a Q hwf hs hf hfr he => wp_seq (w1 ρ base w a _ hwf hs hf (fun b q1 q2 => hfr b q1 (by omega)) fun ρ' a' w' ok hf' => ?_)⟩
        exact w2 ρ' base w' a' Q (exec_wf _ _ _ _ _ _ _ h1 hwf) ok.sim hf' (Fresh.rest hfr ok.mono n1) (he.after ok n1 n2)
      · rename_i hne
        obtain ⟨n1, w1⟩ := ih.1 x f H ex f' H' hc.1 h
        refine ⟨n1, fun ρ base w a Q hwf hs hf hfr he => wp_seq (w1 ρ base w a _ hwf hs hf hfr ?_)⟩
        cases ex with
        | normal => exact (hne _ _ h).elim
        | exit id => exact he
        | ret => exact he
        | panic v => exact he
    | cond x p q =>
      simp only [codeOk, Bool.and_eq_true] at hc
      simp only [exec] at h
      split at h
      · rename_i t hx
        cases t with
        | true =>
          simp only [cond_true] at h
          obtain ⟨n1, w1⟩ := ih.1 p f H ex f' H' hc.1 h
          refine ⟨n1, fun ρ base w a Q hwf hs hf hfr he => ?_⟩
          have hr := evO_rel hf hx
          generalize hv : a.eval x = xv at hr
          cases hr
          exact wp_cond_true hv (w1 ρ base w a Q hwf hs hf hfr he)
        | false =>
          simp only [cond_false] at h
          obtain ⟨n1, w1⟩ := ih.1 q f H ex f' H' hc.2 h
          refine ⟨n1, fun ρ base w a Q hwf hs hf hfr he => ?_⟩
          have hr := evO_rel hf hx
          generalize hv : a.eval x = xv at hr
          cases hr
          exact wp_cond_false hv (w1 ρ base w a Q hwf hs hf hfr he)
      · cases h
    | block id x =>
      simp only [codeOk] at hc
      simp only [exec] at h
      split at h
      · rename_i i f1 H1 h1
        obtain ⟨n1, w1⟩ := ih.1 x f H _ f1 H1 hc h1
        cases hb : Nat.beq i id with
        | true =>
          simp [hb] at h
          obtain ⟨rfl, rfl, rfl⟩ := h
          have e : i = id := Nat.eq_of_beq_eq_true hb
          refine ⟨n1, fun ρ base w a Q hwf hs hf hfr he => wp_block (w1 ρ base w a _ hwf hs hf hfr fun ρ' a' w' ok hf' => ?_)⟩
          show (if i = id then Q .normal a' w' else Q (.exit i) a' w')
          rw [if_pos e]; exact he ρ' a' w' ok hf'
        | false =>
          simp [hb] at h
          obtain ⟨rfl, rfl, rfl⟩ := h
          have e : i ≠ id := fun e => by rw [e] at hb; simp at hb
          refine ⟨n1, fun ρ base w a Q hwf hs hf hfr he => wp_block (w1 ρ base w a _ hwf hs hf hfr fun ρ' a' w' ok hf' => ?_)⟩
          show (if i = id then Q .normal a' w' else Q (.exit i) a' w')
          rw [if_neg e]; exact he ρ' a' w' ok hf'
      · rename_i hne
        obtain ⟨n1, w1⟩ := ih.1 x f H ex f' H' hc h
        refine ⟨n1, fun ρ base w a Q hwf hs hf hfr he => wp_block (w1 ρ base w a _ hwf hs hf hfr ?_)⟩
        cases ex with
        | normal => exact he
        | exit id => exact (hne _ _ _ h).elim
        | ret => exact he
        | panic v => exact he
    | loop x =>
      simp only [codeOk] at hc
      obtain ⟨n1, w1⟩ := hB x f H ex f' H' hc h
      exact ⟨n1, fun ρ base w a Q hwf hs hf hfr he => wp_loop_rounds (k + 1) (w1 ρ base w a Q hwf hs hf hfr he)⟩
    | region id ops draw =>
      simp only [exec] at h
      split at h
      · split at h
        · rename_i f1 H1 tr hrun
          obtain ⟨n1, w1⟩ := plain_wp hcall hcwf hname ops.toList 0 f H [] _ (fun j => by simp) hrun
          cases draw with
          | true =>
            simp only [cond_true] at h
            cases hd : drawOk ops tr with
            | false => simp [hd] at h
            | true =>
              simp [hd] at h
              obtain ⟨rfl, rfl, rfl⟩ := h
              simp only [codeOk, Bool.not_true, Bool.false_or] at hc
              refine ⟨n1, fun ρ base w a Q hwf hs hf hfr he => wp_region_any hmix ?_⟩
              refine draw_sound hname hcall hcwf hc hrun hd hwf ρ base _ a Q (hs.of_heap rfl) hf hfr ?_
              intro ρ' a' w' ok hf'
              refine he ρ' a' w' ⟨ok.mono, ok.sim, ?_⟩ hf'
              exact (Step.of_heap (ρ := ρ) (H := H) (w := w) (w' := { w with drawn := w.drawn + 1 }) rfl rfl rfl rfl).trans ok.step
          | false =>
            simp at h
            obtain ⟨rfl, rfl, rfl⟩ := h
            refine ⟨n1, fun ρ base w a Q hwf hs hf hfr he => wp_region ?_⟩
            have := w1 ρ base w a Q hwf hs hf hfr he
            rw [List.range_eq_range']
            simpa using this
        · rename_i v f1 H1 hrun
          obtain ⟨n1, w1⟩ := plain_wp hcall hcwf hname ops.toList 0 f H [] _ (fun j => by simp) hrun
          cases draw with
          | true => simp at h
          | false =>
            simp at h
            obtain ⟨rfl, rfl, rfl⟩ := h
            refine ⟨n1, fun ρ base w a Q hwf hs hf hfr he => wp_region ?_⟩
            have := w1 ρ base w a Q hwf hs hf hfr he
            rw [List.range_eq_range']
            simpa using this
        · cases h
      · -- it defers
        rename_i pre o cl hld
        obtain ⟨hl, hop, hg⟩ := lastDefer_spec hld
        cases draw with
        | true => simp at h
        | false =>
          simp only [cond_false] at h
          split at h
          · rename_i f1 H1 tr hrun
            split at h
            · rename_i d f2 hd hput
              simp at h
              obtain ⟨rfl, rfl, rfl⟩ := h
              have hsz : ops.size = pre.length + 1 := by rw [← Array.length_toList, hl]; simp
              have hpre : ∀ j, j < pre.length → pre[j]? = ops[0 + j]? := fun j hj => by rw [Nat.zero_add, ← Array.getElem?_toList, hl, List.getElem?_append_left hj]
              have hlast : ops[pre.length]? = some o := by rw [← Array.getElem?_toList, hl]; simp
              obtain ⟨n1, w1⟩ := plain_to hcall hcwf hname pre 0 f H [] _ hpre hrun
              refine ⟨n1, fun ρ base w a Q hwf hs hf hfr he => wp_region ?_⟩
              have := w1 [pre.length] ρ base w a Q hwf hs hf hfr (fun ρ1 a1 w2 ok1 hf1 => ?_)
              · rw [hsz, List.range_eq_range', List.range'_concat]; simpa using this
              · simp only [wpOps, hlast]
                rw [if_pos (by simp [Region.wanted, hg])]
                left
                unfold deferA at hd
                split at hd
                · rename_i x hcl
                  split at hd
                  · rename_i g fi ca args hgx hargs
                    simp at hd
                    subst hd
                    have hgr := evO_rel hf1 hgx
                    generalize hgv : a1.eval x = gv at hgr
                    cases hgr with
                    | func _ p1 p2 p3 p4 =>
                    rename_i fi' ca'
                    have hrun2 : (execOp a1.eval o).run P w2 = .ok (.defer ⟨.fn (.func g) ca', fi' ++ cl.args.map a1.eval⟩) w2 := by
                      simp only [execOp, hop, resolve, hcl, hgv, Deferred.ofValue, Sem.run_bind, Sem.run_pure, Result.andThen_ok]
                    unfold Oper.wp
                    rw [hrun2, Oper.upon_defer]
                    refine he ρ1 _ w2 ok1 ?_
                    have hdr : DRel ρ1 (g, fi.toList ++ (args ++ ca.toList)) ⟨.fn (.func g) ca', fi' ++ cl.args.map a1.eval⟩ := by
                      refine ⟨ca', fi' ++ cl.args.map a1.eval, rfl, ?_⟩
                      rw [← List.append_assoc]
                      rw [Array.toList_append]
                      exact LRel.append (LRel.append (vs_of_idx p1 p3) (by simpa using evL_rel hf1 hargs)) (vs_of_idx p2 p4)
                    have hf2 := hf1.put hput (VRel.undef ρ1)
                    obtain ⟨e1, e2⟩ := Fr.put_fix hput
                    have hdef : ∀ (a : Act) (d : Option Tmp) (v : Value) (l : List Deferred), ({ a with defers := l } : Act).put d v = { a.put d v with defers := l } := fun a d v l => by cases d <;> rfl
                    rw [hdef]
                    refine ⟨hf2.val, hf2.size, ⟨hdr, ?_⟩, hf2.glob⟩
                    have := hf2.defers
                    have hpd : (a1.put o.dst undef).defers = a1.defers := by cases o.dst <;> rfl
                    rw [hpd] at this
                    exact this
                  · cases hd
                · cases hd
            · cases h
          · cases h
    | rangeFunc _ _ _ _ => simp [exec] at h
    | scope x =>
      simp only [codeOk] at hc
      simp only [exec] at h
      obtain ⟨n1, w1⟩ := ih.1 x f H ex f' H' hc h
      refine ⟨n1, fun ρ base w a Q hwf hs hf hfr he => wp_scope_straight (w1 ρ base w a _ hwf hs hf hfr ?_)⟩
      cases ex with
      | normal => exact he
      | exit id => exact he
      | ret => exact he
      | panic v => exact he
    | goto _ => simp [exec] at h
    | refuse _ => simp [exec] at h
end Go.AX
