/- The fast form of the executor is the executor, part 4: regions, code and calls. -/
import Derived.Test.YtgbclgkadlfejaaDoorAxSame3
namespace Go.AX
open Go
set_option linter.unusedVariables false
set_option linter.unusedSimpArgs false

theorem toR_ofR (x : Option (AExit × Fr × AHeap)) : (Res.ofR x).toR = x := by
  rcases x with _ | ⟨e, f, H⟩
  · rfl
  · cases e <;> rfl

theorem fDraw_eq (ops : Array Oper) (tr : List (Nat × Ev)) : fDraw ops tr = drawOk ops tr := by
  have key : ∀ l : List (Nat × Ev), List.rec (motive := fun _ => Bool) true (fun y _ ih => Ev.rec (motive := fun _ => Bool) ih (fun _ _ _ => ih) (fun _ _ => ih) (fun _ _ => Bool.rec (motive := fun _ => Bool) false ih (tr.all fun x => evOk ops x y)) y.2) l
      = l.all fun y => tr.all fun x => evOk ops x y := by
    intro l
    induction l with
    | nil => rfl
    | cons y r ih =>
      obtain ⟨j, e⟩ := y
      rw [List.all_cons, ← ih]
      have hq : (∀ x, evOk ops x (j, e) = true) → (List.all tr fun x => evOk ops x (j, e)) = true := fun h => List.all_eq_true.2 fun x _ => h x
      cases e with
      | eff H H' => show (Bool.rec (motive := fun _ => Bool) false _ (tr.all fun x => evOk ops x (j, .eff H H')) : Bool) = _; cases (tr.all fun x => evOk ops x (j, .eff H H')) <;> rfl
      | quiet => rw [hq fun x => by obtain ⟨i, e⟩ := x; cases e <;> rfl]; rfl
      | look b o n => rw [hq fun x => by obtain ⟨i, e⟩ := x; cases e <;> rfl]; rfl
      | make b o => rw [hq fun x => by obtain ⟨i, e⟩ := x; cases e <;> rfl]; rfl
  unfold fDraw drawOk
  rw [key tr, Bool.eq_iff_iff]
  simp only [List.all_eq_true]
  exact ⟨fun h x hx y hy => h y hy x hx, fun h y hy x hx => h x hx y hy⟩

theorem fWant_eq (ops : Array Oper) (o : Oper) (f : Fr) (x y : Res) : fWant ops o f x y = bif wantedA ops o f then y else x := by
  unfold fWant
  cases hg : o.guard with
  | none => simp only [wantedA, hg, cond_true]
  | some g => show Bool.rec (motive := fun _ => Res) x y (wantedA ops o f) = _; cases wantedA ops o f <;> rfl

theorem fRun_eq {P : Program} {fc : KCall} {ac : FuncId → List Value → AHeap → Option (CRes × AHeap)} (hc : CallSame fc ac) (ops : Array Oper) (draw : Bool) : ∀ (l : List Oper) (i : Nat) (f : Fr) (H : AHeap) (tr : List (Nat × Ev)),
    (fRun P fc ops draw l i f H tr).toR = (match runOps P ac ops l i f H tr with
      | some (.done f' H' tr) => bif draw then (bif drawOk ops tr then some (.normal, f', H') else none) else some (.normal, f', H')
      | some (.panic v f' H') => bif draw then none else some (.panic v, f', H')
      | none => none)
  | [], i, f, H, tr => by
    show (Bool.rec (motive := fun _ => Res) (.nrm f H) (Bool.rec (motive := fun _ => Res) .no (.nrm f H) (fDraw ops tr)) draw : Res).toR = _
    rw [fDraw_eq]
    cases draw with
    | false => rfl
    | true => simp only [runOps, cond_true]; cases drawOk ops tr <;> rfl
  | o :: r, i, f, H, tr => by
    show (fWant ops o f (putK f o.dst undef fun f' => fRun P fc ops draw r (Nat.succ i) f' H tr)
      (fOp P fc o.op f H (fun v H' => Bool.rec (motive := fun _ => Res) (.pan v f H') .no draw)
        (fun v H' e => putK f o.dst v fun f' => fRun P fc ops draw r (Nat.succ i) f' H' ((i, e) :: tr)))).toR = _
    rw [fWant_eq, fOp_eq hc]
    simp only [runOps]
    cases wantedA ops o f with
    | false =>
      simp only [cond_false]
      rw [putK_eq]
      cases f.put o.dst undef with
      | none => rfl
      | some f' => exact fRun_eq hc ops draw r (i + 1) f' H tr
    | true =>
      simp only [cond_true]
      cases aOp P ac f H o.op with
      | none => rfl
      | some x => cases x with
        | panic v H' => show (Bool.rec (motive := fun _ => Res) (.pan v f H') .no draw : Res).toR = _; cases draw <;> rfl
        | val v H' e =>
          show (putK f o.dst v fun f' => fRun P fc ops draw r (Nat.succ i) f' H' ((i, e) :: tr)).toR = _
          rw [putK_eq]
          dsimp only
          cases f.put o.dst v with
          | none => rfl
          | some f' => exact fRun_eq hc ops draw r (i + 1) f' H' ((i, e) :: tr)

theorem fRunQ_eq {P : Program} {fc : KCall} {ac : FuncId → List Value → AHeap → Option (CRes × AHeap)} (hc : CallSame fc ac) (ops : Array Oper) : ∀ (l : List Oper) (i : Nat) (f : Fr) (H : AHeap) (tr : List (Nat × Ev)),
    (fRunQ P fc ops l f H).toR = (match runOps P ac ops l i f H tr with
      | some (.done f' H' _) => some (.normal, f', H')
      | some (.panic v f' H') => some (.panic v, f', H')
      | none => none)
  | [], i, f, H, tr => rfl
  | o :: r, i, f, H, tr => by
    show (fWant ops o f (putK f o.dst undef fun f' => fRunQ P fc ops r f' H)
      (fOp P fc o.op f H (fun v H' => .pan v f H') (fun v H' _ => putK f o.dst v fun f' => fRunQ P fc ops r f' H'))).toR = _
    rw [fWant_eq, fOp_eq hc]
    simp only [runOps]
    cases wantedA ops o f with
    | false =>
      simp only [cond_false]
      rw [putK_eq]
      cases f.put o.dst undef with
      | none => rfl
      | some f' => exact fRunQ_eq hc ops r (i + 1) f' H tr
    | true =>
      simp only [cond_true]
      cases aOp P ac f H o.op with
      | none => rfl
      | some x => cases x with
        | panic v H' => rfl
        | val v H' e =>
          show (putK f o.dst v fun f' => fRunQ P fc ops r f' H').toR = _
          rw [putK_eq]
          dsimp only
          cases f.put o.dst v with
          | none => rfl
          | some f' => exact fRunQ_eq hc ops r (i + 1) f' H' ((i, e) :: tr)

theorem frK_eq (args : List Value) (n ng : Nat) (k : Fr → Res) : frK args n ng k = k (frOf args n ng) := by
  unfold frK frOf
  rw [fN_eq, fN_eq]
  have key : ∀ (l : List Value) (i : Nat) (t : Tr Value), List.rec (motive := fun _ => Nat → Tr Value → Res) (fun _ t => k ⟨t, n, [], ng⟩) (fun v _ ih i t => (slot i).set t v fun t => ih (Nat.succ i) t) l i t
      = k ⟨(l.foldl (fun (s : Tr Value × Nat) v => (s.1.set s.2 v, s.2 + 1)) (t, i)).1, n, [], ng⟩ := by
    intro l
    induction l with
    | nil => intro i t; rfl
    | cons v r ih => intro i t; show (slot i).set t v _ = _; rw [slot_set, ih]; rfl
  exact key args 0 .nil

theorem fLeave_eq {P : Program} {ex : Code → Fr → AHeap → Res} {fn : Func} {m : AMode} {f : Fr} {H : AHeap} {fast : Res} {kp kr : Value → AHeap → Res} (h : fast = ofC kp kr (endX P fn f (some (m, H)))) :
    fLeave P ex fn m f H fast kp kr = ofC kp kr (endX P fn f (leaveX (deferX P (fun c f H => (ex c f H).toR) fun _ _ _ => none) f.defs m H)) := by
  unfold fLeave
  cases hd : f.defs with
  | nil => rw [h]; rfl
  | cons d ds => rfl

/-- What a call answers, of what the body's run answers. -/
theorem fBody_eq {P : Program} {ex : Code → Fr → AHeap → Res} (fn : Func) (c : Code) (args : List Value) (H : AHeap) (kp kr : Value → AHeap → Res) :
    fBody P ex fn c args H kp kr = ofC kp kr (bodyX P (deferX P (fun c f H => (ex c f H).toR) fun _ _ _ => none) fn ((ex c (frOf args (max fn.ntmps args.length) H.globN) H).toR)) := by
  unfold fBody
  rw [frK_eq]
  have hres : ∀ (f' : Fr) (H' : AHeap), fRes P fn f' H' kr = ofC kp kr (endX P fn f' (some (.back, H'))) := fun f' H' => by
    unfold fRes; simp only [endX]; cases resA P f' H' fn.results.toList <;> rfl
  cases ex c (frOf args (max fn.ntmps args.length) H.globN) H with
  | nrm f' H' => exact fLeave_eq (hres f' H')
  | ret f' H' => exact fLeave_eq (hres f' H')
  | pan v f' H' => exact fLeave_eq rfl
  | _ => rfl

theorem fCallB_eq {P : Program} {ex : Code → Fr → AHeap → Res} : CallSame (fCallB P ex) (callB P fun c f H => (ex c f H).toR) := by
  intro g args H kp kr
  have : fCallB P ex g args H kp kr = ofC kp kr (callB P (fun c f H => (ex c f H).toR) g args H) := by
    unfold fCallB callB
    cases P.funcs[g]? with
    | none => rfl
    | some fn =>
      rw [ofO_some]
      dsimp only
      cases fn.body with
      | none => rfl
      | some c => rw [ofO_some]; exact fBody_eq fn c args H kp kr
  rw [this]
  rcases callB P (fun c f H => (ex c f H).toR) g args H with _ | ⟨_ | _, _⟩ <;> rfl

theorem fCall_eq {P : Program} {ex : Code → Fr → AHeap → Res} : CallSame (fCall P ex) (callX P fun c f H => (ex c f H).toR) := by
  intro g args H kp kr
  unfold fCall callX
  cases hp : primAt P g with
  | none => exact fCallB_eq g args H kp kr
  | some p =>
    show ofO (primA p args H) (fun v => fV v fun v => kr v H) = _
    dsimp only
    cases primA p args H with
    | none => rfl
    | some v => rw [ofO_some, fV_eq]

theorem fexec_eq (P : Program) : ∀ (k : Nat) (c : Code) (f : Fr) (H : AHeap), (fexec P k c f H).toR = exec P k c f H
  | 0, c, f, H => by rw [exec]; rfl
  | k + 1, c, f, H => by
    have ih := fexec_eq P k
    cases c with
    | skip => simp only [exec]; rfl
    | label _ => simp only [exec]; rfl
    | ret => simp only [exec]; rfl
    | exit id => simp only [exec]; rfl
    | seq a b =>
      show (fThen (fexec P k a f H) (fexec P k b)).toR = _
      simp only [exec]
      rw [← ih a f H]
      cases fexec P k a f H with
      | nrm f' H' => exact ih b f' H'
      | _ => rfl
    | cond c a b =>
      show (fE c f fun c => asBool c .no fun t => Bool.rec (motive := fun _ => Res) (fexec P k b f H) (fexec P k a f H) t).toR = _
      rw [fE_eq]; simp only [exec]
      cases evO f c with
      | none => rfl
      | some v => cases v with
        | bool t => cases t
                    · exact ih b f H
                    · exact ih a f H
        | _ => rfl
    | block id c =>
      show (fBlock id (fexec P k c f H)).toR = _
      simp only [exec]
      rw [← ih c f H]
      cases fexec P k c f H with
      | ext i f' H' =>
        show (Bool.rec (motive := fun _ => Res) (.ext i f' H') (.nrm f' H') (Nat.beq i id) : Res).toR = bif Nat.beq i id then _ else _
        cases Nat.beq i id <;> rfl
      | _ => rfl
    | loop c =>
      show (fThen (fexec P k c f H) (fexec P k (.loop c))).toR = _
      simp only [exec]
      rw [← ih c f H]
      cases fexec P k c f H with
      | nrm f' H' => exact ih (.loop c) f' H'
      | _ => rfl
    | scope c => simp only [exec]; exact ih c f H
    | region id ops draw =>
      have hf : (fun c f H => (fexec P k c f H).toR) = exec P k := by funext c f H; exact ih c f H
      show (Option.rec (motive := fun _ => Res) (Bool.rec (motive := fun _ => Res) (fRunQ P (fCall P (fexec P k)) ops ops.toList f H) (fRun P (fCall P (fexec P k)) ops true ops.toList 0 f H []) draw) (fun d => fDefer P (fexec P k) ops draw f H d) (lastDefer ops.toList) : Res).toR = _
      simp only [exec]
      cases lastDefer ops.toList with
      | none =>
        have hc := fCall_eq (P := P) (ex := fexec P k)
        rw [hf] at hc
        cases draw with
        | true => exact fRun_eq hc ops true ops.toList 0 f H []
        | false => exact fRunQ_eq hc ops ops.toList 0 f H []
      | some d =>
        obtain ⟨pre, o, c⟩ := d
        show (fDefer P (fexec P k) ops draw f H (pre, o, c)).toR = _
        unfold fDefer
        rw [toR_ofR, hf]
        dsimp only
        cases draw with
        | true => rfl
        | false =>
          simp only [cond_false]
          rcases runOps P (callX P (exec P k)) ops pre 0 f H [] with _ | ⟨f', H', tr⟩ | ⟨v, f', H'⟩
          · rfl
          · dsimp only
            rcases deferA f' c with _ | d <;> rcases f'.put o.dst undef with _ | f'' <;> rfl
          · rfl
    | _ => simp only [exec]; rfl

theorem callTH_true {P : Program} {k : Nat} {g : FuncId} {args : List Value} {H : AHeap} (h : callTH P k g args H = true) : isTrue (callA P k g args H) = true := by
  have hf : (fun c f H => (fexec P k c f H).toR) = exec P k := by funext c f H; exact fexec_eq P k c f H
  have hc := fCall_eq (P := P) (ex := fexec P k) g args H (fun _ _ => .no) (fun v H => .pan v ⟨.nil, 0, [], 0⟩ H)
  rw [hf] at hc
  unfold callTH at h
  rw [hc] at h
  revert h
  show isTrueF (match callA P k g args H with | some (.ret v, H') => .pan v ⟨.nil, 0, [], 0⟩ H' | some (.panic v, H') => .no | none => .no) = true → _
  cases callA P k g args H with
  | none => intro h; cases h
  | some x =>
    obtain ⟨r, H'⟩ := x
    cases r with
    | ret v => cases v <;> intro h <;> first | exact h | cases h
    | panic v => intro h; cases h
theorem callT_true {P : Program} {k : Nat} {g : FuncId} (h : callT P k g = true) : isTrue (callA P k g [] H0) = true := callTH_true h
end Go.AX
