/- Operations that only compute: all of them in one. -/
import Derived.Test.YtgbclgkadlfejaaAxQuiet3
namespace Go.AX
open Go Go.RowKit
set_option linter.unusedVariables false
set_option linter.unusedSimpArgs false

variable {P : Program}

theorem places_run (w : World) : ∀ {l : List Field} {pl : List (Nat × Nat)}, places P l = some pl →
    (l.mapM (m := Sem) fun f => do pure (f.offset, ← sizeOf f.type)).run P w = .ok pl w
  | [], pl, h => by simp [places] at h; subst h; rfl
  | f :: r, pl, h => by
    simp only [places] at h
    cases h1 : sizeT P f.type with
    | none => simp [h1] at h
    | some n => cases h2 : places P r with
      | none => simp [h1, h2] at h
      | some l =>
        simp [h1, h2] at h; subst h
        simp only [List.mapM_cons, Sem.run_bind, run_size h1, Result.andThen_ok, Sem.run_pure, places_run w h2]

theorem build_run {ρ : Rho} {t : TypeId} {parts parts' : List (Nat × Value)} {v : Value} (h : aBuild P t parts = some v)
    (hp : LRel (fun (p q : Nat × Value) => p.1 = q.1 ∧ VRel ρ p.2 q.2) parts parts') : ∃ v', (∀ w, (Instr.build t parts'.toArray).run P w = .ok v' w) ∧ VRel ρ v v' := by
  unfold aBuild at h
  split at h
  · cases h
  · rename_i z hz
    have hzp := (run_zero (P := P) hz default).2
    have hzr : VsRel ρ z.cells.toList z.cells.toList := (vrel_plain ρ 9 z hzp).cells
    split at h
    · rename_i fs hu
      split at h
      · rename_i pl hpl
        cases hf : fillL (pl[·]?) z.cells.toList parts with
        | none => simp [hf] at h
        | some cs =>
          simp [hf] at h; subst h
          obtain ⟨arr', ha, hr⟩ := fill_rel hf hp hzr
          refine ⟨.agg arr', fun w => ?_, ?_⟩
          · have hpr : (fs.mapM (m := Sem) fun f => do pure (f.offset, ← sizeOf f.type)).run P w = .ok pl.toArray w := by
              rw [Array.mapM_eq_mapM_toList]
              simp only [Sem.run_map, places_run w hpl, Result.andThen_ok]
            have ha' : Instr.fill (fun i => (pl.toArray)[i]?) z.cells parts' = some arr' := by simpa using ha
            simp only [Instr.build, Sem.run_bind, (run_zero (P := P) hz w).1, run_under hu, Result.andThen_ok, hpr, ha', Sem.run_pure]
          · exact .agg (by simpa using hr.length) fun i p q => (idx_of_vs (xs := cs.toArray) (ys := arr') (by simpa using hr)).2 i p q
      · cases h
    · rename_i n e hu
      split at h
      · rename_i sz hsz
        cases hf : fillL (fun i => some (i * sz, sz)) z.cells.toList parts with
        | none => simp [hf] at h
        | some cs =>
          simp [hf] at h; subst h
          obtain ⟨arr', ha, hr⟩ := fill_rel hf hp hzr
          refine ⟨.agg arr', fun w => ?_, ?_⟩
          · simp only [Instr.build, Sem.run_bind, (run_zero (P := P) hz w).1, run_under hu, Result.andThen_ok, run_size hsz, ha, Sem.run_pure]
          · exact .agg (by simpa using hr.length) fun i p q => (idx_of_vs (xs := cs.toArray) (ys := arr') (by simpa using hr)).2 i p q
      · cases h
    · cases h

theorem min_fold (w : World) : ∀ {l l' : List Value} {v x : Value} {ρ : Rho}, aMM true x l = some v → VsRel ρ l l' → (∃ k n, x = .int k n) → (l'.foldlM Builtin.min2 x).run P w = .ok v w ∧ ∃ k n, v = .int k n
  | [], [], v, x, ρ, h, _, hx => by simp [aMM] at h; subst h; exact ⟨rfl, hx⟩
  | y :: r, y' :: r', v, x, ρ, h, hr, hx => by
    obtain ⟨k, n, rfl⟩ := hx
    cases y <;> simp only [aMM] at h <;> try (cases h; done)
    obtain ⟨h1, h2⟩ := hr
    cases h1
    split at h
    · rename_i e; subst e
      simp only [cond_true] at h
      have := min_fold w h h2 ⟨_, _, rfl⟩
      simp only [List.foldlM_cons, Builtin.min2, Sem.run_bind, Sem.run_pure, Result.andThen_ok]
      exact this
    · cases h
  | [], _ :: _, _, _, _, _, h, _ => h.elim
  | _ :: _, [], _, _, _, _, h, _ => h.elim
theorem max_fold (w : World) : ∀ {l l' : List Value} {v x : Value} {ρ : Rho}, aMM false x l = some v → VsRel ρ l l' → (∃ k n, x = .int k n) → (l'.foldlM Builtin.max2 x).run P w = .ok v w ∧ ∃ k n, v = .int k n
  | [], [], v, x, ρ, h, _, hx => by simp [aMM] at h; subst h; exact ⟨rfl, hx⟩
  | y :: r, y' :: r', v, x, ρ, h, hr, hx => by
    obtain ⟨k, n, rfl⟩ := hx
    cases y <;> simp only [aMM] at h <;> try (cases h; done)
    obtain ⟨h1, h2⟩ := hr
    cases h1
    split at h
    · rename_i e; subst e
      simp only [cond_false] at h
      have := max_fold w h h2 ⟨_, _, rfl⟩
      simp only [List.foldlM_cons, Builtin.max2, Sem.run_bind, Sem.run_pure, Result.andThen_ok]
      exact this
    · cases h
  | [], _ :: _, _, _, _, _, h, _ => h.elim
  | _ :: _, [], _, _, _, _, h, _ => h.elim

theorem lenCap_run {ρ : Rho} {b : Bool} {t : TypeId} {x x' v : Value} (h : aLenCap P b t x = some v) (hx : VRel ρ x x') (ts : Array TypeId) (ht : ts[0]? = some t) (ty : TypeId) (args : Array Value) (ha : args[0]? = some x') (w : World) :
    ((if b then Builtin.len_ ts ty args else Builtin.cap_ ts ty args) : Sem Value).run P w = .ok v w ∧ VRel ρ v v := by
  unfold aLenCap at h
  cases b
  · simp only [Bool.false_eq_true, if_false, Builtin.cap_, ht, ha, Sem.run_bind]
    split at h
    · simp at h
    · rename_i n e hu
      simp at h; subst h
      simp only [run_under hu, Result.andThen_ok]
      exact ⟨by cases hx <;> rfl, .int _ _⟩
    · rename_i e a n c hu
      simp only [cond_false] at h
      split at h
      · cases h
      · rename_i hne
        simp at h; subst h
        simp only [run_under hu, Result.andThen_ok]
        cases hx with
        | snil => exact ⟨rfl, .int _ _⟩
        | @slice b o s n c a' c' hs =>
          cases s with
          | some q => exact (hne _ _ _ rfl).elim
          | none =>
            have : c' = c := by
              cases hr : ρ b with
              | no => simp [SRel, hr] at hs
              | gone x => simp only [SRel, hr] at hs; omega
              | live c k x => simp only [SRel, hr] at hs; omega
            subst this
            exact ⟨rfl, .int _ _⟩
    · simp at h
    · cases h
  · simp only [if_true, Builtin.len_, ht, ha, Sem.run_bind]
    split at h
    · rename_i s hu
      simp at h; subst h
      cases hx
      simp only [run_under hu, Result.andThen_ok]
      exact ⟨rfl, .int _ _⟩
    · rename_i n e hu
      simp at h; subst h
      simp only [run_under hu, Result.andThen_ok]
      exact ⟨by cases hx <;> rfl, .int _ _⟩
    · rename_i e a n c hu
      simp at h; subst h
      simp only [run_under hu, Result.andThen_ok]
      cases hx <;> exact ⟨rfl, .int _ _⟩
    · rename_i hu
      simp at h; subst h
      simp only [run_under hu, Result.andThen_ok]
      cases hx
      exact ⟨rfl, .int _ _⟩
    · cases h

theorem map_get {f : Fr} {a : Act} {ρ : Rho} (hf : FRel ρ f a) {xs : Array Operand} {x : Value} (h : (xs[0]?).bind (evO f) = some x) : ∃ x', (xs.map a.eval)[0]? = some x' ∧ VRel ρ x x' := by
  cases h0 : xs[0]? with
  | none => simp [h0] at h
  | some o => simp [h0] at h; exact ⟨a.eval o, by simp [h0], evO_rel hf h⟩

/-- What an operation computes. -/
theorem quiet_run {ρ : Rho} {f : Fr} {a : Act} {o : Oper} {v : Value} (hf : FRel ρ f a) (h : aQuiet P f o.op = some v) (w : World) :
    ∃ v', (execOp a.eval o).run P w = .ok (.value v') w ∧ VRel ρ v v' := by
  cases ho : o.op <;> simp only [ho, aQuiet] at h <;> try (cases h; done)
  case move x => exact ⟨_, by simp only [execOp, ho]; rfl, evO_rel hf h⟩
  case assign x => exact ⟨_, by simp only [execOp, ho]; rfl, evO_rel hf h⟩
  case pick c x y =>
    split at h
    · rename_i t hc
      have hcr := evO_rel hf hc
      generalize hcv : a.eval c = cv at hcr
      cases hcr
      cases t with
      | true => simp only [cond_true] at h; exact ⟨_, by simp only [execOp, ho, hcv, asBool]; rfl, evO_rel hf h⟩
      | false => simp only [cond_false] at h; exact ⟨_, by simp only [execOp, ho, hcv, asBool]; rfl, evO_rel hf h⟩
    · cases h
  case nilCheck x =>
    split at h
    · rename_i b hx
      simp at h; subst h
      have hr := evO_rel hf hx
      generalize hv : a.eval x = xv at hr
      cases hr
      rename_i b o a' hp
      exact ⟨_, by simp only [execOp, ho, hv]; rfl, .ptr hp⟩
    · rename_i g fi ca hx
      simp at h; subst h
      have hr := evO_rel hf hx
      generalize hv : a.eval x = xv at hr
      cases hr with
      | func fn p1 p2 p3 p4 => exact ⟨_, by simp only [execOp, ho, hv]; rfl, .func _ p1 p2 p3 p4⟩
    · cases h
  case build t ps =>
    split at h
    · rename_i l hl
      have hr := partsL_rel hf hl
      obtain ⟨v', hv, hrel⟩ := build_run h hr
      refine ⟨v', ?_, hrel⟩
      have : ps.map (fun (x : Nat × Operand) => (x.1, a.eval x.2)) = (ps.toList.map fun (i, x) => (i, a.eval x)).toArray := by apply Array.ext'; simp only [Array.toList_map]
      simp only [execOp, ho, Sem.run_bind]
      rw [this, hv w]; rfl
    · cases h
  case binOp op t x y yt =>
    split at h
    · rename_i u v2 hx hy
      obtain ⟨h1, h2⟩ := bin_run (P := P) h (evO_rel hf hx) (evO_rel hf hy) w
      refine ⟨v, ?_, h2⟩
      simp only [execOp, ho]
      rw [Sem.run_bind, h1]; rfl
    · cases h
  case unOp op t x =>
    split at h
    · rename_i u hx
      have hr := evO_rel hf hx
      generalize hv : a.eval x = xv at hr
      unfold aUn at h
      split at h
      · cases hr
        have := (int_run (P := P) (op := .sub) rfl h 0 w)
        simp only [aInt] at h; cases h
        exact ⟨_, by simp only [execOp, ho, hv, Op.unary, Op.intArith, Sem.run_bind]; rfl, .int _ _⟩
      · cases hr
        simp only [aInt] at h; cases h
        exact ⟨_, by simp only [execOp, ho, hv, Op.unary, Op.intBits, Sem.run_bind]; rfl, .int _ _⟩
      · cases hr
        cases h
        exact ⟨_, by simp only [execOp, ho, hv, Op.unary, Sem.run_bind]; rfl, .bool _⟩
      · cases h
    · cases h
  case convert s d x =>
    split at h
    · rename_i u hx
      have hr := evO_rel hf hx
      generalize hv : a.eval x = xv at hr
      unfold aConv at h
      split at h
      · rename_i ds k k2 n h1 h2
        cases hr; cases h
        refine ⟨_, ?_, .int _ _⟩
        simp only [execOp, ho, hv, Go.convert, Sem.run_bind, run_under h1, run_under h2, Result.andThen_ok, Conv.intToInt]
        rfl
      · rename_i ds s2 h1 h2
        cases hr; cases h
        refine ⟨_, ?_, .string _⟩
        simp only [execOp, ho, hv, Go.convert, Sem.run_bind, run_under h1, run_under h2, Result.andThen_ok]
        cases ds <;> rfl
      · cases h
    · cases h
  case makeInterface t x =>
    split at h
    · cases h
    · rename_i u d hn hx hu
      simp at h; subst h
      refine ⟨_, ?_, .iface t (evO_rel hf hx)⟩
      simp only [execOp, ho, Instr.makeInterface, Sem.run_bind, run_under hu, Result.andThen_ok]
      cases d <;> first | rfl | exact (hn _ rfl).elim
    · cases h
  case makeFunc fn first captured =>
    split at h
    · rename_i l1 l2 h1 h2
      simp at h; subst h
      have r1 := evL_rel hf h1
      have r2 := evL_rel hf h2
      refine ⟨_, by simp only [execOp, ho, Instr.makeFunc, Sem.run_bind]; rfl, ?_⟩
      have e1 := idx_of_vs (ρ := ρ) (xs := l1.toArray) (ys := first.map a.eval) (by simpa using r1)
      have e2 := idx_of_vs (ρ := ρ) (xs := l2.toArray) (ys := captured.map a.eval) (by simpa using r2)
      exact .func fn e1.1 e2.1 e1.2 e2.2
    · cases h
  case slice t x lo hi mx =>
    split at h
    · rename_i u l2 h2 m2 hx hl hh hm
      obtain ⟨v', hv, hr⟩ := slice_run h (evO_rel hf hx) (evM_rel hf hl) (evM_rel hf hh) (evM_rel hf hm)
      exact ⟨v', by simp only [execOp, ho, Sem.run_bind]; rw [hv w]; rfl, hr⟩
    · cases h
  case fieldAddr s x j =>
    split at h
    · rename_i u hx
      obtain ⟨v', hv, hr⟩ := fieldAddr_run h (evO_rel hf hx)
      exact ⟨v', by simp only [execOp, ho, Sem.run_bind]; rw [hv w]; rfl, hr⟩
    · cases h
  case field s x j =>
    split at h
    · rename_i u hx
      obtain ⟨v', hv, hr⟩ := field_run h (evO_rel hf hx) w
      exact ⟨v', by simp only [execOp, ho, Sem.run_bind]; rw [hv]; rfl, hr⟩
    · cases h
  case indexAddr t x i =>
    split at h
    · rename_i u u2 hx hi
      obtain ⟨v', hv, hr⟩ := indexAddr_run h (evO_rel hf hx) (evO_rel hf hi)
      exact ⟨v', by simp only [execOp, ho, Sem.run_bind]; rw [hv w]; rfl, hr⟩
    · cases h
  case index t x i =>
    split at h
    · rename_i u u2 hx hi
      obtain ⟨v', hv, hr⟩ := index_run h (evO_rel hf hx) (evO_rel hf hi) w
      exact ⟨v', by simp only [execOp, ho, Sem.run_bind]; rw [hv]; rfl, hr⟩
    · cases h
  case extract t i =>
    split at h
    · rename_i vs hx
      have hr := evO_rel hf hx
      generalize hv : a.eval t = tv at hr
      cases hr
      rename_i ys h1 h2
      have hvs := vs_of_idx h1 h2
      obtain ⟨v', hv', hr'⟩ := hvs.get i v (by simpa using h)
      have hv2 : ys[i]? = some v' := by simpa using hv'
      refine ⟨v', ?_, hr'⟩
      simp only [execOp, ho, hv, Instr.extract, hv2, Sem.run_bind]; rfl
    · cases h
  case typeAssert x xt d ok =>
    split at h
    · rename_i u hx
      have hr := evO_rel hf hx
      generalize hv : a.eval x = xv at hr
      unfold aAssert at h
      split at h
      · rename_i td hd
        cases hi : isIfaceD td with
        | true => simp [hi] at h
        | false =>
          simp only [hi, cond_false] at h
          have hni : ∀ ms, td ≠ .interface ms := fun ms e => by subst e; simp [isIfaceD] at hi
          have hfails : (ok = true → (execOp a.eval o).run P w = ((zeroValue d).run P w).andThen fun z w' => .ok (.value (.tuple #[z, .bool false])) w') → (bif ok then (zeroOf P d).map fun z => Value.tuple #[z, .bool false] else none) = some v →
              ∃ v', (execOp a.eval o).run P w = .ok (.value v') w ∧ VRel ρ v v' := by
            intro hrun hz
            cases ok with
            | false => simp at hz
            | true =>
              simp only [cond_true, Option.map_eq_some_iff] at hz
              obtain ⟨z, hz, rfl⟩ := hz
              obtain ⟨z1, z2⟩ := run_zero (P := P) hz w
              refine ⟨_, by rw [hrun rfl, z1]; rfl, ?_⟩
              exact VRel.mkTuple (xs := [z, .bool false]) (ys := [z, .bool false]) ⟨vrel_plain ρ 9 z z2, .bool _, trivial⟩
          split at h
          · cases hr
            refine hfails (fun hok => ?_) h
            subst hok
            simp only [execOp, ho, hv, Instr.typeAssert, Sem.run_bind, run_under hd, Result.andThen_ok]
            cases td <;> first | exact (hni _ rfl).elim | (simp only [if_true, Sem.run_bind, Sem.run_pure]; cases (zeroValue d).run P w <;> rfl)
          · rename_i t u'
            cases hr with
            | iface _ hr =>
            rename_i u2
            split at h
            · rename_i e
              subst e
              cases ok with
              | true =>
                simp at h; subst h
                refine ⟨.tuple #[u2, .bool true], ?_, VRel.mkTuple (xs := [u', .bool true]) (ys := [u2, .bool true]) ⟨hr, .bool _, trivial⟩⟩
                simp only [execOp, ho, hv, Instr.typeAssert, Sem.run_bind, run_under hd, Result.andThen_ok]
                cases td <;> first | exact (hni _ rfl).elim | (simp only [if_true, Sem.run_bind, Sem.run_pure]; rfl)
              | false =>
                simp at h; subst h
                refine ⟨u2, ?_, hr⟩
                simp only [execOp, ho, hv, Instr.typeAssert, Sem.run_bind, run_under hd, Result.andThen_ok]
                cases td <;> first | exact (hni _ rfl).elim | (simp only [if_true, Sem.run_bind, Sem.run_pure]; rfl)
            · rename_i e
              refine hfails (fun hok => ?_) h
              subst hok
              simp only [execOp, ho, hv, Instr.typeAssert, Sem.run_bind, run_under hd, Result.andThen_ok]
              cases td <;> first | exact (hni _ rfl).elim | (simp only [if_neg e, if_true, Sem.run_bind, Sem.run_pure]; cases (zeroValue d).run P w <;> rfl)
          · cases h
      · cases h
    · cases h
  case call c =>
    have hres : ∀ (b : Builtin), c.callee = .builtin b → (execOp a.eval o).run P w = (builtin b c.argTypes o.type (c.args.map fun | .const _ => true | _ => false) (c.args.map a.eval)).run P w := by
      intro b hb
      simp only [execOp, ho, resolve, hb, Sem.run_bind, Sem.run_pure, Result.andThen_ok, invoke]
      rfl
    split at h
    · rename_i hc
      split at h
      · rename_i t x ht hx
        obtain ⟨x', hx', hr⟩ := map_get hf hx
        have := lenCap_run (P := P) h hr c.argTypes ht o.type (c.args.map a.eval) hx' w
        simp only [if_true] at this
        exact ⟨v, by rw [hres _ hc]; simp only [builtin, Sem.run_bind, this.1]; rfl, this.2⟩
      · cases h
    · rename_i hc
      split at h
      · rename_i t x ht hx
        obtain ⟨x', hx', hr⟩ := map_get hf hx
        have := lenCap_run (P := P) h hr c.argTypes ht o.type (c.args.map a.eval) hx' w
        simp only [Bool.false_eq_true, if_false] at this
        exact ⟨v, by rw [hres _ hc]; simp only [builtin, Sem.run_bind, this.1]; rfl, this.2⟩
      · cases h
    · rename_i hc
      split at h
      · rename_i l hl
        have hr := evL_rel hf hl
        unfold aMinMax at h
        split at h
        · rename_i k n r
          cases hargs : c.args.toList.map a.eval with
          | nil => rw [hargs] at hr; exact hr.elim
          | cons y ys =>
            rw [hargs] at hr
            obtain ⟨h1, h2⟩ := hr
            cases h1
            obtain ⟨hm, k', n', rfl⟩ := min_fold (P := P) w h h2 ⟨_, _, rfl⟩
            refine ⟨_, ?_, .int _ _⟩
            rw [hres _ hc]
            have : (c.args.map a.eval).toList = .int k n :: ys := by rw [Array.toList_map]; exact hargs
            simp only [builtin, Builtin.min_, this, Sem.run_bind, hm]; rfl
        · cases h
      · cases h
    · rename_i hc
      split at h
      · rename_i l hl
        have hr := evL_rel hf hl
        unfold aMinMax at h
        split at h
        · rename_i k n r
          cases hargs : c.args.toList.map a.eval with
          | nil => rw [hargs] at hr; exact hr.elim
          | cons y ys =>
            rw [hargs] at hr
            obtain ⟨h1, h2⟩ := hr
            cases h1
            obtain ⟨hm, k', n', rfl⟩ := max_fold (P := P) w h h2 ⟨_, _, rfl⟩
            refine ⟨_, ?_, .int _ _⟩
            rw [hres _ hc]
            have : (c.args.map a.eval).toList = .int k n :: ys := by rw [Array.toList_map]; exact hargs
            simp only [builtin, Builtin.max_, this, Sem.run_bind, hm]; rfl
        · cases h
      · cases h
    · cases h
end Go.AX
