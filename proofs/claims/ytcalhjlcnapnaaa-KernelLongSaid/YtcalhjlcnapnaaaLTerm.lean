/- term.Check and Path: what they answer hangs on the tokens alone. -/
import Derived.Test.YtcalhjlcnapnaaaLKinds
namespace Go.AX.Try
open Go Go.AX Go.AX.Lw Go.Proofs
set_option linter.unusedVariables false
set_option linter.unusedSimpArgs false
set_option maxRecDepth 100000
structure Pt where
  path : Bool
  plain : Bool
  depth : Nat
  src : Nat
def Pt.cells (x : Pt) : List Value := [.bool x.path, .bool x.plain, .int .i64 x.depth, .int .i64 x.src]
def ptNo : Pt := ⟨false, false, 0, 0⟩
/-- May a token be? -/
def okT (t : Tk) : Bool := decide (¬ (t.op ≠ 2 ∧ t.p ≠ 0 ∨ t.p ≥ 8) ∧ t.op ≤ 23)
def takesT (t : Tk) : Int := if okT t then takesF t.op else -1
theorem takesTerm_any (H : AHeap) (t : Tk) : Does Try.prog orc 107 [.agg #[.int .u8 t.op, .int .u8 t.p]] H fun r H' => r = .ret (.int .i64 (takesT t)) ∧ Ext H H' := by
  refine Does.of Try.func107 (fun _ _ => rfl) rfl ?_
  obtain ⟨op, p⟩ := t
  have g0 := get_new H (.cells [.int .u8 op, .int .u8 p] 0 true)
  have q0 := cellAt_of g0 (o := 0) rfl
  have q1 := cellAt_of g0 (o := 1) rfl
  repeat' ((conv => whnf); first
    | (refine Both.intro ?_ ?_ <;> intro _ <;> try (exfalso; omega))
    | (refine Need.intro (by omega) ?_)
    | (refine ⟨_, q0, ?_⟩)
    | (refine ⟨_, q1, ?_⟩)
    | fail)
  all_goals (conv => whnf)
  all_goals
    refine ⟨?_, Ext.push _ _⟩
    unfold takesT okT
    dsimp only
    first
    | (rw [if_neg (by simp; omega)]; rfl)
    | (rw [if_pos (by simp; omega)]; unfold takesF; first | (rw [if_pos (by omega)]; rfl) | (rw [if_neg (by omega), if_pos (by omega)]; rfl) | (rw [if_neg (by omega), if_neg (by omega)]; rfl))
def plainF (op : Nat) : Bool := decide (op = 0 ∨ op = 1 ∨ op = 2 ∨ op = 6 ∨ op = 11 ∨ op = 12 ∨ op = 13 ∨ op = 14)
theorem plain_any (H : AHeap) (op : Nat) : Does Try.prog orc 142 [.int .u8 op] H fun r H' => r = .ret (.bool (plainF op)) ∧ H = H' := by
  refine Does.of Try.func142 (fun _ _ => rfl) rfl ?_
  repeat' ((conv => whnf); first
    | (refine Both.intro ?_ ?_ <;> intro _ <;> try (exfalso; omega))
    | (refine Need.intro (by omega) ?_)
    | fail)
  all_goals (conv => whnf)
  all_goals
    refine ⟨?_, rfl⟩
    unfold plainF
    first
    | (rw [decide_eq_true (by omega)]; rfl)
    | (rw [decide_eq_false (by omega)]; rfl)
theorem fits1_any (H : AHeap) (x : Pt) : Does Try.prog orc 148 [.agg #[.bool x.path, .bool x.plain, .int .i64 x.depth, .int .i64 x.src]] H fun r H' => r = .ret (.bool x.path) ∧ Ext H H' := by
  refine Does.of Try.func148 (fun _ _ => rfl) rfl ?_
  have g0 := get_new H (.cells x.cells 0 true)
  have q0 := cellAt_of g0 (o := 0) rfl
  repeat' ((conv => whnf); first
    | (refine Both.intro ?_ ?_ <;> intro _ <;> try (exfalso; omega))
    | (refine Need.intro (by omega) ?_)
    | (refine ⟨_, q0, ?_⟩)
    | fail)
  all_goals (conv => whnf)
  exact ⟨rfl, Ext.push _ _⟩
theorem indexPart_any (H : AHeap) (hw : Wf H) (a : Option Addr) (n c : Nat) (ps : List Pt) (hr : RowS H a n c 4 (ps.map Pt.cells)) (hn : n ≤ 2 ^ 30) :
    Does Try.prog orc 154 [.slice a n c, .func (.func 148) #[] #[]] H fun r H' => ∃ z, r = .ret (.int .i64 z) ∧ (0 ≤ z ↔ ps.any (fun x => x.path) = true) ∧ Ext H H' := by
  have hlen := hr.len; simp at hlen
  have hcap := hr.cap
  refine Does.of Try.func154 (fun _ _ => rfl) rfl ?_
  repeat' ((conv => whnf); first
    | (refine Both.intro ?_ ?_ <;> intro _ <;> try (exfalso; omega))
    | (refine Need.intro (by omega) ?_)
    | fail)
  all_goals (conv => whnf)
  refine Runs.loop (fun k : Nat => [(8, .int .i64 k), (7, .int .i64 n), (1, .func (.func 148) #[] #[]), (0, .slice a n c)]) (fun k H' => k ≤ n ∧ Ext H H' ∧ Wf H' ∧ (ps.take k).any (fun x => x.path) = false) (fun k => n - k) 0 ⟨rfl, rfl, rfl, rfl, trivial⟩ ⟨Nat.zero_le _, Ext.refl _, hw, rfl⟩ ?_
  rintro k H1 ⟨hk, e1, w1, hall⟩
  by_cases hlt : k < n
  · obtain ⟨x, hx⟩ : ∃ x, ps[k]? = some x := ⟨_, List.getElem?_eq_getElem (by omega)⟩
    obtain ⟨b, o, st, rfl, hc⟩ := hr.cell k x.cells (by simp [hx])
    have hc := cellsAt_ext hw e1 hc
    have hf := (fits1_any H1 x).wf w1
    cases hp : x.path with
    | true =>
      have hf := hf.mono (Q' := fun r H' => (r = .ret (.bool true) ∧ Ext H1 H') ∧ Wf H') fun r H' h => ⟨⟨by rw [h.1.1, hp], h.1.2⟩, h.2⟩
      repeat' ((conv => whnf); first
        | (refine Both.intro ?_ ?_ <;> intro _ <;> try (exfalso; omega))
        | (refine Need.intro (by omega) ?_)
        | (refine ⟨_, hc, ?_⟩)
        | (refine Does.mono hf ?_ ; rintro _ H2 ⟨⟨rfl, e2⟩, w2⟩)
        | fail)
      all_goals (conv => whnf)
      refine ⟨k, rfl, ⟨fun _ => ?_, fun _ => by omega⟩, e1.trans e2⟩
      rw [List.any_eq_true]; exact ⟨x, List.mem_of_getElem? hx, hp⟩
    | false =>
      have hf := hf.mono (Q' := fun r H' => (r = .ret (.bool false) ∧ Ext H1 H') ∧ Wf H') fun r H' h => ⟨⟨by rw [h.1.1, hp], h.1.2⟩, h.2⟩
      repeat' ((conv => whnf); first
        | (refine Both.intro ?_ ?_ <;> intro _ <;> try (exfalso; omega))
        | (refine Need.intro (by omega) ?_)
        | (refine ⟨_, hc, ?_⟩)
        | (refine Does.mono hf ?_ ; rintro _ H2 ⟨⟨rfl, e2⟩, w2⟩)
        | fail)
      all_goals (conv => whnf)
      exact ⟨k + 1, ⟨rfl, rfl, rfl, rfl, trivial⟩, ⟨by omega, e1.trans e2, w2, by rw [List.take_add_one, hx]; simp [hall, hp]⟩, by omega⟩
  · skip
    repeat' ((conv => whnf); first
      | (refine Both.intro ?_ ?_ <;> intro _ <;> try (exfalso; omega))
      | (refine Need.intro (by omega) ?_)
      | fail)
    all_goals (conv => whnf)
    obtain rfl : k = n := by omega
    rw [List.take_of_length_le (by omega)] at hall
    exact ⟨-1, rfl, ⟨fun h => by omega, fun h => by rw [hall] at h; cases h⟩, e1⟩
theorem containsPart_any (H : AHeap) (hw : Wf H) (a : Option Addr) (n c : Nat) (ps : List Pt) (hr : RowS H a n c 4 (ps.map Pt.cells)) (hn : n ≤ 2 ^ 30) :
    Does Try.prog orc 147 [.slice a n c, .func (.func 148) #[] #[]] H fun r H' => r = .ret (.bool (ps.any fun x => x.path)) ∧ Ext H H' := by
  refine Does.of Try.func147 (fun _ _ => rfl) rfl ?_
  repeat' ((conv => whnf); first
    | (refine Both.intro ?_ ?_ <;> intro _ <;> try (exfalso; omega))
    | (refine Need.intro (by omega) ?_)
    | (refine Does.mono (indexPart_any H hw a n c ps hr hn) ?_ ; rintro _ H' ⟨z, rfl, hz, e⟩)
    | fail)
  all_goals (conv => whnf)
  all_goals
    refine ⟨?_, e⟩
    first
    | (rw [hz.1 (by omega)]; rfl)
    | (have : ps.any (fun x => x.path) = false := by
         cases hb : ps.any (fun x => x.path) with
         | false => rfl
         | true => exact absurd (hz.2 hb) (by omega)
       rw [this]; rfl)
def fitsF (op : Nat) (a : List Pt) : Bool :=
  let x := (a[0]?).getD ptNo
  let y := (a[1]?).getD ptNo
  if op = 17 ∨ op = 18 then x.path && !y.path else if op = 21 ∨ op = 22 then x.path && y.path else if op = 23 then x.path else
  if op = 19 then !x.path && x.plain else !a.any fun x => x.path
theorem fits_any (H : AHeap) (hw : Wf H) (op : Nat) (a : Option Addr) (n c : Nat) (ps : List Pt) (hr : RowS H a n c 4 (ps.map Pt.cells)) (hop : op ≤ 23) (hn : n = takesF op) :
    Does Try.prog orc 141 [.int .u8 op, .slice a n c] H fun r H' => r = .ret (.bool (fitsF op ps)) ∧ Ext H H' := by
  have hlen := hr.len; simp at hlen
  have hcap := hr.cap
  refine Does.of Try.func141 (fun _ _ => rfl) rfl ?_
  have hel : ∀ i, i < n → ∃ x b o st, ps[i]? = some x ∧ a = some ⟨b, o, st⟩ ∧ cellAt H b (o + i * 4 + 0) = some (.bool x.path) ∧ cellAt H b (o + i * 4 + 1) = some (.bool x.plain) := fun i hi => by
    obtain ⟨x, hx⟩ : ∃ x, ps[i]? = some x := ⟨_, List.getElem?_eq_getElem (by omega)⟩
    obtain ⟨b, o, st, rfl, hc⟩ := hr.cell i x.cells (by simp [hx])
    exact ⟨x, b, o, st, hx, rfl, cellsAt_cell hc (j := 0) rfl, cellsAt_cell hc (j := 1) rfl⟩
  by_cases h2 : op = 17 ∨ op = 18 ∨ op = 21 ∨ op = 22
  · have htk : takesF op = 2 := by unfold takesF; rw [if_neg (by omega), if_neg (by omega)]
    obtain ⟨x, b, o, st, hx, rfl, l0, l1⟩ := hel 0 (by omega)
    obtain ⟨y, b', o', st', hy, hb', r0, r1⟩ := hel 1 (by omega)
    cases hb'
    cases hxp : x.path <;> rw [hxp] at l0 <;> cases hyp : y.path <;> rw [hyp] at r0
    all_goals
      repeat' ((conv => whnf); first
        | (refine Both.intro ?_ ?_ <;> intro _ <;> try (exfalso; omega))
        | (refine Need.intro (by omega) ?_)
        | (refine ⟨_, l0, ?_⟩)
        | (refine ⟨_, r0, ?_⟩)
        | fail)
      all_goals (conv => whnf)
      all_goals
        refine ⟨?_, Ext.refl _⟩
        unfold fitsF
        rw [hx, hy]
        dsimp only [Option.getD_some]
        first
        | (rw [if_pos (by omega), hxp]; rfl)
        | (rw [if_pos (by omega), hxp, hyp]; rfl)
        | (rw [if_neg (by omega), if_pos (by omega), hxp]; rfl)
        | (rw [if_neg (by omega), if_pos (by omega), hxp, hyp]; rfl)
  · by_cases h1 : op = 23 ∨ op = 19
    · have htk : takesF op = 1 := by unfold takesF; rw [if_neg (by omega), if_pos (by omega)]
      obtain ⟨x, b, o, st, hx, rfl, l0, l1⟩ := hel 0 (by omega)
      cases hxp : x.path <;> rw [hxp] at l0 <;> cases hyp : x.plain <;> rw [hyp] at l1
      all_goals
        repeat' ((conv => whnf); first
          | (refine Both.intro ?_ ?_ <;> intro _ <;> try (exfalso; omega))
          | (refine Need.intro (by omega) ?_)
          | (refine ⟨_, l0, ?_⟩)
          | (refine ⟨_, l1, ?_⟩)
          | fail)
        all_goals (conv => whnf)
        all_goals
          refine ⟨?_, Ext.refl _⟩
          unfold fitsF
          rw [hx]
          dsimp only [Option.getD_some]
          first
          | (rw [if_neg (by omega), if_neg (by omega), if_pos (by omega), hxp]; rfl)
          | (rw [if_neg (by omega), if_neg (by omega), if_neg (by omega), if_pos (by omega), hxp]; rfl)
          | (rw [if_neg (by omega), if_neg (by omega), if_neg (by omega), if_pos (by omega), hxp, hyp]; rfl)
    · have hle := takesF_le op
      have hcall := containsPart_any H hw a n c ps hr (by omega)
      have hfin : fitsF op ps = !ps.any fun x => x.path := by
        unfold fitsF
        dsimp only
        rw [if_neg (by omega), if_neg (by omega), if_neg (by omega), if_neg (by omega)]
      cases hb : ps.any (fun x => x.path) <;> rw [hb] at hcall
      all_goals
        repeat' ((conv => whnf); first
          | (refine Both.intro ?_ ?_ <;> intro _ <;> try (exfalso; omega))
          | (refine Need.intro (by omega) ?_)
          | (refine Does.mono hcall ?_ ; rintro _ H' ⟨rfl, e⟩)
          | fail)
        all_goals (conv => whnf)
        exact ⟨by rw [hfin, hb]; rfl, e⟩
end Go.AX.Try
/- term.read and check. -/
namespace Go.AX.Try
open Go Go.AX Go.AX.Lw Go.Proofs
set_option linter.unusedVariables false
set_option linter.unusedSimpArgs false
set_option maxRecDepth 100000
/-- The part that a token makes of parts: what the loop over them does. -/
def partG (i : Nat) (t : Tk) (a : List Pt) : Nat → Pt
  | 0 => ⟨decide (19 ≤ t.op), plainF t.op, 1, i⟩
  | k + 1 =>
    let q := partG i t a k
    let x := (a[k]?).getD ptNo
    ⟨q.path, q.plain && x.plain, max q.depth (x.depth + 1), if k = 0 then x.src else q.src⟩
def partF (i : Nat) (t : Tk) (a : List Pt) : Pt := partG i t a a.length
theorem partG_path (i : Nat) (t : Tk) (a : List Pt) : ∀ k, (partG i t a k).path = decide (19 ≤ t.op)
  | 0 => rfl
  | k + 1 => partG_path i t a k
theorem partG_small (i : Nat) (t : Tk) (a : List Pt) (D : Nat) (hD : 1 ≤ D) (ha : ∀ x ∈ a, x.depth ≤ D ∧ x.src ≤ i) : ∀ k, (partG i t a k).depth ≤ D + 1 ∧ (partG i t a k).src ≤ i
  | 0 => ⟨by simp [partG], by simp [partG]⟩
  | k + 1 => by
    have ih := partG_small i t a D hD ha k
    have hx : ((a[k]?).getD ptNo).depth ≤ D ∧ ((a[k]?).getD ptNo).src ≤ i := by
      cases h : a[k]? with
      | none => simp [ptNo]
      | some x => exact ha x (List.mem_of_getElem? h)
    refine ⟨?_, ?_⟩
    · show max _ _ ≤ _
      omega
    · show (if k = 0 then _ else _) ≤ i
      split <;> omega
/-- A token on the stack of parts; the number tells which token it is. -/
def stepR (st : Option (Nat × List Pt)) (t : Tk) : Option (Nat × List Pt) :=
  match st with
  | none => none
  | some (i, ps) =>
    if okT t = true ∧ takesF t.op ≤ ps.length ∧ fitsF t.op (ps.drop (ps.length - takesF t.op)) = true then some (i + 1, ps.take (ps.length - takesF t.op) ++ [partF i t (ps.drop (ps.length - takesF t.op))]) else none
def foldR (ts : List Tk) : Option (Nat × List Pt) := ts.foldl stepR (some (0, []))
theorem foldR_none (ts : List Tk) : ts.foldl stepR none = none := by
  induction ts with
  | nil => rfl
  | cons t r ih => exact ih
def readF (ts : List Tk) : Option Pt :=
  match foldR ts with
  | some (_, [p]) => some p
  | _ => none
def termF (ts : List Tk) (path : Bool) : Nat :=
  if 512 < ts.length then 3 else
  match readF ts with
  | none => 7
  | some p => if p.path != path then 7 else if 64 < p.depth then 8 else 0
theorem foldR_take {ts : List Tk} {k : Nat} {t : Tk} (h : ts[k]? = some t) : foldR (ts.take (k + 1)) = stepR (foldR (ts.take k)) t := by
  unfold foldR; rw [List.take_add_one, h, List.foldl_append]; rfl
theorem foldR_rest {ts : List Tk} {k : Nat} {t : Tk} (h : ts[k]? = some t) (hn : stepR (foldR (ts.take k)) t = none) : foldR ts = none := by
  have : foldR ts = (ts.drop (k + 1)).foldl stepR (foldR (ts.take (k + 1))) := by unfold foldR; rw [← List.foldl_append, List.take_append_drop]
  rw [this, foldR_take h, hn, foldR_none]
/-- Where the parts fit, the kinds do. -/
theorem fits_kinds {op : Nat} {a : List Pt} (ha : a.length = takesF op) (hop : op ≤ 23) (h : fitsF op a = true) : fitK op (a.map Pt.path) = true := by
  unfold fitsF at h
  unfold fitK
  dsimp only at h
  by_cases h1 : op = 17 ∨ op = 18
  · have htk : takesF op = 2 := by unfold takesF; rw [if_neg (by omega), if_neg (by omega)]
    rw [htk] at ha
    match a, ha with
    | [x, y], _ => rw [if_pos h1] at h ⊢; simp at h ⊢; exact h
  · rw [if_neg h1] at h ⊢
    by_cases h2 : op = 21 ∨ op = 22
    · have htk : takesF op = 2 := by unfold takesF; rw [if_neg (by omega), if_neg (by omega)]
      rw [htk] at ha
      match a, ha with
      | [x, y], _ => rw [if_pos h2] at h ⊢; simp at h ⊢; exact h
    · rw [if_neg h2] at h ⊢
      by_cases h3 : op = 23
      · have htk : takesF op = 1 := by unfold takesF; rw [if_neg (by omega), if_pos (by omega)]
        rw [htk] at ha
        match a, ha with
        | [x], _ => rw [if_pos h3] at h ⊢; simp at h ⊢; exact h
      · rw [if_neg h3] at h ⊢
        by_cases h4 : op = 19
        · have htk : takesF op = 1 := by unfold takesF; rw [if_neg (by omega), if_pos (by omega)]
          rw [htk] at ha
          match a, ha with
          | [x], _ => rw [if_pos h4] at h; simp at h ⊢; exact h.1
        · rw [if_neg h4] at h
          simp only [Bool.not_eq_true', List.any_eq_false, List.all_eq_true, List.mem_map] at h ⊢
          rintro x ⟨y, hy, rfl⟩
          have := h y hy
          simpa using this
theorem foldR_kinds : ∀ (ts : List Tk) (i : Nat) (ps : List Pt) (j : Nat) (qs : List Pt), ts.foldl stepR (some (i, ps)) = some (j, qs) → ts.foldl stepK (some (ps.map Pt.path)) = some (qs.map Pt.path)
  | [], i, ps, j, qs, h => by simp at h; rw [h.2]; rfl
  | t :: r, i, ps, j, qs, h => by
    simp only [List.foldl_cons] at h ⊢
    by_cases hc : okT t = true ∧ takesF t.op ≤ ps.length ∧ fitsF t.op (ps.drop (ps.length - takesF t.op)) = true
    · rw [stepR, if_pos hc] at h
      have ih := foldR_kinds r _ _ j qs h
      have hok := hc.1
      unfold okT at hok
      have hok := of_decide_eq_true hok
      have hf := fits_kinds (by rw [List.length_drop]; omega) hok.2 hc.2.2
      have e : stepK (some (ps.map Pt.path)) t = some ((ps.take (ps.length - takesF t.op) ++ [partF i t (ps.drop (ps.length - takesF t.op))]).map Pt.path) := by
        simp only [stepK]
        rw [if_pos ⟨hok.2, by omega, by rw [List.length_map]; exact hc.2.1, by rw [List.length_map, ← List.map_drop]; exact hf⟩, List.length_map, List.map_append, List.map_take]
        simp only [List.map_cons, List.map_nil, partF, partG_path]
      rw [e]; exact ih
    · rw [stepR, if_neg hc, foldR_none] at h; cases h
theorem termF_kinds {ts : List Tk} {path : Bool} (h : termF ts path = 0) : kinds ts = some [path] ∧ ts.length ≤ 512 := by
  unfold termF at h
  split at h
  · cases h
  · rename_i hl
    refine ⟨?_, by omega⟩
    unfold readF at h
    cases hf : foldR ts with
    | none => simp [hf] at h
    | some x =>
      obtain ⟨j, qs⟩ := x
      rcases qs with _ | ⟨q, _ | ⟨q2, r⟩⟩
      · simp [hf] at h
      · simp only [hf] at h
        split at h
        · cases h
        · rename_i hp
          have := foldR_kinds ts 0 [] j [q] hf
          have hq : q.path = path := by simpa using hp
          rw [← hq]; exact this
      · simp [hf] at h
theorem zPart : zeroOf Try.prog 132 = some (.agg #[.bool false, .bool false, .int .i64 0, .int .i64 0]) := by kernel_rfl
theorem partTy : AppTyS Try.prog #[130, 130] 132 4 24 where
  t0 := by kernel_rfl
  t1 := by kernel_rfl
  size := by kernel_rfl
  bytes := by kernel_rfl
  pos := by decide
  szp := by decide
  szl := by decide
  zero := ⟨.agg #[.bool false, .bool false, .int .i64 0, .int .i64 0], by kernel_rfl, rfl⟩
theorem get_set_same (b : Nat) (H : AHeap) (o : AObj) : (H.set b o).get b = some o := by rw [AHeap.get_set, if_pos rfl]
/-- What read answers. -/
def ReadP (ts : List Tk) (H : AHeap) (r : CRes) (H' : AHeap) : Prop :=
  ∃ av p, r = .ret (.tuple #[av, .agg #[.bool (Pt.path p), .bool p.plain, .int .i64 p.depth, .int .i64 p.src], .bool (readF ts).isSome]) ∧ (∀ q, readF ts = some q → p = q) ∧ Ext H H' ∧ Wf H'
structure RS where
  k : Nat
  ps : List Pt
  sa : Option Addr
  sc : Nat
  al : List (List Value)
  aa : Option Addr
  ac : Nat
structure RI (Z H : AHeap) (ts : List Tk) (s : RS) : Prop where
  kle : s.k ≤ ts.length
  e : Ext Z H
  w : Wf H
  st : Stk Z H (rowV 132 4) 4 s.sa s.ps.length s.sc (s.ps.map Pt.cells)
  at_ : Stk Z H (rowV 132 4) 4 s.aa s.al.length s.ac s.al
  ap : ∀ b o q o' q', s.sa = some ⟨b, o, q⟩ → s.aa ≠ some ⟨b, o', q'⟩
  fd : foldR (ts.take s.k) = some (s.k, s.ps)
  lp : s.ps.length ≤ s.k
  la : s.al.length ≤ s.k
  sm : ∀ x ∈ s.ps, x.depth ≤ s.k ∧ x.src ≤ s.k
theorem RI.push {Z H HA H5 : AHeap} {ts : List Tk} {s : RS} (h : RI Z H ts s) {t : Tk} (ht : ts[s.k]? = some t) (hts : ts.length ≤ 2 ^ 20) (e5 : Ext H H5) (w5 : Wf H5)
    (hok : okT t = true) (hm : takesF t.op ≤ s.ps.length) (hfit : fitsF t.op (s.ps.drop (s.ps.length - takesF t.op)) = true) :
    ∃ a' c' H6, aAppend Try.prog (H5.push (.cells (partF s.k t (s.ps.drop (s.ps.length - takesF t.op))).cells 0 true)) #[130, 130] [.slice s.sa (s.ps.length - takesF t.op) s.sc, .slice (some ⟨H5.next, 0, none⟩) 1 1] = some (.val (.slice a' (s.ps.length - takesF t.op + 1) c') H6 (.eff (H5.push (.cells (partF s.k t (s.ps.drop (s.ps.length - takesF t.op))).cells 0 true)) H6)) ∧
      Wf H6 ∧ (∀ b, H.next ≤ b → b < H5.next → H6.get b = H5.get b) ∧
      ∃ a2 c2 H9, aAppend Try.prog (H6.push (.cells (partF s.k t (s.ps.drop (s.ps.length - takesF t.op))).cells 0 true)) #[130, 130] [.slice s.aa s.al.length s.ac, .slice (some ⟨H6.next, 0, none⟩) 1 1] = some (.val (.slice a2 (s.al.length + 1) c2) H9 (.eff (H6.push (.cells (partF s.k t (s.ps.drop (s.ps.length - takesF t.op))).cells 0 true)) H9)) ∧
        RI Z H9 ts ⟨s.k + 1, s.ps.take (s.ps.length - takesF t.op) ++ [partF s.k t (s.ps.drop (s.ps.length - takesF t.op))], a', c', s.al ++ [(partF s.k t (s.ps.drop (s.ps.length - takesF t.op))).cells], a2, c2⟩ := by
  have hlp := h.lp
  have hla := h.la
  have hkl := (List.getElem?_eq_some_iff.1 ht).1
  obtain ⟨m, hmm⟩ : ∃ m, m = s.ps.length - takesF t.op := ⟨_, rfl⟩
  obtain ⟨P, hP⟩ : ∃ P, P = partF s.k t (s.ps.drop (s.ps.length - takesF t.op)) := ⟨_, rfl⟩
  rw [← hmm] at hfit hP ⊢
  rw [← hP]
  have st5 := (h.st.ext h.w e5).ext w5 (Ext.push H5 (.cells P.cells 0 true))
  obtain ⟨a', c', H6, happ, st6, e6, w6, n6, hk6, hn6⟩ := stk_push ((h.e.trans e5).trans (Ext.push H5 (.cells P.cells 0 true))) (w5.push _) partTy st5 (m := m) (by omega) (srcS (get_new _ _) rfl) rfl rfl (by omega) (by omega)
  have nP : (H5.push (.cells P.cells 0 true)).next = H5.next + 1 := rfl
  have same6 : ∀ b, b < H5.next → (∀ o q, s.sa ≠ some ⟨b, o, q⟩) → H6.get b = H5.get b := fun b hb hs => by
    rw [hk6 b (by omega) hs, AHeap.get_push, if_neg (by omega)]
  have hal : ∀ b o q, s.aa = some ⟨b, o, q⟩ → b < H.next := fun b o q hb => (h.at_.lt h.w hb).2
  have hsl : ∀ b o q, s.sa = some ⟨b, o, q⟩ → b < H.next := fun b o q hb => (h.st.lt h.w hb).2
  have at6 : Stk Z H6 (rowV 132 4) 4 s.aa s.al.length s.ac s.al := (h.at_.ext h.w e5).same fun b hb => same6 b (by have := hal b _ _ hb; have := e5.next; omega) fun o q hs => h.ap _ _ _ _ _ hs hb
  have w7 := w6.push (.cells P.cells 0 true)
  have at7 := at6.ext w6 (Ext.push H6 (.cells P.cells 0 true))
  obtain ⟨a2, c2, H9, happ2, at9, e9, w9, n9, hk9, hn9⟩ := stk_push (e6.trans (Ext.push H6 (.cells P.cells 0 true))) w7 partTy at7 (m := s.al.length) (Nat.le_refl _) (srcS (get_new _ _) rfl) rfl rfl (by omega) (by omega)
  have nP6 : (H6.push (.cells P.cells 0 true)).next = H6.next + 1 := rfl
  have hap6 : ∀ b o q o' q', a' = some ⟨b, o, q⟩ → s.aa ≠ some ⟨b, o', q'⟩ := fun b o q o' q' hb hb' => by
    rcases hn6 b o q hb with h1 | h1
    · exact h.ap _ _ _ _ _ h1 hb'
    · have := hal b _ _ hb'; have := e5.next; omega
  have st9 : Stk Z H9 (rowV 132 4) 4 a' (m + 1) c' ((s.ps.map Pt.cells).take m ++ [P.cells]) := (st6.ext w6 (Ext.push H6 (.cells P.cells 0 true))).same fun b hb => hk9 b (by have := (st6.lt w6 hb).2; omega) fun o q hs => hap6 _ _ _ _ _ hb hs
  have hln : (s.ps.take m ++ [P]).length = m + 1 := by rw [List.length_append, List.length_take, Nat.min_eq_left (by omega)]; rfl
  refine ⟨a', c', H6, happ, w6, fun b h1 h2 => same6 b h2 fun o q hs => by have := hsl b o q hs; omega, a2, c2, H9, happ2, ⟨by dsimp only; omega, e9, w9, ?_, ?_, ?_, ?_, by dsimp only; rw [hln]; omega, by simp; omega, ?_⟩⟩
  · dsimp only; rw [hln, List.map_append, List.map_take]; exact st9
  · dsimp only
    rw [List.length_append, List.length_singleton]
    have := at9
    rwa [List.take_of_length_le (by omega)] at this
  · intro b o q o' q' hb hb'
    dsimp only at hb hb'
    rcases hn9 b o' q' hb' with h1 | h1
    · exact hap6 _ _ _ _ _ hb h1
    · have := (st6.lt w6 hb).2; omega
  · dsimp only
    rw [foldR_take ht, h.fd, stepR, if_pos ⟨hok, hm, by rw [← hmm]; exact hfit⟩, ← hmm, ← hP]
  · dsimp only
    intro x hx
    rcases List.mem_append.1 hx with hx | hx
    · have := h.sm x (List.mem_of_mem_take hx); omega
    · simp only [List.mem_singleton] at hx
      subst hx
      rw [hP]
      by_cases hz : s.k = 0
      · have hps : s.ps = [] := List.length_eq_zero_iff.1 (by omega)
        rw [hps]
        simp [partF, partG, hz]
      · have := partG_small s.k t (s.ps.drop m) s.k (by omega) (fun y hy => h.sm y (List.mem_of_mem_drop hy)) (s.ps.drop m).length
        unfold partF
        omega
theorem RS.none_ret {Z H : AHeap} {ts : List Tk} {s : RS} (h : RI Z H ts s) {t : Tk} (ht : ts[s.k]? = some t) (hn : ¬ (okT t = true ∧ takesF t.op ≤ s.ps.length ∧ fitsF t.op (s.ps.drop (s.ps.length - takesF t.op)) = true)) : readF ts = none := by
  have := foldR_rest ht (by rw [h.fd, stepR, if_neg hn])
  unfold readF; rw [this]
theorem get_ext {H H' : AHeap} (hw : Wf H) (e : Ext H H') {b : Nat} {o : AObj} (h : H.get b = some o) : H'.get b = some o := (e.get b (hw.lt h)).trans h
theorem bNo : aBuild Try.prog 132 [] = some (.agg #[.bool false, .bool false, .int .i64 0, .int .i64 0]) := by kernel_rfl
theorem bPart (a b : Bool) (c d : Int) : aBuild Try.prog 132 [(0, .bool a), (1, .bool b), (2, .int .i64 c), (3, .int .i64 d)] = some (.agg #[.bool a, .bool b, .int .i64 c, .int .i64 d]) := by kernel_rfl
set_option maxHeartbeats 8000000 in
theorem read_any (H : AHeap) (hw : Wf H) (a : Option Addr) (n c : Nat) (ts : List Tk) (hr : RowS H a n c 2 (ts.map Tk.cells)) (hn : n ≤ 2 ^ 20) :
    Does Try.prog orc 102 [.slice a n c] H (ReadP ts H) := by
  have hlen := hr.len; simp at hlen
  have hcap := hr.cap
  refine Does.of Try.func102 (fun _ _ => rfl) rfl ?_
  obtain ⟨Z, h_Z⟩ : ∃ X, X = (H.push (.cells [.bool false, .bool false, .int .i64 0, .int .i64 0] (typedV 132) true)) := ⟨_, rfl⟩
  have n_Z : Z.next = H.next + 1 := by rw [h_Z]; rfl
  have e_Z : Ext H Z := by rw [h_Z]; exact (⟨by first | (simp; done) | (simp; omega), fun b hb => by (simp only [AHeap.get_push, AHeap.get_set, AHeap.next_push, AHeap.next_set]; repeat rw [if_neg (by omega)])⟩)
  have w_Z : Wf Z := by rw [h_Z]; exact (fun b hb => by (simp only [AHeap.get_push, AHeap.get_set, AHeap.next_push, AHeap.next_set] at hb ⊢; repeat rw [if_neg (by omega)]); exact hw b (by omega))
  have g_Z_0 : Z.get (H.next) = some (.cells [.bool false, .bool false, .int .i64 0, .int .i64 0] (typedV 132) true) := by rw [h_Z]; exact (by (simp only [AHeap.get_push, AHeap.get_set, AHeap.next_push, AHeap.next_set, if_true]); repeat (first | rw [if_pos rfl] | rw [if_neg (by omega)]))
  have o_Z : ∀ b, b < H.next → Z.get b = H.get b := e_Z.get
  have x_Z := h_Z
  repeat' ((conv => whnf); first
    | (refine Both.intro ?_ ?_ <;> intro _ <;> try (exfalso; omega))
    | (refine Need.intro (by omega) ?_)
    | (refine Gives.intro ⟨_, zPart, ?_⟩)
    | fail)
  all_goals (conv => whnf)
  refine Runs.loop (fun s : RS => [(16, .int .i64 s.k), (15, .int .i64 n), (14, .slice a n c), (6, .slice s.sa s.ps.length s.sc), (5, .slice s.aa s.al.length s.ac), (3, .pointer (some ⟨H.next, 0, none⟩))])
    (fun s H' => RI Z H' ts s) (fun s => n - s.k) ⟨0, [], none, 0, [], none, 0⟩ ⟨rfl, rfl, rfl, rfl, rfl, rfl, trivial⟩
    ⟨Nat.zero_le _, by rw [h_Z]; exact Ext.refl _, by rw [h_Z] at w_Z; exact w_Z, Stk.nil _ _ _ _, Stk.nil _ _ _ _, by simp, rfl, Nat.le_refl _, Nat.le_refl _, by simp⟩ ?_
  rintro s H1 hI
  show vc _ _ _ _ _ [(16, .int .i64 s.k), (15, .int .i64 n), (14, .slice a n c), (6, .slice s.sa s.ps.length s.sc), (5, .slice s.aa s.al.length s.ac), (3, .pointer (some ⟨H.next, 0, none⟩))] _ _
  have w1 := hI.w
  have eH1 := e_Z.trans hI.e
  have hlp := hI.lp
  have hla := hI.la
  have hsc := hI.st.2.1
  have gz1 := get_ext w_Z hI.e g_Z_0
  have lz : H.next < H1.next := w1.lt gz1
  by_cases hlt : s.k < n
  · obtain ⟨t, ht⟩ : ∃ t, ts[s.k]? = some t := ⟨_, List.getElem?_eq_getElem (by omega)⟩
    obtain ⟨tb, to, tst, rfl, hcell⟩ := hr.cell s.k t.cells (by simp [ht])
    have hcell := cellsAt_ext hw eH1 hcell
    obtain ⟨T, h_T⟩ : ∃ X, X = ((H1.push (.cells [.int .u8 0, .int .u8 0] (typedV 46) true)).set (H1.next) (.cells [.int .u8 t.op, .int .u8 t.p] (typedV 46) true)) := ⟨_, rfl⟩
    have n_T : T.next = H1.next + 1 := by rw [h_T]; rfl
    have e_T : Ext H1 T := by rw [h_T]; exact (⟨by first | (simp; done) | (simp; omega), fun b hb => by (simp only [AHeap.get_push, AHeap.get_set, AHeap.next_push, AHeap.next_set]; repeat rw [if_neg (by omega)])⟩)
    have w_T : Wf T := by rw [h_T]; exact (fun b hb => by (simp only [AHeap.get_push, AHeap.get_set, AHeap.next_push, AHeap.next_set] at hb ⊢; repeat rw [if_neg (by omega)]); exact w1 b (by omega))
    have g_T_0 : T.get (H1.next) = some (.cells [.int .u8 t.op, .int .u8 t.p] (typedV 46) true) := by rw [h_T]; exact (by (simp only [AHeap.get_push, AHeap.get_set, AHeap.next_push, AHeap.next_set, if_true]); repeat (first | rw [if_pos rfl] | rw [if_neg (by omega)]))
    have o_T : ∀ b, b < H1.next → T.get b = H1.get b := e_T.get
    have x_T := h_T
    have qTax := cellsAt_all (n := 2) g_T_0 rfl
    rw [x_T] at qTax
    have qT0 := cellAt_of g_T_0 (o := 0) rfl
    have htakes := ((takesTerm_any T t).wf w_T).heap x_T
    have gzT := get_ext w1 e_T gz1
    have noRet : ∀ (H' : AHeap), Ext H H' → Wf H' → (readF ts = none) → H'.get H.next = some (.cells [.bool false, .bool false, .int .i64 0, .int .i64 0] (typedV 132) true) →
        ∃ X, aStore Try.prog H' 132 (.pointer (some ⟨H.next, 0, none⟩)) (.agg #[.bool false, .bool false, .int .i64 0, .int .i64 0]) = some (.val undef X (.eff H' X)) ∧ cellsAt X H.next 0 4 = some [.bool false, .bool false, .int .i64 0, .int .i64 0] ∧ ReadP ts H (.ret (.tuple #[.slice none 0 0, .agg #[.bool false, .bool false, .int .i64 0, .int .i64 0], .bool false])) X := fun H' e w hnone g => by
      refine ⟨_, storeAgg_ok (vs := [.bool false, .bool false, .int .i64 0, .int .i64 0]) (by kernel_rfl) rfl g rfl, cellsAt_all (n := 4) (by rw [AHeap.get_set, if_pos rfl]) rfl, .slice none 0 0, ptNo, by rw [hnone]; rfl, fun q h => (by rw [hnone] at h; cases h), e.set (Nat.le_refl _) _, w.set g _⟩
    by_cases hok : okT t = true
    · have htk : takesT t = (takesF t.op : Int) := by unfold takesT; rw [if_pos hok]
      by_cases hle : takesF t.op ≤ s.ps.length
      · have hT2 := takesF_le t.op
        have hok2 : t.op ≤ 23 := by unfold okT at hok; exact (of_decide_eq_true hok).2
        have hsl : aSlice Try.prog 130 (.slice s.sa s.ps.length s.sc) (some (.int .i64 ((s.ps.length : Int) - (takesF t.op : Int)))) none none = some (.slice (offA s.sa ((s.ps.length - takesF t.op) * 4)) (s.ps.length - (s.ps.length - takesF t.op)) (s.sc - (s.ps.length - takesF t.op))) := slice_fromI (e := 132) (n := 4) (by kernel_rfl) (by kernel_rfl) (by omega) (by omega) hsc hI.st.spot
        have hslt : aSlice Try.prog 130 (.slice s.sa s.ps.length s.sc) none (some (.int .i64 ((s.ps.length : Int) - (takesF t.op : Int)))) none = some (.slice s.sa (s.ps.length - takesF t.op) s.sc) := slice_toI (e := 132) (n := 4) (by kernel_rfl) (by kernel_rfl) (by omega) (by omega)
        obtain ⟨A0, hA0⟩ : ∃ A0, A0 = s.ps.drop (s.ps.length - takesF t.op) := ⟨_, rfl⟩
        have hrest := hI.st.rest (m := s.ps.length - takesF t.op) (by omega)
        have hq : s.ps.length - (s.ps.length - takesF t.op) = takesF t.op := by omega
        rw [hq] at hsl hrest
        rw [← List.map_drop, ← hA0] at hrest
        have hl0 : A0.length = takesF t.op := by rw [hA0, List.length_drop]; omega
        cases hfit : fitsF t.op A0 with
        | false =>
          have hnone : readF ts = none := RS.none_ret hI ht fun h => by rw [← hA0, hfit] at h; exact absurd h.2.2 (by decide)
          have hfits := fun A (eTA : Ext T A) (w_A : Wf A) => (fits_any A w_A t.op _ _ _ A0 ((hrest.ext w1 e_T).ext w_T eTA) hok2 rfl).wf w_A
          rw [hfit] at hfits
          rw [htk] at htakes
          have q0 := fun A (eTA : Ext T A) => cellAt_ext w_T eTA qT0
          repeat' ((conv => whnf); first
            | (refine Both.intro ?_ ?_ <;> intro _ <;> try (exfalso; omega))
            | (refine Need.intro (by omega) ?_)
            | (refine ⟨_, hcell, ?_⟩)
            | (refine Gives.intro ⟨_, zTok, ?_⟩)
            | (refine Outs.intro ⟨_, _, _, storeAgg_ok (vs := [.int .u8 _, .int .u8 _]) (by kernel_rfl) rfl (get_new _ _) rfl, ?_⟩)
            | (refine ⟨_, qTax, ?_⟩)
            | (refine Does.mono htakes ?_ ; rintro _ A ⟨⟨rfl, eTA⟩, w_A⟩ ; have q0A := q0 A (x_T ▸ eTA) ; have hfA := hfits A (x_T ▸ eTA) w_A)
            | (refine ⟨_, q0A, ?_⟩)
            | (refine Gives.intro ⟨_, hsl, ?_⟩)
            | (refine Does.mono hfA ?_ ; rintro _ B ⟨⟨rfl, eAB⟩, w_B⟩ ; obtain ⟨X, hst, hcX, hfin⟩ := noRet B ((eH1.trans e_T).trans ((x_T ▸ eTA : Ext T A).trans eAB)) w_B hnone (get_ext w_A eAB (get_ext w_T (x_T ▸ eTA : Ext T A) gzT)))
            | (refine Gives.intro ⟨_, bNo, ?_⟩)
            | (refine Outs.intro ⟨_, _, _, hst, ?_⟩)
            | (refine ⟨_, hcX, ?_⟩)
            | fail)
          all_goals (conv => whnf)
          exact hfin
        | true =>
          by_cases hge : 19 ≤ t.op
          · have hfits := fun A (eTA : Ext T A) (w_A : Wf A) => (fits_any A w_A t.op _ _ _ A0 ((hrest.ext w1 e_T).ext w_T eTA) hok2 rfl).wf w_A
            rw [hfit] at hfits
            rw [htk] at htakes
            have q0 := fun A (eTA : Ext T A) => cellAt_ext w_T eTA qT0
            repeat' ((conv => whnf); first
              | (refine Both.intro ?_ ?_ <;> intro _ <;> try (exfalso; omega))
              | (refine Need.intro (by omega) ?_)
              | (refine ⟨_, hcell, ?_⟩)
              | (refine Gives.intro ⟨_, zTok, ?_⟩)
              | (refine Outs.intro ⟨_, _, _, storeAgg_ok (vs := [.int .u8 _, .int .u8 _]) (by kernel_rfl) rfl (get_new _ _) rfl, ?_⟩)
              | (refine ⟨_, qTax, ?_⟩)
              | (refine Does.mono htakes ?_ ; rintro _ A ⟨⟨rfl, eTA⟩, w_A⟩ ; have eTA' : Ext T A := x_T ▸ eTA ; have q0A := q0 A eTA' ; have hfA := hfits A eTA' w_A)
              | (refine ⟨_, q0A, ?_⟩)
              | (refine Gives.intro ⟨_, hsl, ?_⟩)
              | (refine Does.mono hfA ?_ ; rintro _ B ⟨⟨rfl, eAB⟩, w_B⟩ ; have q0B := cellAt_ext w_A eAB q0A)
              | (refine ⟨_, q0B, ?_⟩)
              | (refine Does.mono (plain_any B t.op) ?_ ; rintro _ _ ⟨rfl, rfl⟩)
              | (refine Gives.intro ⟨_, bPart _ _ _ _, ?_⟩)
              | (refine Gives.intro ⟨_, zPart, ?_⟩)
              | (refine Outs.intro ⟨_, _, _, storeAgg_ok (vs := [.bool _, .bool _, .int .i64 _, .int .i64 _]) (by kernel_rfl) rfl (get_new _ _) rfl, ?_⟩)
              | (refine Need.intro (draw_mix ⟨⟨.inr (.inl (by kernel_rfl)), .inr (cellsAt_set (by have := cellAt_lt w_B q0B; simp; omega)), .inr (cellsAt_set (by have := cellAt_lt w_B q0B; simp; omega)), trivial⟩, ⟨.inl rfl, .inr rfl, .inr rfl, trivial⟩, trivial⟩) ?_)
              | fail)
            all_goals (conv => whnf)
            have eH1B : Ext H1 B := (e_T.trans eTA').trans eAB
            obtain ⟨D, h_D⟩ : ∃ X, X = ((B.push (.cells [.bool false, .bool false, .int .i64 0, .int .i64 0] (typedV 132) true)).set (B.next) (.cells [.bool true, .bool (plainF t.op), .int .i64 1, .int .i64 s.k] (typedV 132) true)) := ⟨_, rfl⟩
            have n_D : D.next = B.next + 1 := by rw [h_D]; rfl
            have e_D : Ext B D := by rw [h_D]; exact (⟨by first | (simp; done) | (simp; omega), fun b hb => by (simp only [AHeap.get_push, AHeap.get_set, AHeap.next_push, AHeap.next_set]; repeat rw [if_neg (by omega)])⟩)
            have w_D : Wf D := by rw [h_D]; exact (fun b hb => by (simp only [AHeap.get_push, AHeap.get_set, AHeap.next_push, AHeap.next_set] at hb ⊢; repeat rw [if_neg (by omega)]); exact w_B b (by omega))
            have g_D_0 : D.get (B.next) = some (.cells [.bool true, .bool (plainF t.op), .int .i64 1, .int .i64 s.k] (typedV 132) true) := by rw [h_D]; exact (by (simp only [AHeap.get_push, AHeap.get_set, AHeap.next_push, AHeap.next_set, if_true]); repeat (first | rw [if_pos rfl] | rw [if_neg (by omega)]))
            have o_D : ∀ b, b < B.next → D.get b = B.get b := e_D.get
            have x_D := h_D
            have hB0 := e_D
            have hB1 := w_D
            have hB2 : D.get B.next = some (.cells (partG s.k t A0 0).cells (typedV 132) true) := by rw [g_D_0]; simp only [partG, Pt.cells]; rw [decide_eq_true hge]; rfl
            rw [x_D] at hB0 hB1 hB2
            refine Runs.loop (fun kk : Nat => [(54, .int .i64 kk), (53, .int .i64 (takesF t.op)), (52, .slice (offA s.sa ((s.ps.length - takesF t.op) * 4)) (takesF t.op) (s.sc - (s.ps.length - takesF t.op))), (11, .pointer (some ⟨B.next, 0, none⟩)), (9, .int .i64 (takesF t.op)), (16, .int .i64 s.k), (15, .int .i64 n), (14, .slice (some ⟨tb, to, tst⟩) n c), (6, .slice s.sa s.ps.length s.sc), (5, .slice s.aa s.al.length s.ac), (3, .pointer (some ⟨H.next, 0, none⟩))])
              (fun kk H' => kk ≤ takesF t.op ∧ Ext B H' ∧ Wf H' ∧ H'.get B.next = some (.cells (partG s.k t A0 kk).cells (typedV 132) true)) (fun kk => takesF t.op - kk) 0 ⟨rfl, rfl, rfl, rfl, rfl, rfl, rfl, rfl, rfl, rfl, rfl, trivial⟩ ⟨Nat.zero_le _, hB0, hB1, hB2⟩ ?_
            rintro kk H2 ⟨hkk, e2, w2, gP⟩
            by_cases hkl : kk < takesF t.op
            · obtain ⟨x, hxk⟩ : ∃ x, A0[kk]? = some x := ⟨_, List.getElem?_eq_getElem (by omega)⟩
              have hxd := (hI.sm x (by rw [hA0] at hxk; exact List.mem_of_mem_drop (List.mem_of_getElem? hxk))).1
              obtain ⟨xb, xo, xst, hoff, hcx⟩ := hrest.cell kk x.cells (by simp [hxk])
              have hcx := cellsAt_ext w1 (((e_T.trans eTA').trans eAB).trans e2) hcx
              rw [hoff]
              obtain ⟨q, hq⟩ : ∃ q, q = partG s.k t A0 kk := ⟨_, rfl⟩
              rw [← hq] at gP
              have nB2 : B.next < H2.next := w2.lt gP
              obtain ⟨E1, h_E1⟩ : ∃ X, X = ((H2.push (.cells [.bool false, .bool false, .int .i64 0, .int .i64 0] (typedV 132) true)).set (H2.next) (.cells [.bool x.path, .bool x.plain, .int .i64 x.depth, .int .i64 x.src] (typedV 132) true)) := ⟨_, rfl⟩
              have n_E1 : E1.next = H2.next + 1 := by rw [h_E1]; rfl
              have e_E1 : Ext H2 E1 := by rw [h_E1]; exact (⟨by first | (simp; done) | (simp; omega), fun b hb => by (simp only [AHeap.get_push, AHeap.get_set, AHeap.next_push, AHeap.next_set]; repeat rw [if_neg (by omega)])⟩)
              have w_E1 : Wf E1 := by rw [h_E1]; exact (fun b hb => by (simp only [AHeap.get_push, AHeap.get_set, AHeap.next_push, AHeap.next_set] at hb ⊢; repeat rw [if_neg (by omega)]); exact w2 b (by omega))
              have g_E1_0 : E1.get (H2.next) = some (.cells [.bool x.path, .bool x.plain, .int .i64 x.depth, .int .i64 x.src] (typedV 132) true) := by rw [h_E1]; exact (by (simp only [AHeap.get_push, AHeap.get_set, AHeap.next_push, AHeap.next_set, if_true]); repeat (first | rw [if_pos rfl] | rw [if_neg (by omega)]))
              have o_E1 : ∀ b, b < H2.next → E1.get b = H2.get b := e_E1.get
              have x_E1 := h_E1
              have qE := (o_E1 B.next nB2).trans gP
              have r1 := cellAt_of qE (o := 1) rfl
              have y1 := cellAt_of g_E1_0 (o := 1) rfl
              rw [x_E1] at r1 y1
              by_cases hk0 : kk = 0
              · by_cases hmx : q.depth < x.depth + 1
                · cases hqp : q.plain
                  · rw [hqp] at r1
                    rw [Pt.cells, hqp] at qE
                    obtain ⟨F1, h_F1⟩ : ∃ X, X = (E1.set (B.next) (.cells [.bool q.path, .bool false, .int .i64 q.depth, .int .i64 q.src] (typedV 132) true)) := ⟨_, rfl⟩
                    have n_F1 : F1.next = E1.next + 0 := by rw [h_F1]; rfl
                    have w_F1 : Wf F1 := by rw [h_F1]; exact (fun b hb => by (simp only [AHeap.get_push, AHeap.get_set, AHeap.next_push, AHeap.next_set] at hb ⊢; repeat rw [if_neg (by omega)]); exact w_E1 b (by omega))
                    have s_F1_0 : F1.get (B.next) = some (.cells [.bool q.path, .bool false, .int .i64 q.depth, .int .i64 q.src] (typedV 132) true) := by rw [h_F1]; exact (by (simp only [AHeap.get_push, AHeap.get_set, AHeap.next_push, AHeap.next_set, if_true]); repeat (first | rw [if_pos rfl] | rw [if_neg (by omega)]))
                    have x_F1 := h_F1
                    rw [x_E1] at x_F1
                    obtain ⟨F2, h_F2⟩ : ∃ X, X = (F1.set (B.next) (.cells [.bool q.path, .bool false, .int .i64 (x.depth + 1 : Nat), .int .i64 q.src] (typedV 132) true)) := ⟨_, rfl⟩
                    have n_F2 : F2.next = F1.next + 0 := by rw [h_F2]; rfl
                    have w_F2 : Wf F2 := by rw [h_F2]; exact (fun b hb => by (simp only [AHeap.get_push, AHeap.get_set, AHeap.next_push, AHeap.next_set] at hb ⊢; repeat rw [if_neg (by omega)]); exact w_F1 b (by omega))
                    have s_F2_0 : F2.get (B.next) = some (.cells [.bool q.path, .bool false, .int .i64 (x.depth + 1 : Nat), .int .i64 q.src] (typedV 132) true) := by rw [h_F2]; exact (by (simp only [AHeap.get_push, AHeap.get_set, AHeap.next_push, AHeap.next_set, if_true]); repeat (first | rw [if_pos rfl] | rw [if_neg (by omega)]))
                    have x_F2 := h_F2
                    rw [x_F1] at x_F2
                    obtain ⟨F3, h_F3⟩ : ∃ X, X = (F2.set (B.next) (.cells [.bool q.path, .bool false, .int .i64 (x.depth + 1 : Nat), .int .i64 x.src] (typedV 132) true)) := ⟨_, rfl⟩
                    have n_F3 : F3.next = F2.next + 0 := by rw [h_F3]; rfl
                    have w_F3 : Wf F3 := by rw [h_F3]; exact (fun b hb => by (simp only [AHeap.get_push, AHeap.get_set, AHeap.next_push, AHeap.next_set] at hb ⊢; repeat rw [if_neg (by omega)]); exact w_F2 b (by omega))
                    have s_F3_0 : F3.get (B.next) = some (.cells [.bool q.path, .bool false, .int .i64 (x.depth + 1 : Nat), .int .i64 x.src] (typedV 132) true) := by rw [h_F3]; exact (by (simp only [AHeap.get_push, AHeap.get_set, AHeap.next_push, AHeap.next_set, if_true]); repeat (first | rw [if_pos rfl] | rw [if_neg (by omega)]))
                    have x_F3 := h_F3
                    rw [x_F2] at x_F3
                    have hst1 := store_ok (P := Try.prog) (t := 4) (o := 1) (v := .bool false) (by kernel_rfl) rfl rfl qE (by simp)
                    have hst2 := store_ok (P := Try.prog) (t := 3) (o := 2) (v := .int .i64 (x.depth + 1 : Nat)) (by kernel_rfl) rfl rfl s_F1_0 (by simp)
                    have r2 := cellAt_of s_F1_0 (o := 2) rfl
                    have y2 := cellAt_of (o := 2) (v := .int .i64 x.depth) (show F1.get H2.next = some (.cells x.cells (typedV 132) true) by rw [h_F1, AHeap.get_set, if_neg (by omega)]; exact g_E1_0) rfl
                    rw [x_E1] at hst1
                    rw [x_F1] at hst2 r2 y2
                    have hst3 := store_ok (P := Try.prog) (t := 3) (o := 3) (v := .int .i64 x.src) (by kernel_rfl) rfl rfl s_F2_0 (by simp)
                    have y3 := cellAt_of (o := 3) (v := .int .i64 x.src) (show F2.get H2.next = some (.cells x.cells (typedV 132) true) by rw [h_F2, AHeap.get_set, if_neg (by omega), h_F1, AHeap.get_set, if_neg (by omega)]; exact g_E1_0) rfl
                    rw [x_F2] at hst3 y3
                    have eL : Ext B F3 := by
                      refine ⟨by rw [n_F3, n_F2, n_F1, n_E1]; have := e2.next; omega, fun b hb => ?_⟩
                      rw [h_F3, AHeap.get_set, if_neg (by omega), h_F2, AHeap.get_set, if_neg (by omega), h_F1, AHeap.get_set, if_neg (by omega), o_E1 b (by have := e2.next; omega)]
                      exact e2.get b hb
                    have gL : F3.get B.next = some (.cells (partG s.k t A0 (kk + 1)).cells (typedV 132) true) := by
                      rw [s_F3_0]
                      simp only [partG, Pt.cells, hxk, Option.getD_some, ← hq]
                      first
                      | (congr 2; simp [hqp, hk0]; done)
                      | (congr 2; simp [hqp, hk0]; omega)
                    rw [x_F3] at eL gL w_F3
                    repeat' ((conv => whnf); first
                      | (refine Both.intro ?_ ?_ <;> intro _ <;> try (exfalso; omega))
                      | (refine Need.intro (by omega) ?_)
                      | (refine ⟨_, hcx, ?_⟩)
                      | (refine Gives.intro ⟨_, zPart, ?_⟩)
                      | (refine Outs.intro ⟨_, _, _, storeAgg_ok (vs := [.bool _, .bool _, .int .i64 _, .int .i64 _]) (by kernel_rfl) rfl (get_new _ _) rfl, ?_⟩)
                      | (refine ⟨_, r1, ?_⟩)
                      | (refine ⟨_, y1, ?_⟩)
                      | (refine Outs.intro ⟨_, _, _, hst1, ?_⟩)
                      | (refine ⟨_, r2, ?_⟩)
                      | (refine ⟨_, y2, ?_⟩)
                      | (refine Outs.intro ⟨_, _, _, hst2, ?_⟩)
                      | (refine ⟨_, y3, ?_⟩)
                      | (refine Outs.intro ⟨_, _, _, hst3, ?_⟩)
                      | fail)
                    all_goals (conv => whnf)
                    exact ⟨kk + 1, ⟨rfl, rfl, rfl, rfl, rfl, rfl, rfl, rfl, rfl, rfl, rfl, trivial⟩, ⟨by omega, eL, w_F3, gL⟩, by omega⟩
                  · rw [hqp] at r1
                    rw [Pt.cells, hqp] at qE
                    obtain ⟨F1, h_F1⟩ : ∃ X, X = (E1.set (B.next) (.cells [.bool q.path, .bool x.plain, .int .i64 q.depth, .int .i64 q.src] (typedV 132) true)) := ⟨_, rfl⟩
                    have n_F1 : F1.next = E1.next + 0 := by rw [h_F1]; rfl
                    have w_F1 : Wf F1 := by rw [h_F1]; exact (fun b hb => by (simp only [AHeap.get_push, AHeap.get_set, AHeap.next_push, AHeap.next_set] at hb ⊢; repeat rw [if_neg (by omega)]); exact w_E1 b (by omega))
                    have s_F1_0 : F1.get (B.next) = some (.cells [.bool q.path, .bool x.plain, .int .i64 q.depth, .int .i64 q.src] (typedV 132) true) := by rw [h_F1]; exact (by (simp only [AHeap.get_push, AHeap.get_set, AHeap.next_push, AHeap.next_set, if_true]); repeat (first | rw [if_pos rfl] | rw [if_neg (by omega)]))
                    have x_F1 := h_F1
                    rw [x_E1] at x_F1
                    obtain ⟨F2, h_F2⟩ : ∃ X, X = (F1.set (B.next) (.cells [.bool q.path, .bool x.plain, .int .i64 (x.depth + 1 : Nat), .int .i64 q.src] (typedV 132) true)) := ⟨_, rfl⟩
                    have n_F2 : F2.next = F1.next + 0 := by rw [h_F2]; rfl
                    have w_F2 : Wf F2 := by rw [h_F2]; exact (fun b hb => by (simp only [AHeap.get_push, AHeap.get_set, AHeap.next_push, AHeap.next_set] at hb ⊢; repeat rw [if_neg (by omega)]); exact w_F1 b (by omega))
                    have s_F2_0 : F2.get (B.next) = some (.cells [.bool q.path, .bool x.plain, .int .i64 (x.depth + 1 : Nat), .int .i64 q.src] (typedV 132) true) := by rw [h_F2]; exact (by (simp only [AHeap.get_push, AHeap.get_set, AHeap.next_push, AHeap.next_set, if_true]); repeat (first | rw [if_pos rfl] | rw [if_neg (by omega)]))
                    have x_F2 := h_F2
                    rw [x_F1] at x_F2
                    obtain ⟨F3, h_F3⟩ : ∃ X, X = (F2.set (B.next) (.cells [.bool q.path, .bool x.plain, .int .i64 (x.depth + 1 : Nat), .int .i64 x.src] (typedV 132) true)) := ⟨_, rfl⟩
                    have n_F3 : F3.next = F2.next + 0 := by rw [h_F3]; rfl
                    have w_F3 : Wf F3 := by rw [h_F3]; exact (fun b hb => by (simp only [AHeap.get_push, AHeap.get_set, AHeap.next_push, AHeap.next_set] at hb ⊢; repeat rw [if_neg (by omega)]); exact w_F2 b (by omega))
                    have s_F3_0 : F3.get (B.next) = some (.cells [.bool q.path, .bool x.plain, .int .i64 (x.depth + 1 : Nat), .int .i64 x.src] (typedV 132) true) := by rw [h_F3]; exact (by (simp only [AHeap.get_push, AHeap.get_set, AHeap.next_push, AHeap.next_set, if_true]); repeat (first | rw [if_pos rfl] | rw [if_neg (by omega)]))
                    have x_F3 := h_F3
                    rw [x_F2] at x_F3
                    have hst1 := store_ok (P := Try.prog) (t := 4) (o := 1) (v := .bool x.plain) (by kernel_rfl) rfl rfl qE (by simp)
                    have hst2 := store_ok (P := Try.prog) (t := 3) (o := 2) (v := .int .i64 (x.depth + 1 : Nat)) (by kernel_rfl) rfl rfl s_F1_0 (by simp)
                    have r2 := cellAt_of s_F1_0 (o := 2) rfl
                    have y2 := cellAt_of (o := 2) (v := .int .i64 x.depth) (show F1.get H2.next = some (.cells x.cells (typedV 132) true) by rw [h_F1, AHeap.get_set, if_neg (by omega)]; exact g_E1_0) rfl
                    rw [x_E1] at hst1
                    rw [x_F1] at hst2 r2 y2
                    have hst3 := store_ok (P := Try.prog) (t := 3) (o := 3) (v := .int .i64 x.src) (by kernel_rfl) rfl rfl s_F2_0 (by simp)
                    have y3 := cellAt_of (o := 3) (v := .int .i64 x.src) (show F2.get H2.next = some (.cells x.cells (typedV 132) true) by rw [h_F2, AHeap.get_set, if_neg (by omega), h_F1, AHeap.get_set, if_neg (by omega)]; exact g_E1_0) rfl
                    rw [x_F2] at hst3 y3
                    have eL : Ext B F3 := by
                      refine ⟨by rw [n_F3, n_F2, n_F1, n_E1]; have := e2.next; omega, fun b hb => ?_⟩
                      rw [h_F3, AHeap.get_set, if_neg (by omega), h_F2, AHeap.get_set, if_neg (by omega), h_F1, AHeap.get_set, if_neg (by omega), o_E1 b (by have := e2.next; omega)]
                      exact e2.get b hb
                    have gL : F3.get B.next = some (.cells (partG s.k t A0 (kk + 1)).cells (typedV 132) true) := by
                      rw [s_F3_0]
                      simp only [partG, Pt.cells, hxk, Option.getD_some, ← hq]
                      first
                      | (congr 2; simp [hqp, hk0]; done)
                      | (congr 2; simp [hqp, hk0]; omega)
                    rw [x_F3] at eL gL w_F3
                    repeat' ((conv => whnf); first
                      | (refine Both.intro ?_ ?_ <;> intro _ <;> try (exfalso; omega))
                      | (refine Need.intro (by omega) ?_)
                      | (refine ⟨_, hcx, ?_⟩)
                      | (refine Gives.intro ⟨_, zPart, ?_⟩)
                      | (refine Outs.intro ⟨_, _, _, storeAgg_ok (vs := [.bool _, .bool _, .int .i64 _, .int .i64 _]) (by kernel_rfl) rfl (get_new _ _) rfl, ?_⟩)
                      | (refine ⟨_, r1, ?_⟩)
                      | (refine ⟨_, y1, ?_⟩)
                      | (refine Outs.intro ⟨_, _, _, hst1, ?_⟩)
                      | (refine ⟨_, r2, ?_⟩)
                      | (refine ⟨_, y2, ?_⟩)
                      | (refine Outs.intro ⟨_, _, _, hst2, ?_⟩)
                      | (refine ⟨_, y3, ?_⟩)
                      | (refine Outs.intro ⟨_, _, _, hst3, ?_⟩)
                      | fail)
                    all_goals (conv => whnf)
                    exact ⟨kk + 1, ⟨rfl, rfl, rfl, rfl, rfl, rfl, rfl, rfl, rfl, rfl, rfl, trivial⟩, ⟨by omega, eL, w_F3, gL⟩, by omega⟩
                · cases hqp : q.plain
                  · rw [hqp] at r1
                    rw [Pt.cells, hqp] at qE
                    obtain ⟨F1, h_F1⟩ : ∃ X, X = (E1.set (B.next) (.cells [.bool q.path, .bool false, .int .i64 q.depth, .int .i64 q.src] (typedV 132) true)) := ⟨_, rfl⟩
                    have n_F1 : F1.next = E1.next + 0 := by rw [h_F1]; rfl
                    have w_F1 : Wf F1 := by rw [h_F1]; exact (fun b hb => by (simp only [AHeap.get_push, AHeap.get_set, AHeap.next_push, AHeap.next_set] at hb ⊢; repeat rw [if_neg (by omega)]); exact w_E1 b (by omega))
                    have s_F1_0 : F1.get (B.next) = some (.cells [.bool q.path, .bool false, .int .i64 q.depth, .int .i64 q.src] (typedV 132) true) := by rw [h_F1]; exact (by (simp only [AHeap.get_push, AHeap.get_set, AHeap.next_push, AHeap.next_set, if_true]); repeat (first | rw [if_pos rfl] | rw [if_neg (by omega)]))
                    have x_F1 := h_F1
                    rw [x_E1] at x_F1
                    obtain ⟨F2, h_F2⟩ : ∃ X, X = (F1.set (B.next) (.cells [.bool q.path, .bool false, .int .i64 q.depth, .int .i64 q.src] (typedV 132) true)) := ⟨_, rfl⟩
                    have n_F2 : F2.next = F1.next + 0 := by rw [h_F2]; rfl
                    have w_F2 : Wf F2 := by rw [h_F2]; exact (fun b hb => by (simp only [AHeap.get_push, AHeap.get_set, AHeap.next_push, AHeap.next_set] at hb ⊢; repeat rw [if_neg (by omega)]); exact w_F1 b (by omega))
                    have s_F2_0 : F2.get (B.next) = some (.cells [.bool q.path, .bool false, .int .i64 q.depth, .int .i64 q.src] (typedV 132) true) := by rw [h_F2]; exact (by (simp only [AHeap.get_push, AHeap.get_set, AHeap.next_push, AHeap.next_set, if_true]); repeat (first | rw [if_pos rfl] | rw [if_neg (by omega)]))
                    have x_F2 := h_F2
                    rw [x_F1] at x_F2
                    obtain ⟨F3, h_F3⟩ : ∃ X, X = (F2.set (B.next) (.cells [.bool q.path, .bool false, .int .i64 q.depth, .int .i64 x.src] (typedV 132) true)) := ⟨_, rfl⟩
                    have n_F3 : F3.next = F2.next + 0 := by rw [h_F3]; rfl
                    have w_F3 : Wf F3 := by rw [h_F3]; exact (fun b hb => by (simp only [AHeap.get_push, AHeap.get_set, AHeap.next_push, AHeap.next_set] at hb ⊢; repeat rw [if_neg (by omega)]); exact w_F2 b (by omega))
                    have s_F3_0 : F3.get (B.next) = some (.cells [.bool q.path, .bool false, .int .i64 q.depth, .int .i64 x.src] (typedV 132) true) := by rw [h_F3]; exact (by (simp only [AHeap.get_push, AHeap.get_set, AHeap.next_push, AHeap.next_set, if_true]); repeat (first | rw [if_pos rfl] | rw [if_neg (by omega)]))
                    have x_F3 := h_F3
                    rw [x_F2] at x_F3
                    have hst1 := store_ok (P := Try.prog) (t := 4) (o := 1) (v := .bool false) (by kernel_rfl) rfl rfl qE (by simp)
                    have hst2 := store_ok (P := Try.prog) (t := 3) (o := 2) (v := .int .i64 q.depth) (by kernel_rfl) rfl rfl s_F1_0 (by simp)
                    have r2 := cellAt_of s_F1_0 (o := 2) rfl
                    have y2 := cellAt_of (o := 2) (v := .int .i64 x.depth) (show F1.get H2.next = some (.cells x.cells (typedV 132) true) by rw [h_F1, AHeap.get_set, if_neg (by omega)]; exact g_E1_0) rfl
                    rw [x_E1] at hst1
                    rw [x_F1] at hst2 r2 y2
                    have hst3 := store_ok (P := Try.prog) (t := 3) (o := 3) (v := .int .i64 x.src) (by kernel_rfl) rfl rfl s_F2_0 (by simp)
                    have y3 := cellAt_of (o := 3) (v := .int .i64 x.src) (show F2.get H2.next = some (.cells x.cells (typedV 132) true) by rw [h_F2, AHeap.get_set, if_neg (by omega), h_F1, AHeap.get_set, if_neg (by omega)]; exact g_E1_0) rfl
                    rw [x_F2] at hst3 y3
                    have eL : Ext B F3 := by
                      refine ⟨by rw [n_F3, n_F2, n_F1, n_E1]; have := e2.next; omega, fun b hb => ?_⟩
                      rw [h_F3, AHeap.get_set, if_neg (by omega), h_F2, AHeap.get_set, if_neg (by omega), h_F1, AHeap.get_set, if_neg (by omega), o_E1 b (by have := e2.next; omega)]
                      exact e2.get b hb
                    have gL : F3.get B.next = some (.cells (partG s.k t A0 (kk + 1)).cells (typedV 132) true) := by
                      rw [s_F3_0]
                      simp only [partG, Pt.cells, hxk, Option.getD_some, ← hq]
                      first
                      | (congr 2; simp [hqp, hk0]; done)
                      | (congr 2; simp [hqp, hk0]; omega)
                    rw [x_F3] at eL gL w_F3
                    repeat' ((conv => whnf); first
                      | (refine Both.intro ?_ ?_ <;> intro _ <;> try (exfalso; omega))
                      | (refine Need.intro (by omega) ?_)
                      | (refine ⟨_, hcx, ?_⟩)
                      | (refine Gives.intro ⟨_, zPart, ?_⟩)
                      | (refine Outs.intro ⟨_, _, _, storeAgg_ok (vs := [.bool _, .bool _, .int .i64 _, .int .i64 _]) (by kernel_rfl) rfl (get_new _ _) rfl, ?_⟩)
                      | (refine ⟨_, r1, ?_⟩)
                      | (refine ⟨_, y1, ?_⟩)
                      | (refine Outs.intro ⟨_, _, _, hst1, ?_⟩)
                      | (refine ⟨_, r2, ?_⟩)
                      | (refine ⟨_, y2, ?_⟩)
                      | (refine Outs.intro ⟨_, _, _, hst2, ?_⟩)
                      | (refine ⟨_, y3, ?_⟩)
                      | (refine Outs.intro ⟨_, _, _, hst3, ?_⟩)
                      | fail)
                    all_goals (conv => whnf)
                    exact ⟨kk + 1, ⟨rfl, rfl, rfl, rfl, rfl, rfl, rfl, rfl, rfl, rfl, rfl, trivial⟩, ⟨by omega, eL, w_F3, gL⟩, by omega⟩
                  · rw [hqp] at r1
                    rw [Pt.cells, hqp] at qE
                    obtain ⟨F1, h_F1⟩ : ∃ X, X = (E1.set (B.next) (.cells [.bool q.path, .bool x.plain, .int .i64 q.depth, .int .i64 q.src] (typedV 132) true)) := ⟨_, rfl⟩
                    have n_F1 : F1.next = E1.next + 0 := by rw [h_F1]; rfl
                    have w_F1 : Wf F1 := by rw [h_F1]; exact (fun b hb => by (simp only [AHeap.get_push, AHeap.get_set, AHeap.next_push, AHeap.next_set] at hb ⊢; repeat rw [if_neg (by omega)]); exact w_E1 b (by omega))
                    have s_F1_0 : F1.get (B.next) = some (.cells [.bool q.path, .bool x.plain, .int .i64 q.depth, .int .i64 q.src] (typedV 132) true) := by rw [h_F1]; exact (by (simp only [AHeap.get_push, AHeap.get_set, AHeap.next_push, AHeap.next_set, if_true]); repeat (first | rw [if_pos rfl] | rw [if_neg (by omega)]))
                    have x_F1 := h_F1
                    rw [x_E1] at x_F1
                    obtain ⟨F2, h_F2⟩ : ∃ X, X = (F1.set (B.next) (.cells [.bool q.path, .bool x.plain, .int .i64 q.depth, .int .i64 q.src] (typedV 132) true)) := ⟨_, rfl⟩
                    have n_F2 : F2.next = F1.next + 0 := by rw [h_F2]; rfl
                    have w_F2 : Wf F2 := by rw [h_F2]; exact (fun b hb => by (simp only [AHeap.get_push, AHeap.get_set, AHeap.next_push, AHeap.next_set] at hb ⊢; repeat rw [if_neg (by omega)]); exact w_F1 b (by omega))
                    have s_F2_0 : F2.get (B.next) = some (.cells [.bool q.path, .bool x.plain, .int .i64 q.depth, .int .i64 q.src] (typedV 132) true) := by rw [h_F2]; exact (by (simp only [AHeap.get_push, AHeap.get_set, AHeap.next_push, AHeap.next_set, if_true]); repeat (first | rw [if_pos rfl] | rw [if_neg (by omega)]))
                    have x_F2 := h_F2
                    rw [x_F1] at x_F2
                    obtain ⟨F3, h_F3⟩ : ∃ X, X = (F2.set (B.next) (.cells [.bool q.path, .bool x.plain, .int .i64 q.depth, .int .i64 x.src] (typedV 132) true)) := ⟨_, rfl⟩
                    have n_F3 : F3.next = F2.next + 0 := by rw [h_F3]; rfl
                    have w_F3 : Wf F3 := by rw [h_F3]; exact (fun b hb => by (simp only [AHeap.get_push, AHeap.get_set, AHeap.next_push, AHeap.next_set] at hb ⊢; repeat rw [if_neg (by omega)]); exact w_F2 b (by omega))
                    have s_F3_0 : F3.get (B.next) = some (.cells [.bool q.path, .bool x.plain, .int .i64 q.depth, .int .i64 x.src] (typedV 132) true) := by rw [h_F3]; exact (by (simp only [AHeap.get_push, AHeap.get_set, AHeap.next_push, AHeap.next_set, if_true]); repeat (first | rw [if_pos rfl] | rw [if_neg (by omega)]))
                    have x_F3 := h_F3
                    rw [x_F2] at x_F3
                    have hst1 := store_ok (P := Try.prog) (t := 4) (o := 1) (v := .bool x.plain) (by kernel_rfl) rfl rfl qE (by simp)
                    have hst2 := store_ok (P := Try.prog) (t := 3) (o := 2) (v := .int .i64 q.depth) (by kernel_rfl) rfl rfl s_F1_0 (by simp)
                    have r2 := cellAt_of s_F1_0 (o := 2) rfl
                    have y2 := cellAt_of (o := 2) (v := .int .i64 x.depth) (show F1.get H2.next = some (.cells x.cells (typedV 132) true) by rw [h_F1, AHeap.get_set, if_neg (by omega)]; exact g_E1_0) rfl
                    rw [x_E1] at hst1
                    rw [x_F1] at hst2 r2 y2
                    have hst3 := store_ok (P := Try.prog) (t := 3) (o := 3) (v := .int .i64 x.src) (by kernel_rfl) rfl rfl s_F2_0 (by simp)
                    have y3 := cellAt_of (o := 3) (v := .int .i64 x.src) (show F2.get H2.next = some (.cells x.cells (typedV 132) true) by rw [h_F2, AHeap.get_set, if_neg (by omega), h_F1, AHeap.get_set, if_neg (by omega)]; exact g_E1_0) rfl
                    rw [x_F2] at hst3 y3
                    have eL : Ext B F3 := by
                      refine ⟨by rw [n_F3, n_F2, n_F1, n_E1]; have := e2.next; omega, fun b hb => ?_⟩
                      rw [h_F3, AHeap.get_set, if_neg (by omega), h_F2, AHeap.get_set, if_neg (by omega), h_F1, AHeap.get_set, if_neg (by omega), o_E1 b (by have := e2.next; omega)]
                      exact e2.get b hb
                    have gL : F3.get B.next = some (.cells (partG s.k t A0 (kk + 1)).cells (typedV 132) true) := by
                      rw [s_F3_0]
                      simp only [partG, Pt.cells, hxk, Option.getD_some, ← hq]
                      first
                      | (congr 2; simp [hqp, hk0]; done)
                      | (congr 2; simp [hqp, hk0]; omega)
                    rw [x_F3] at eL gL w_F3
                    repeat' ((conv => whnf); first
                      | (refine Both.intro ?_ ?_ <;> intro _ <;> try (exfalso; omega))
                      | (refine Need.intro (by omega) ?_)
                      | (refine ⟨_, hcx, ?_⟩)
                      | (refine Gives.intro ⟨_, zPart, ?_⟩)
                      | (refine Outs.intro ⟨_, _, _, storeAgg_ok (vs := [.bool _, .bool _, .int .i64 _, .int .i64 _]) (by kernel_rfl) rfl (get_new _ _) rfl, ?_⟩)
                      | (refine ⟨_, r1, ?_⟩)
                      | (refine ⟨_, y1, ?_⟩)
                      | (refine Outs.intro ⟨_, _, _, hst1, ?_⟩)
                      | (refine ⟨_, r2, ?_⟩)
                      | (refine ⟨_, y2, ?_⟩)
                      | (refine Outs.intro ⟨_, _, _, hst2, ?_⟩)
                      | (refine ⟨_, y3, ?_⟩)
                      | (refine Outs.intro ⟨_, _, _, hst3, ?_⟩)
                      | fail)
                    all_goals (conv => whnf)
                    exact ⟨kk + 1, ⟨rfl, rfl, rfl, rfl, rfl, rfl, rfl, rfl, rfl, rfl, rfl, trivial⟩, ⟨by omega, eL, w_F3, gL⟩, by omega⟩
              · by_cases hmx : q.depth < x.depth + 1
                · cases hqp : q.plain
                  · rw [hqp] at r1
                    rw [Pt.cells, hqp] at qE
                    obtain ⟨F1, h_F1⟩ : ∃ X, X = (E1.set (B.next) (.cells [.bool q.path, .bool false, .int .i64 q.depth, .int .i64 q.src] (typedV 132) true)) := ⟨_, rfl⟩
                    have n_F1 : F1.next = E1.next + 0 := by rw [h_F1]; rfl
                    have w_F1 : Wf F1 := by rw [h_F1]; exact (fun b hb => by (simp only [AHeap.get_push, AHeap.get_set, AHeap.next_push, AHeap.next_set] at hb ⊢; repeat rw [if_neg (by omega)]); exact w_E1 b (by omega))
                    have s_F1_0 : F1.get (B.next) = some (.cells [.bool q.path, .bool false, .int .i64 q.depth, .int .i64 q.src] (typedV 132) true) := by rw [h_F1]; exact (by (simp only [AHeap.get_push, AHeap.get_set, AHeap.next_push, AHeap.next_set, if_true]); repeat (first | rw [if_pos rfl] | rw [if_neg (by omega)]))
                    have x_F1 := h_F1
                    rw [x_E1] at x_F1
                    obtain ⟨F2, h_F2⟩ : ∃ X, X = (F1.set (B.next) (.cells [.bool q.path, .bool false, .int .i64 (x.depth + 1 : Nat), .int .i64 q.src] (typedV 132) true)) := ⟨_, rfl⟩
                    have n_F2 : F2.next = F1.next + 0 := by rw [h_F2]; rfl
                    have w_F2 : Wf F2 := by rw [h_F2]; exact (fun b hb => by (simp only [AHeap.get_push, AHeap.get_set, AHeap.next_push, AHeap.next_set] at hb ⊢; repeat rw [if_neg (by omega)]); exact w_F1 b (by omega))
                    have s_F2_0 : F2.get (B.next) = some (.cells [.bool q.path, .bool false, .int .i64 (x.depth + 1 : Nat), .int .i64 q.src] (typedV 132) true) := by rw [h_F2]; exact (by (simp only [AHeap.get_push, AHeap.get_set, AHeap.next_push, AHeap.next_set, if_true]); repeat (first | rw [if_pos rfl] | rw [if_neg (by omega)]))
                    have x_F2 := h_F2
                    rw [x_F1] at x_F2
                    have hst1 := store_ok (P := Try.prog) (t := 4) (o := 1) (v := .bool false) (by kernel_rfl) rfl rfl qE (by simp)
                    have hst2 := store_ok (P := Try.prog) (t := 3) (o := 2) (v := .int .i64 (x.depth + 1 : Nat)) (by kernel_rfl) rfl rfl s_F1_0 (by simp)
                    have r2 := cellAt_of s_F1_0 (o := 2) rfl
                    have y2 := cellAt_of (o := 2) (v := .int .i64 x.depth) (show F1.get H2.next = some (.cells x.cells (typedV 132) true) by rw [h_F1, AHeap.get_set, if_neg (by omega)]; exact g_E1_0) rfl
                    rw [x_E1] at hst1
                    rw [x_F1] at hst2 r2 y2
                    have eL : Ext B F2 := by
                      refine ⟨by rw [n_F2, n_F1, n_E1]; have := e2.next; omega, fun b hb => ?_⟩
                      rw [h_F2, AHeap.get_set, if_neg (by omega), h_F1, AHeap.get_set, if_neg (by omega), o_E1 b (by have := e2.next; omega)]
                      exact e2.get b hb
                    have gL : F2.get B.next = some (.cells (partG s.k t A0 (kk + 1)).cells (typedV 132) true) := by
                      rw [s_F2_0]
                      simp only [partG, Pt.cells, hxk, Option.getD_some, ← hq]
                      first
                      | (congr 2; simp [hqp, hk0]; done)
                      | (congr 2; simp [hqp, hk0]; omega)
                    rw [x_F2] at eL gL w_F2
                    repeat' ((conv => whnf); first
                      | (refine Both.intro ?_ ?_ <;> intro _ <;> try (exfalso; omega))
                      | (refine Need.intro (by omega) ?_)
                      | (refine ⟨_, hcx, ?_⟩)
                      | (refine Gives.intro ⟨_, zPart, ?_⟩)
                      | (refine Outs.intro ⟨_, _, _, storeAgg_ok (vs := [.bool _, .bool _, .int .i64 _, .int .i64 _]) (by kernel_rfl) rfl (get_new _ _) rfl, ?_⟩)
                      | (refine ⟨_, r1, ?_⟩)
                      | (refine ⟨_, y1, ?_⟩)
                      | (refine Outs.intro ⟨_, _, _, hst1, ?_⟩)
                      | (refine ⟨_, r2, ?_⟩)
                      | (refine ⟨_, y2, ?_⟩)
                      | (refine Outs.intro ⟨_, _, _, hst2, ?_⟩)
                      | fail)
                    all_goals (conv => whnf)
                    exact ⟨kk + 1, ⟨rfl, rfl, rfl, rfl, rfl, rfl, rfl, rfl, rfl, rfl, rfl, trivial⟩, ⟨by omega, eL, w_F2, gL⟩, by omega⟩
                  · rw [hqp] at r1
                    rw [Pt.cells, hqp] at qE
                    obtain ⟨F1, h_F1⟩ : ∃ X, X = (E1.set (B.next) (.cells [.bool q.path, .bool x.plain, .int .i64 q.depth, .int .i64 q.src] (typedV 132) true)) := ⟨_, rfl⟩
                    have n_F1 : F1.next = E1.next + 0 := by rw [h_F1]; rfl
                    have w_F1 : Wf F1 := by rw [h_F1]; exact (fun b hb => by (simp only [AHeap.get_push, AHeap.get_set, AHeap.next_push, AHeap.next_set] at hb ⊢; repeat rw [if_neg (by omega)]); exact w_E1 b (by omega))
                    have s_F1_0 : F1.get (B.next) = some (.cells [.bool q.path, .bool x.plain, .int .i64 q.depth, .int .i64 q.src] (typedV 132) true) := by rw [h_F1]; exact (by (simp only [AHeap.get_push, AHeap.get_set, AHeap.next_push, AHeap.next_set, if_true]); repeat (first | rw [if_pos rfl] | rw [if_neg (by omega)]))
                    have x_F1 := h_F1
                    rw [x_E1] at x_F1
                    obtain ⟨F2, h_F2⟩ : ∃ X, X = (F1.set (B.next) (.cells [.bool q.path, .bool x.plain, .int .i64 (x.depth + 1 : Nat), .int .i64 q.src] (typedV 132) true)) := ⟨_, rfl⟩
                    have n_F2 : F2.next = F1.next + 0 := by rw [h_F2]; rfl
                    have w_F2 : Wf F2 := by rw [h_F2]; exact (fun b hb => by (simp only [AHeap.get_push, AHeap.get_set, AHeap.next_push, AHeap.next_set] at hb ⊢; repeat rw [if_neg (by omega)]); exact w_F1 b (by omega))
                    have s_F2_0 : F2.get (B.next) = some (.cells [.bool q.path, .bool x.plain, .int .i64 (x.depth + 1 : Nat), .int .i64 q.src] (typedV 132) true) := by rw [h_F2]; exact (by (simp only [AHeap.get_push, AHeap.get_set, AHeap.next_push, AHeap.next_set, if_true]); repeat (first | rw [if_pos rfl] | rw [if_neg (by omega)]))
                    have x_F2 := h_F2
                    rw [x_F1] at x_F2
                    have hst1 := store_ok (P := Try.prog) (t := 4) (o := 1) (v := .bool x.plain) (by kernel_rfl) rfl rfl qE (by simp)
                    have hst2 := store_ok (P := Try.prog) (t := 3) (o := 2) (v := .int .i64 (x.depth + 1 : Nat)) (by kernel_rfl) rfl rfl s_F1_0 (by simp)
                    have r2 := cellAt_of s_F1_0 (o := 2) rfl
                    have y2 := cellAt_of (o := 2) (v := .int .i64 x.depth) (show F1.get H2.next = some (.cells x.cells (typedV 132) true) by rw [h_F1, AHeap.get_set, if_neg (by omega)]; exact g_E1_0) rfl
                    rw [x_E1] at hst1
                    rw [x_F1] at hst2 r2 y2
                    have eL : Ext B F2 := by
                      refine ⟨by rw [n_F2, n_F1, n_E1]; have := e2.next; omega, fun b hb => ?_⟩
                      rw [h_F2, AHeap.get_set, if_neg (by omega), h_F1, AHeap.get_set, if_neg (by omega), o_E1 b (by have := e2.next; omega)]
                      exact e2.get b hb
                    have gL : F2.get B.next = some (.cells (partG s.k t A0 (kk + 1)).cells (typedV 132) true) := by
                      rw [s_F2_0]
                      simp only [partG, Pt.cells, hxk, Option.getD_some, ← hq]
                      first
                      | (congr 2; simp [hqp, hk0]; done)
                      | (congr 2; simp [hqp, hk0]; omega)
                    rw [x_F2] at eL gL w_F2
                    repeat' ((conv => whnf); first
                      | (refine Both.intro ?_ ?_ <;> intro _ <;> try (exfalso; omega))
                      | (refine Need.intro (by omega) ?_)
                      | (refine ⟨_, hcx, ?_⟩)
                      | (refine Gives.intro ⟨_, zPart, ?_⟩)
                      | (refine Outs.intro ⟨_, _, _, storeAgg_ok (vs := [.bool _, .bool _, .int .i64 _, .int .i64 _]) (by kernel_rfl) rfl (get_new _ _) rfl, ?_⟩)
                      | (refine ⟨_, r1, ?_⟩)
                      | (refine ⟨_, y1, ?_⟩)
                      | (refine Outs.intro ⟨_, _, _, hst1, ?_⟩)
                      | (refine ⟨_, r2, ?_⟩)
                      | (refine ⟨_, y2, ?_⟩)
                      | (refine Outs.intro ⟨_, _, _, hst2, ?_⟩)
                      | fail)
                    all_goals (conv => whnf)
                    exact ⟨kk + 1, ⟨rfl, rfl, rfl, rfl, rfl, rfl, rfl, rfl, rfl, rfl, rfl, trivial⟩, ⟨by omega, eL, w_F2, gL⟩, by omega⟩
                · cases hqp : q.plain
                  · rw [hqp] at r1
                    rw [Pt.cells, hqp] at qE
                    obtain ⟨F1, h_F1⟩ : ∃ X, X = (E1.set (B.next) (.cells [.bool q.path, .bool false, .int .i64 q.depth, .int .i64 q.src] (typedV 132) true)) := ⟨_, rfl⟩
                    have n_F1 : F1.next = E1.next + 0 := by rw [h_F1]; rfl
                    have w_F1 : Wf F1 := by rw [h_F1]; exact (fun b hb => by (simp only [AHeap.get_push, AHeap.get_set, AHeap.next_push, AHeap.next_set] at hb ⊢; repeat rw [if_neg (by omega)]); exact w_E1 b (by omega))
                    have s_F1_0 : F1.get (B.next) = some (.cells [.bool q.path, .bool false, .int .i64 q.depth, .int .i64 q.src] (typedV 132) true) := by rw [h_F1]; exact (by (simp only [AHeap.get_push, AHeap.get_set, AHeap.next_push, AHeap.next_set, if_true]); repeat (first | rw [if_pos rfl] | rw [if_neg (by omega)]))
                    have x_F1 := h_F1
                    rw [x_E1] at x_F1
                    obtain ⟨F2, h_F2⟩ : ∃ X, X = (F1.set (B.next) (.cells [.bool q.path, .bool false, .int .i64 q.depth, .int .i64 q.src] (typedV 132) true)) := ⟨_, rfl⟩
                    have n_F2 : F2.next = F1.next + 0 := by rw [h_F2]; rfl
                    have w_F2 : Wf F2 := by rw [h_F2]; exact (fun b hb => by (simp only [AHeap.get_push, AHeap.get_set, AHeap.next_push, AHeap.next_set] at hb ⊢; repeat rw [if_neg (by omega)]); exact w_F1 b (by omega))
                    have s_F2_0 : F2.get (B.next) = some (.cells [.bool q.path, .bool false, .int .i64 q.depth, .int .i64 q.src] (typedV 132) true) := by rw [h_F2]; exact (by (simp only [AHeap.get_push, AHeap.get_set, AHeap.next_push, AHeap.next_set, if_true]); repeat (first | rw [if_pos rfl] | rw [if_neg (by omega)]))
                    have x_F2 := h_F2
                    rw [x_F1] at x_F2
                    have hst1 := store_ok (P := Try.prog) (t := 4) (o := 1) (v := .bool false) (by kernel_rfl) rfl rfl qE (by simp)
                    have hst2 := store_ok (P := Try.prog) (t := 3) (o := 2) (v := .int .i64 q.depth) (by kernel_rfl) rfl rfl s_F1_0 (by simp)
                    have r2 := cellAt_of s_F1_0 (o := 2) rfl
                    have y2 := cellAt_of (o := 2) (v := .int .i64 x.depth) (show F1.get H2.next = some (.cells x.cells (typedV 132) true) by rw [h_F1, AHeap.get_set, if_neg (by omega)]; exact g_E1_0) rfl
                    rw [x_E1] at hst1
                    rw [x_F1] at hst2 r2 y2
                    have eL : Ext B F2 := by
                      refine ⟨by rw [n_F2, n_F1, n_E1]; have := e2.next; omega, fun b hb => ?_⟩
                      rw [h_F2, AHeap.get_set, if_neg (by omega), h_F1, AHeap.get_set, if_neg (by omega), o_E1 b (by have := e2.next; omega)]
                      exact e2.get b hb
                    have gL : F2.get B.next = some (.cells (partG s.k t A0 (kk + 1)).cells (typedV 132) true) := by
                      rw [s_F2_0]
                      simp only [partG, Pt.cells, hxk, Option.getD_some, ← hq]
                      first
                      | (congr 2; simp [hqp, hk0]; done)
                      | (congr 2; simp [hqp, hk0]; omega)
                    rw [x_F2] at eL gL w_F2
                    repeat' ((conv => whnf); first
                      | (refine Both.intro ?_ ?_ <;> intro _ <;> try (exfalso; omega))
                      | (refine Need.intro (by omega) ?_)
                      | (refine ⟨_, hcx, ?_⟩)
                      | (refine Gives.intro ⟨_, zPart, ?_⟩)
                      | (refine Outs.intro ⟨_, _, _, storeAgg_ok (vs := [.bool _, .bool _, .int .i64 _, .int .i64 _]) (by kernel_rfl) rfl (get_new _ _) rfl, ?_⟩)
                      | (refine ⟨_, r1, ?_⟩)
                      | (refine ⟨_, y1, ?_⟩)
                      | (refine Outs.intro ⟨_, _, _, hst1, ?_⟩)
                      | (refine ⟨_, r2, ?_⟩)
                      | (refine ⟨_, y2, ?_⟩)
                      | (refine Outs.intro ⟨_, _, _, hst2, ?_⟩)
                      | fail)
                    all_goals (conv => whnf)
                    exact ⟨kk + 1, ⟨rfl, rfl, rfl, rfl, rfl, rfl, rfl, rfl, rfl, rfl, rfl, trivial⟩, ⟨by omega, eL, w_F2, gL⟩, by omega⟩
                  · rw [hqp] at r1
                    rw [Pt.cells, hqp] at qE
                    obtain ⟨F1, h_F1⟩ : ∃ X, X = (E1.set (B.next) (.cells [.bool q.path, .bool x.plain, .int .i64 q.depth, .int .i64 q.src] (typedV 132) true)) := ⟨_, rfl⟩
                    have n_F1 : F1.next = E1.next + 0 := by rw [h_F1]; rfl
                    have w_F1 : Wf F1 := by rw [h_F1]; exact (fun b hb => by (simp only [AHeap.get_push, AHeap.get_set, AHeap.next_push, AHeap.next_set] at hb ⊢; repeat rw [if_neg (by omega)]); exact w_E1 b (by omega))
                    have s_F1_0 : F1.get (B.next) = some (.cells [.bool q.path, .bool x.plain, .int .i64 q.depth, .int .i64 q.src] (typedV 132) true) := by rw [h_F1]; exact (by (simp only [AHeap.get_push, AHeap.get_set, AHeap.next_push, AHeap.next_set, if_true]); repeat (first | rw [if_pos rfl] | rw [if_neg (by omega)]))
                    have x_F1 := h_F1
                    rw [x_E1] at x_F1
                    obtain ⟨F2, h_F2⟩ : ∃ X, X = (F1.set (B.next) (.cells [.bool q.path, .bool x.plain, .int .i64 q.depth, .int .i64 q.src] (typedV 132) true)) := ⟨_, rfl⟩
                    have n_F2 : F2.next = F1.next + 0 := by rw [h_F2]; rfl
                    have w_F2 : Wf F2 := by rw [h_F2]; exact (fun b hb => by (simp only [AHeap.get_push, AHeap.get_set, AHeap.next_push, AHeap.next_set] at hb ⊢; repeat rw [if_neg (by omega)]); exact w_F1 b (by omega))
                    have s_F2_0 : F2.get (B.next) = some (.cells [.bool q.path, .bool x.plain, .int .i64 q.depth, .int .i64 q.src] (typedV 132) true) := by rw [h_F2]; exact (by (simp only [AHeap.get_push, AHeap.get_set, AHeap.next_push, AHeap.next_set, if_true]); repeat (first | rw [if_pos rfl] | rw [if_neg (by omega)]))
                    have x_F2 := h_F2
                    rw [x_F1] at x_F2
                    have hst1 := store_ok (P := Try.prog) (t := 4) (o := 1) (v := .bool x.plain) (by kernel_rfl) rfl rfl qE (by simp)
                    have hst2 := store_ok (P := Try.prog) (t := 3) (o := 2) (v := .int .i64 q.depth) (by kernel_rfl) rfl rfl s_F1_0 (by simp)
                    have r2 := cellAt_of s_F1_0 (o := 2) rfl
                    have y2 := cellAt_of (o := 2) (v := .int .i64 x.depth) (show F1.get H2.next = some (.cells x.cells (typedV 132) true) by rw [h_F1, AHeap.get_set, if_neg (by omega)]; exact g_E1_0) rfl
                    rw [x_E1] at hst1
                    rw [x_F1] at hst2 r2 y2
                    have eL : Ext B F2 := by
                      refine ⟨by rw [n_F2, n_F1, n_E1]; have := e2.next; omega, fun b hb => ?_⟩
                      rw [h_F2, AHeap.get_set, if_neg (by omega), h_F1, AHeap.get_set, if_neg (by omega), o_E1 b (by have := e2.next; omega)]
                      exact e2.get b hb
                    have gL : F2.get B.next = some (.cells (partG s.k t A0 (kk + 1)).cells (typedV 132) true) := by
                      rw [s_F2_0]
                      simp only [partG, Pt.cells, hxk, Option.getD_some, ← hq]
                      first
                      | (congr 2; simp [hqp, hk0]; done)
                      | (congr 2; simp [hqp, hk0]; omega)
                    rw [x_F2] at eL gL w_F2
                    repeat' ((conv => whnf); first
                      | (refine Both.intro ?_ ?_ <;> intro _ <;> try (exfalso; omega))
                      | (refine Need.intro (by omega) ?_)
                      | (refine ⟨_, hcx, ?_⟩)
                      | (refine Gives.intro ⟨_, zPart, ?_⟩)
                      | (refine Outs.intro ⟨_, _, _, storeAgg_ok (vs := [.bool _, .bool _, .int .i64 _, .int .i64 _]) (by kernel_rfl) rfl (get_new _ _) rfl, ?_⟩)
                      | (refine ⟨_, r1, ?_⟩)
                      | (refine ⟨_, y1, ?_⟩)
                      | (refine Outs.intro ⟨_, _, _, hst1, ?_⟩)
                      | (refine ⟨_, r2, ?_⟩)
                      | (refine ⟨_, y2, ?_⟩)
                      | (refine Outs.intro ⟨_, _, _, hst2, ?_⟩)
                      | fail)
                    all_goals (conv => whnf)
                    exact ⟨kk + 1, ⟨rfl, rfl, rfl, rfl, rfl, rfl, rfl, rfl, rfl, rfl, rfl, trivial⟩, ⟨by omega, eL, w_F2, gL⟩, by omega⟩
            · obtain rfl : kk = takesF t.op := by omega
              have hPF : partF s.k t A0 = partG s.k t A0 (takesF t.op) := by unfold partF; rw [hl0]
              rw [← hPF] at gP
              have eH12 : Ext H1 H2 := ((e_T.trans eTA').trans eAB).trans e2
              obtain ⟨a', c', H6, happ, w6, hk6, a2, c2, H9, happ2, hI9⟩ := RI.push (HA := H1) hI ht (by omega) eH12 w2 hok hle (by rw [← hA0]; exact hfit)
              rw [← hA0] at happ happ2 hI9
              have hbs : ∀ (x1 x2 : Bool) (x3 x4 : Int), aBuildSlice Try.prog 130 1 [(0, .agg #[.bool x1, .bool x2, .int .i64 x3, .int .i64 x4])] = mkSlice [.bool x1, .bool x2, .int .i64 x3, .int .i64 x4] 1 1 := fun x1 x2 x3 x4 => by kernel_rfl
              have lP := cellsAt_all (n := 4) gP rfl
              have lP6 := cellsAt_all (n := 4) ((hk6 B.next (by have := eH1B.next; omega) (w2.lt gP)).trans gP) rfl
              repeat' ((conv => whnf); first
                | (refine Both.intro ?_ ?_ <;> intro _ <;> try (exfalso; omega))
                | (refine Need.intro (by omega) ?_)
                | (refine Gives.intro ⟨_, hslt, ?_⟩)
                | (refine ⟨_, lP, ?_⟩)
                | (refine ⟨_, hbs _ _ _ _, ?_⟩)
                | (refine Outs.intro ⟨_, _, _, happ, ?_⟩)
                | (refine Need.intro (DrawP.intro (by kernel_rfl)) ?_)
                | (refine ⟨_, lP6, ?_⟩)
                | (refine Outs.intro ⟨_, _, _, happ2, ?_⟩)
                | fail)
              all_goals (conv => whnf)
              have hln : (s.ps.take (s.ps.length - takesF t.op) ++ [partF s.k t A0]).length = s.ps.length - takesF t.op + 1 := by rw [List.length_append, List.length_take, Nat.min_eq_left (by omega)]; rfl
              have hla2 : (s.al ++ [(partF s.k t A0).cells]).length = s.al.length + 1 := by simp
              exact ⟨_, ⟨rfl, rfl, rfl, by dsimp only; rw [hln]; rfl, by dsimp only; rw [hla2]; rfl, rfl, trivial⟩, hI9, by dsimp only; omega⟩
          · have hfits := fun A (eTA : Ext T A) (w_A : Wf A) => (fits_any A w_A t.op _ _ _ A0 ((hrest.ext w1 e_T).ext w_T eTA) hok2 rfl).wf w_A
            rw [hfit] at hfits
            rw [htk] at htakes
            have q0 := fun A (eTA : Ext T A) => cellAt_ext w_T eTA qT0
            repeat' ((conv => whnf); first
              | (refine Both.intro ?_ ?_ <;> intro _ <;> try (exfalso; omega))
              | (refine Need.intro (by omega) ?_)
              | (refine ⟨_, hcell, ?_⟩)
              | (refine Gives.intro ⟨_, zTok, ?_⟩)
              | (refine Outs.intro ⟨_, _, _, storeAgg_ok (vs := [.int .u8 _, .int .u8 _]) (by kernel_rfl) rfl (get_new _ _) rfl, ?_⟩)
              | (refine ⟨_, qTax, ?_⟩)
              | (refine Does.mono htakes ?_ ; rintro _ A ⟨⟨rfl, eTA⟩, w_A⟩ ; have eTA' : Ext T A := x_T ▸ eTA ; have q0A := q0 A eTA' ; have hfA := hfits A eTA' w_A)
              | (refine ⟨_, q0A, ?_⟩)
              | (refine Gives.intro ⟨_, hsl, ?_⟩)
              | (refine Does.mono hfA ?_ ; rintro _ B ⟨⟨rfl, eAB⟩, w_B⟩ ; have q0B := cellAt_ext w_A eAB q0A)
              | (refine ⟨_, q0B, ?_⟩)
              | (refine Does.mono (plain_any B t.op) ?_ ; rintro _ _ ⟨rfl, rfl⟩)
              | (refine Gives.intro ⟨_, bPart _ _ _ _, ?_⟩)
              | (refine Gives.intro ⟨_, zPart, ?_⟩)
              | (refine Outs.intro ⟨_, _, _, storeAgg_ok (vs := [.bool _, .bool _, .int .i64 _, .int .i64 _]) (by kernel_rfl) rfl (get_new _ _) rfl, ?_⟩)
              | (refine Need.intro (draw_mix ⟨⟨.inr (.inl (by kernel_rfl)), .inr (cellsAt_set (by have := cellAt_lt w_B q0B; simp; omega)), .inr (cellsAt_set (by have := cellAt_lt w_B q0B; simp; omega)), trivial⟩, ⟨.inl rfl, .inr rfl, .inr rfl, trivial⟩, trivial⟩) ?_)
              | fail)
            all_goals (conv => whnf)
            have eH1B : Ext H1 B := (e_T.trans eTA').trans eAB
            obtain ⟨D, h_D⟩ : ∃ X, X = ((B.push (.cells [.bool false, .bool false, .int .i64 0, .int .i64 0] (typedV 132) true)).set (B.next) (.cells [.bool false, .bool (plainF t.op), .int .i64 1, .int .i64 s.k] (typedV 132) true)) := ⟨_, rfl⟩
            have n_D : D.next = B.next + 1 := by rw [h_D]; rfl
            have e_D : Ext B D := by rw [h_D]; exact (⟨by first | (simp; done) | (simp; omega), fun b hb => by (simp only [AHeap.get_push, AHeap.get_set, AHeap.next_push, AHeap.next_set]; repeat rw [if_neg (by omega)])⟩)
            have w_D : Wf D := by rw [h_D]; exact (fun b hb => by (simp only [AHeap.get_push, AHeap.get_set, AHeap.next_push, AHeap.next_set] at hb ⊢; repeat rw [if_neg (by omega)]); exact w_B b (by omega))
            have g_D_0 : D.get (B.next) = some (.cells [.bool false, .bool (plainF t.op), .int .i64 1, .int .i64 s.k] (typedV 132) true) := by rw [h_D]; exact (by (simp only [AHeap.get_push, AHeap.get_set, AHeap.next_push, AHeap.next_set, if_true]); repeat (first | rw [if_pos rfl] | rw [if_neg (by omega)]))
            have o_D : ∀ b, b < B.next → D.get b = B.get b := e_D.get
            have x_D := h_D
            have hB0 := e_D
            have hB1 := w_D
            have hB2 : D.get B.next = some (.cells (partG s.k t A0 0).cells (typedV 132) true) := by rw [g_D_0]; simp only [partG, Pt.cells]; rw [decide_eq_false hge]; rfl
            rw [x_D] at hB0 hB1 hB2
            refine Runs.loop (fun kk : Nat => [(54, .int .i64 kk), (53, .int .i64 (takesF t.op)), (52, .slice (offA s.sa ((s.ps.length - takesF t.op) * 4)) (takesF t.op) (s.sc - (s.ps.length - takesF t.op))), (11, .pointer (some ⟨B.next, 0, none⟩)), (9, .int .i64 (takesF t.op)), (16, .int .i64 s.k), (15, .int .i64 n), (14, .slice (some ⟨tb, to, tst⟩) n c), (6, .slice s.sa s.ps.length s.sc), (5, .slice s.aa s.al.length s.ac), (3, .pointer (some ⟨H.next, 0, none⟩))])
              (fun kk H' => kk ≤ takesF t.op ∧ Ext B H' ∧ Wf H' ∧ H'.get B.next = some (.cells (partG s.k t A0 kk).cells (typedV 132) true)) (fun kk => takesF t.op - kk) 0 ⟨rfl, rfl, rfl, rfl, rfl, rfl, rfl, rfl, rfl, rfl, rfl, trivial⟩ ⟨Nat.zero_le _, hB0, hB1, hB2⟩ ?_
            rintro kk H2 ⟨hkk, e2, w2, gP⟩
            by_cases hkl : kk < takesF t.op
            · obtain ⟨x, hxk⟩ : ∃ x, A0[kk]? = some x := ⟨_, List.getElem?_eq_getElem (by omega)⟩
              have hxd := (hI.sm x (by rw [hA0] at hxk; exact List.mem_of_mem_drop (List.mem_of_getElem? hxk))).1
              obtain ⟨xb, xo, xst, hoff, hcx⟩ := hrest.cell kk x.cells (by simp [hxk])
              have hcx := cellsAt_ext w1 (((e_T.trans eTA').trans eAB).trans e2) hcx
              rw [hoff]
              obtain ⟨q, hq⟩ : ∃ q, q = partG s.k t A0 kk := ⟨_, rfl⟩
              rw [← hq] at gP
              have nB2 : B.next < H2.next := w2.lt gP
              obtain ⟨E1, h_E1⟩ : ∃ X, X = ((H2.push (.cells [.bool false, .bool false, .int .i64 0, .int .i64 0] (typedV 132) true)).set (H2.next) (.cells [.bool x.path, .bool x.plain, .int .i64 x.depth, .int .i64 x.src] (typedV 132) true)) := ⟨_, rfl⟩
              have n_E1 : E1.next = H2.next + 1 := by rw [h_E1]; rfl
              have e_E1 : Ext H2 E1 := by rw [h_E1]; exact (⟨by first | (simp; done) | (simp; omega), fun b hb => by (simp only [AHeap.get_push, AHeap.get_set, AHeap.next_push, AHeap.next_set]; repeat rw [if_neg (by omega)])⟩)
              have w_E1 : Wf E1 := by rw [h_E1]; exact (fun b hb => by (simp only [AHeap.get_push, AHeap.get_set, AHeap.next_push, AHeap.next_set] at hb ⊢; repeat rw [if_neg (by omega)]); exact w2 b (by omega))
              have g_E1_0 : E1.get (H2.next) = some (.cells [.bool x.path, .bool x.plain, .int .i64 x.depth, .int .i64 x.src] (typedV 132) true) := by rw [h_E1]; exact (by (simp only [AHeap.get_push, AHeap.get_set, AHeap.next_push, AHeap.next_set, if_true]); repeat (first | rw [if_pos rfl] | rw [if_neg (by omega)]))
              have o_E1 : ∀ b, b < H2.next → E1.get b = H2.get b := e_E1.get
              have x_E1 := h_E1
              have qE := (o_E1 B.next nB2).trans gP
              have r1 := cellAt_of qE (o := 1) rfl
              have y1 := cellAt_of g_E1_0 (o := 1) rfl
              rw [x_E1] at r1 y1
              by_cases hk0 : kk = 0
              · by_cases hmx : q.depth < x.depth + 1
                · cases hqp : q.plain
                  · rw [hqp] at r1
                    rw [Pt.cells, hqp] at qE
                    obtain ⟨F1, h_F1⟩ : ∃ X, X = (E1.set (B.next) (.cells [.bool q.path, .bool false, .int .i64 q.depth, .int .i64 q.src] (typedV 132) true)) := ⟨_, rfl⟩
                    have n_F1 : F1.next = E1.next + 0 := by rw [h_F1]; rfl
                    have w_F1 : Wf F1 := by rw [h_F1]; exact (fun b hb => by (simp only [AHeap.get_push, AHeap.get_set, AHeap.next_push, AHeap.next_set] at hb ⊢; repeat rw [if_neg (by omega)]); exact w_E1 b (by omega))
                    have s_F1_0 : F1.get (B.next) = some (.cells [.bool q.path, .bool false, .int .i64 q.depth, .int .i64 q.src] (typedV 132) true) := by rw [h_F1]; exact (by (simp only [AHeap.get_push, AHeap.get_set, AHeap.next_push, AHeap.next_set, if_true]); repeat (first | rw [if_pos rfl] | rw [if_neg (by omega)]))
                    have x_F1 := h_F1
                    rw [x_E1] at x_F1
                    obtain ⟨F2, h_F2⟩ : ∃ X, X = (F1.set (B.next) (.cells [.bool q.path, .bool false, .int .i64 (x.depth + 1 : Nat), .int .i64 q.src] (typedV 132) true)) := ⟨_, rfl⟩
                    have n_F2 : F2.next = F1.next + 0 := by rw [h_F2]; rfl
                    have w_F2 : Wf F2 := by rw [h_F2]; exact (fun b hb => by (simp only [AHeap.get_push, AHeap.get_set, AHeap.next_push, AHeap.next_set] at hb ⊢; repeat rw [if_neg (by omega)]); exact w_F1 b (by omega))
                    have s_F2_0 : F2.get (B.next) = some (.cells [.bool q.path, .bool false, .int .i64 (x.depth + 1 : Nat), .int .i64 q.src] (typedV 132) true) := by rw [h_F2]; exact (by (simp only [AHeap.get_push, AHeap.get_set, AHeap.next_push, AHeap.next_set, if_true]); repeat (first | rw [if_pos rfl] | rw [if_neg (by omega)]))
                    have x_F2 := h_F2
                    rw [x_F1] at x_F2
                    obtain ⟨F3, h_F3⟩ : ∃ X, X = (F2.set (B.next) (.cells [.bool q.path, .bool false, .int .i64 (x.depth + 1 : Nat), .int .i64 x.src] (typedV 132) true)) := ⟨_, rfl⟩
                    have n_F3 : F3.next = F2.next + 0 := by rw [h_F3]; rfl
                    have w_F3 : Wf F3 := by rw [h_F3]; exact (fun b hb => by (simp only [AHeap.get_push, AHeap.get_set, AHeap.next_push, AHeap.next_set] at hb ⊢; repeat rw [if_neg (by omega)]); exact w_F2 b (by omega))
                    have s_F3_0 : F3.get (B.next) = some (.cells [.bool q.path, .bool false, .int .i64 (x.depth + 1 : Nat), .int .i64 x.src] (typedV 132) true) := by rw [h_F3]; exact (by (simp only [AHeap.get_push, AHeap.get_set, AHeap.next_push, AHeap.next_set, if_true]); repeat (first | rw [if_pos rfl] | rw [if_neg (by omega)]))
                    have x_F3 := h_F3
                    rw [x_F2] at x_F3
                    have hst1 := store_ok (P := Try.prog) (t := 4) (o := 1) (v := .bool false) (by kernel_rfl) rfl rfl qE (by simp)
                    have hst2 := store_ok (P := Try.prog) (t := 3) (o := 2) (v := .int .i64 (x.depth + 1 : Nat)) (by kernel_rfl) rfl rfl s_F1_0 (by simp)
                    have r2 := cellAt_of s_F1_0 (o := 2) rfl
                    have y2 := cellAt_of (o := 2) (v := .int .i64 x.depth) (show F1.get H2.next = some (.cells x.cells (typedV 132) true) by rw [h_F1, AHeap.get_set, if_neg (by omega)]; exact g_E1_0) rfl
                    rw [x_E1] at hst1
                    rw [x_F1] at hst2 r2 y2
                    have hst3 := store_ok (P := Try.prog) (t := 3) (o := 3) (v := .int .i64 x.src) (by kernel_rfl) rfl rfl s_F2_0 (by simp)
                    have y3 := cellAt_of (o := 3) (v := .int .i64 x.src) (show F2.get H2.next = some (.cells x.cells (typedV 132) true) by rw [h_F2, AHeap.get_set, if_neg (by omega), h_F1, AHeap.get_set, if_neg (by omega)]; exact g_E1_0) rfl
                    rw [x_F2] at hst3 y3
                    have eL : Ext B F3 := by
                      refine ⟨by rw [n_F3, n_F2, n_F1, n_E1]; have := e2.next; omega, fun b hb => ?_⟩
                      rw [h_F3, AHeap.get_set, if_neg (by omega), h_F2, AHeap.get_set, if_neg (by omega), h_F1, AHeap.get_set, if_neg (by omega), o_E1 b (by have := e2.next; omega)]
                      exact e2.get b hb
                    have gL : F3.get B.next = some (.cells (partG s.k t A0 (kk + 1)).cells (typedV 132) true) := by
                      rw [s_F3_0]
                      simp only [partG, Pt.cells, hxk, Option.getD_some, ← hq]
                      first
                      | (congr 2; simp [hqp, hk0]; done)
                      | (congr 2; simp [hqp, hk0]; omega)
                    rw [x_F3] at eL gL w_F3
                    repeat' ((conv => whnf); first
                      | (refine Both.intro ?_ ?_ <;> intro _ <;> try (exfalso; omega))
                      | (refine Need.intro (by omega) ?_)
                      | (refine ⟨_, hcx, ?_⟩)
                      | (refine Gives.intro ⟨_, zPart, ?_⟩)
                      | (refine Outs.intro ⟨_, _, _, storeAgg_ok (vs := [.bool _, .bool _, .int .i64 _, .int .i64 _]) (by kernel_rfl) rfl (get_new _ _) rfl, ?_⟩)
                      | (refine ⟨_, r1, ?_⟩)
                      | (refine ⟨_, y1, ?_⟩)
                      | (refine Outs.intro ⟨_, _, _, hst1, ?_⟩)
                      | (refine ⟨_, r2, ?_⟩)
                      | (refine ⟨_, y2, ?_⟩)
                      | (refine Outs.intro ⟨_, _, _, hst2, ?_⟩)
                      | (refine ⟨_, y3, ?_⟩)
                      | (refine Outs.intro ⟨_, _, _, hst3, ?_⟩)
                      | fail)
                    all_goals (conv => whnf)
                    exact ⟨kk + 1, ⟨rfl, rfl, rfl, rfl, rfl, rfl, rfl, rfl, rfl, rfl, rfl, trivial⟩, ⟨by omega, eL, w_F3, gL⟩, by omega⟩
                  · rw [hqp] at r1
                    rw [Pt.cells, hqp] at qE
                    obtain ⟨F1, h_F1⟩ : ∃ X, X = (E1.set (B.next) (.cells [.bool q.path, .bool x.plain, .int .i64 q.depth, .int .i64 q.src] (typedV 132) true)) := ⟨_, rfl⟩
                    have n_F1 : F1.next = E1.next + 0 := by rw [h_F1]; rfl
                    have w_F1 : Wf F1 := by rw [h_F1]; exact (fun b hb => by (simp only [AHeap.get_push, AHeap.get_set, AHeap.next_push, AHeap.next_set] at hb ⊢; repeat rw [if_neg (by omega)]); exact w_E1 b (by omega))
                    have s_F1_0 : F1.get (B.next) = some (.cells [.bool q.path, .bool x.plain, .int .i64 q.depth, .int .i64 q.src] (typedV 132) true) := by rw [h_F1]; exact (by (simp only [AHeap.get_push, AHeap.get_set, AHeap.next_push, AHeap.next_set, if_true]); repeat (first | rw [if_pos rfl] | rw [if_neg (by omega)]))
                    have x_F1 := h_F1
                    rw [x_E1] at x_F1
                    obtain ⟨F2, h_F2⟩ : ∃ X, X = (F1.set (B.next) (.cells [.bool q.path, .bool x.plain, .int .i64 (x.depth + 1 : Nat), .int .i64 q.src] (typedV 132) true)) := ⟨_, rfl⟩
                    have n_F2 : F2.next = F1.next + 0 := by rw [h_F2]; rfl
                    have w_F2 : Wf F2 := by rw [h_F2]; exact (fun b hb => by (simp only [AHeap.get_push, AHeap.get_set, AHeap.next_push, AHeap.next_set] at hb ⊢; repeat rw [if_neg (by omega)]); exact w_F1 b (by omega))
                    have s_F2_0 : F2.get (B.next) = some (.cells [.bool q.path, .bool x.plain, .int .i64 (x.depth + 1 : Nat), .int .i64 q.src] (typedV 132) true) := by rw [h_F2]; exact (by (simp only [AHeap.get_push, AHeap.get_set, AHeap.next_push, AHeap.next_set, if_true]); repeat (first | rw [if_pos rfl] | rw [if_neg (by omega)]))
                    have x_F2 := h_F2
                    rw [x_F1] at x_F2
                    obtain ⟨F3, h_F3⟩ : ∃ X, X = (F2.set (B.next) (.cells [.bool q.path, .bool x.plain, .int .i64 (x.depth + 1 : Nat), .int .i64 x.src] (typedV 132) true)) := ⟨_, rfl⟩
                    have n_F3 : F3.next = F2.next + 0 := by rw [h_F3]; rfl
                    have w_F3 : Wf F3 := by rw [h_F3]; exact (fun b hb => by (simp only [AHeap.get_push, AHeap.get_set, AHeap.next_push, AHeap.next_set] at hb ⊢; repeat rw [if_neg (by omega)]); exact w_F2 b (by omega))
                    have s_F3_0 : F3.get (B.next) = some (.cells [.bool q.path, .bool x.plain, .int .i64 (x.depth + 1 : Nat), .int .i64 x.src] (typedV 132) true) := by rw [h_F3]; exact (by (simp only [AHeap.get_push, AHeap.get_set, AHeap.next_push, AHeap.next_set, if_true]); repeat (first | rw [if_pos rfl] | rw [if_neg (by omega)]))
                    have x_F3 := h_F3
                    rw [x_F2] at x_F3
                    have hst1 := store_ok (P := Try.prog) (t := 4) (o := 1) (v := .bool x.plain) (by kernel_rfl) rfl rfl qE (by simp)
                    have hst2 := store_ok (P := Try.prog) (t := 3) (o := 2) (v := .int .i64 (x.depth + 1 : Nat)) (by kernel_rfl) rfl rfl s_F1_0 (by simp)
                    have r2 := cellAt_of s_F1_0 (o := 2) rfl
                    have y2 := cellAt_of (o := 2) (v := .int .i64 x.depth) (show F1.get H2.next = some (.cells x.cells (typedV 132) true) by rw [h_F1, AHeap.get_set, if_neg (by omega)]; exact g_E1_0) rfl
                    rw [x_E1] at hst1
                    rw [x_F1] at hst2 r2 y2
                    have hst3 := store_ok (P := Try.prog) (t := 3) (o := 3) (v := .int .i64 x.src) (by kernel_rfl) rfl rfl s_F2_0 (by simp)
                    have y3 := cellAt_of (o := 3) (v := .int .i64 x.src) (show F2.get H2.next = some (.cells x.cells (typedV 132) true) by rw [h_F2, AHeap.get_set, if_neg (by omega), h_F1, AHeap.get_set, if_neg (by omega)]; exact g_E1_0) rfl
                    rw [x_F2] at hst3 y3
                    have eL : Ext B F3 := by
                      refine ⟨by rw [n_F3, n_F2, n_F1, n_E1]; have := e2.next; omega, fun b hb => ?_⟩
                      rw [h_F3, AHeap.get_set, if_neg (by omega), h_F2, AHeap.get_set, if_neg (by omega), h_F1, AHeap.get_set, if_neg (by omega), o_E1 b (by have := e2.next; omega)]
                      exact e2.get b hb
                    have gL : F3.get B.next = some (.cells (partG s.k t A0 (kk + 1)).cells (typedV 132) true) := by
                      rw [s_F3_0]
                      simp only [partG, Pt.cells, hxk, Option.getD_some, ← hq]
                      first
                      | (congr 2; simp [hqp, hk0]; done)
                      | (congr 2; simp [hqp, hk0]; omega)
                    rw [x_F3] at eL gL w_F3
                    repeat' ((conv => whnf); first
                      | (refine Both.intro ?_ ?_ <;> intro _ <;> try (exfalso; omega))
                      | (refine Need.intro (by omega) ?_)
                      | (refine ⟨_, hcx, ?_⟩)
                      | (refine Gives.intro ⟨_, zPart, ?_⟩)
                      | (refine Outs.intro ⟨_, _, _, storeAgg_ok (vs := [.bool _, .bool _, .int .i64 _, .int .i64 _]) (by kernel_rfl) rfl (get_new _ _) rfl, ?_⟩)
                      | (refine ⟨_, r1, ?_⟩)
                      | (refine ⟨_, y1, ?_⟩)
                      | (refine Outs.intro ⟨_, _, _, hst1, ?_⟩)
                      | (refine ⟨_, r2, ?_⟩)
                      | (refine ⟨_, y2, ?_⟩)
                      | (refine Outs.intro ⟨_, _, _, hst2, ?_⟩)
                      | (refine ⟨_, y3, ?_⟩)
                      | (refine Outs.intro ⟨_, _, _, hst3, ?_⟩)
                      | fail)
                    all_goals (conv => whnf)
                    exact ⟨kk + 1, ⟨rfl, rfl, rfl, rfl, rfl, rfl, rfl, rfl, rfl, rfl, rfl, trivial⟩, ⟨by omega, eL, w_F3, gL⟩, by omega⟩
                · cases hqp : q.plain
                  · rw [hqp] at r1
                    rw [Pt.cells, hqp] at qE
                    obtain ⟨F1, h_F1⟩ : ∃ X, X = (E1.set (B.next) (.cells [.bool q.path, .bool false, .int .i64 q.depth, .int .i64 q.src] (typedV 132) true)) := ⟨_, rfl⟩
                    have n_F1 : F1.next = E1.next + 0 := by rw [h_F1]; rfl
                    have w_F1 : Wf F1 := by rw [h_F1]; exact (fun b hb => by (simp only [AHeap.get_push, AHeap.get_set, AHeap.next_push, AHeap.next_set] at hb ⊢; repeat rw [if_neg (by omega)]); exact w_E1 b (by omega))
                    have s_F1_0 : F1.get (B.next) = some (.cells [.bool q.path, .bool false, .int .i64 q.depth, .int .i64 q.src] (typedV 132) true) := by rw [h_F1]; exact (by (simp only [AHeap.get_push, AHeap.get_set, AHeap.next_push, AHeap.next_set, if_true]); repeat (first | rw [if_pos rfl] | rw [if_neg (by omega)]))
                    have x_F1 := h_F1
                    rw [x_E1] at x_F1
                    obtain ⟨F2, h_F2⟩ : ∃ X, X = (F1.set (B.next) (.cells [.bool q.path, .bool false, .int .i64 q.depth, .int .i64 q.src] (typedV 132) true)) := ⟨_, rfl⟩
                    have n_F2 : F2.next = F1.next + 0 := by rw [h_F2]; rfl
                    have w_F2 : Wf F2 := by rw [h_F2]; exact (fun b hb => by (simp only [AHeap.get_push, AHeap.get_set, AHeap.next_push, AHeap.next_set] at hb ⊢; repeat rw [if_neg (by omega)]); exact w_F1 b (by omega))
                    have s_F2_0 : F2.get (B.next) = some (.cells [.bool q.path, .bool false, .int .i64 q.depth, .int .i64 q.src] (typedV 132) true) := by rw [h_F2]; exact (by (simp only [AHeap.get_push, AHeap.get_set, AHeap.next_push, AHeap.next_set, if_true]); repeat (first | rw [if_pos rfl] | rw [if_neg (by omega)]))
                    have x_F2 := h_F2
                    rw [x_F1] at x_F2
                    obtain ⟨F3, h_F3⟩ : ∃ X, X = (F2.set (B.next) (.cells [.bool q.path, .bool false, .int .i64 q.depth, .int .i64 x.src] (typedV 132) true)) := ⟨_, rfl⟩
                    have n_F3 : F3.next = F2.next + 0 := by rw [h_F3]; rfl
                    have w_F3 : Wf F3 := by rw [h_F3]; exact (fun b hb => by (simp only [AHeap.get_push, AHeap.get_set, AHeap.next_push, AHeap.next_set] at hb ⊢; repeat rw [if_neg (by omega)]); exact w_F2 b (by omega))
                    have s_F3_0 : F3.get (B.next) = some (.cells [.bool q.path, .bool false, .int .i64 q.depth, .int .i64 x.src] (typedV 132) true) := by rw [h_F3]; exact (by (simp only [AHeap.get_push, AHeap.get_set, AHeap.next_push, AHeap.next_set, if_true]); repeat (first | rw [if_pos rfl] | rw [if_neg (by omega)]))
                    have x_F3 := h_F3
                    rw [x_F2] at x_F3
                    have hst1 := store_ok (P := Try.prog) (t := 4) (o := 1) (v := .bool false) (by kernel_rfl) rfl rfl qE (by simp)
                    have hst2 := store_ok (P := Try.prog) (t := 3) (o := 2) (v := .int .i64 q.depth) (by kernel_rfl) rfl rfl s_F1_0 (by simp)
                    have r2 := cellAt_of s_F1_0 (o := 2) rfl
                    have y2 := cellAt_of (o := 2) (v := .int .i64 x.depth) (show F1.get H2.next = some (.cells x.cells (typedV 132) true) by rw [h_F1, AHeap.get_set, if_neg (by omega)]; exact g_E1_0) rfl
                    rw [x_E1] at hst1
                    rw [x_F1] at hst2 r2 y2
                    have hst3 := store_ok (P := Try.prog) (t := 3) (o := 3) (v := .int .i64 x.src) (by kernel_rfl) rfl rfl s_F2_0 (by simp)
                    have y3 := cellAt_of (o := 3) (v := .int .i64 x.src) (show F2.get H2.next = some (.cells x.cells (typedV 132) true) by rw [h_F2, AHeap.get_set, if_neg (by omega), h_F1, AHeap.get_set, if_neg (by omega)]; exact g_E1_0) rfl
                    rw [x_F2] at hst3 y3
                    have eL : Ext B F3 := by
                      refine ⟨by rw [n_F3, n_F2, n_F1, n_E1]; have := e2.next; omega, fun b hb => ?_⟩
                      rw [h_F3, AHeap.get_set, if_neg (by omega), h_F2, AHeap.get_set, if_neg (by omega), h_F1, AHeap.get_set, if_neg (by omega), o_E1 b (by have := e2.next; omega)]
                      exact e2.get b hb
                    have gL : F3.get B.next = some (.cells (partG s.k t A0 (kk + 1)).cells (typedV 132) true) := by
                      rw [s_F3_0]
                      simp only [partG, Pt.cells, hxk, Option.getD_some, ← hq]
                      first
                      | (congr 2; simp [hqp, hk0]; done)
                      | (congr 2; simp [hqp, hk0]; omega)
                    rw [x_F3] at eL gL w_F3
                    repeat' ((conv => whnf); first
                      | (refine Both.intro ?_ ?_ <;> intro _ <;> try (exfalso; omega))
                      | (refine Need.intro (by omega) ?_)
                      | (refine ⟨_, hcx, ?_⟩)
                      | (refine Gives.intro ⟨_, zPart, ?_⟩)
                      | (refine Outs.intro ⟨_, _, _, storeAgg_ok (vs := [.bool _, .bool _, .int .i64 _, .int .i64 _]) (by kernel_rfl) rfl (get_new _ _) rfl, ?_⟩)
                      | (refine ⟨_, r1, ?_⟩)
                      | (refine ⟨_, y1, ?_⟩)
                      | (refine Outs.intro ⟨_, _, _, hst1, ?_⟩)
                      | (refine ⟨_, r2, ?_⟩)
                      | (refine ⟨_, y2, ?_⟩)
                      | (refine Outs.intro ⟨_, _, _, hst2, ?_⟩)
                      | (refine ⟨_, y3, ?_⟩)
                      | (refine Outs.intro ⟨_, _, _, hst3, ?_⟩)
                      | fail)
                    all_goals (conv => whnf)
                    exact ⟨kk + 1, ⟨rfl, rfl, rfl, rfl, rfl, rfl, rfl, rfl, rfl, rfl, rfl, trivial⟩, ⟨by omega, eL, w_F3, gL⟩, by omega⟩
                  · rw [hqp] at r1
                    rw [Pt.cells, hqp] at qE
                    obtain ⟨F1, h_F1⟩ : ∃ X, X = (E1.set (B.next) (.cells [.bool q.path, .bool x.plain, .int .i64 q.depth, .int .i64 q.src] (typedV 132) true)) := ⟨_, rfl⟩
                    have n_F1 : F1.next = E1.next + 0 := by rw [h_F1]; rfl
                    have w_F1 : Wf F1 := by rw [h_F1]; exact (fun b hb => by (simp only [AHeap.get_push, AHeap.get_set, AHeap.next_push, AHeap.next_set] at hb ⊢; repeat rw [if_neg (by omega)]); exact w_E1 b (by omega))
                    have s_F1_0 : F1.get (B.next) = some (.cells [.bool q.path, .bool x.plain, .int .i64 q.depth, .int .i64 q.src] (typedV 132) true) := by rw [h_F1]; exact (by (simp only [AHeap.get_push, AHeap.get_set, AHeap.next_push, AHeap.next_set, if_true]); repeat (first | rw [if_pos rfl] | rw [if_neg (by omega)]))
                    have x_F1 := h_F1
                    rw [x_E1] at x_F1
                    obtain ⟨F2, h_F2⟩ : ∃ X, X = (F1.set (B.next) (.cells [.bool q.path, .bool x.plain, .int .i64 q.depth, .int .i64 q.src] (typedV 132) true)) := ⟨_, rfl⟩
                    have n_F2 : F2.next = F1.next + 0 := by rw [h_F2]; rfl
                    have w_F2 : Wf F2 := by rw [h_F2]; exact (fun b hb => by (simp only [AHeap.get_push, AHeap.get_set, AHeap.next_push, AHeap.next_set] at hb ⊢; repeat rw [if_neg (by omega)]); exact w_F1 b (by omega))
                    have s_F2_0 : F2.get (B.next) = some (.cells [.bool q.path, .bool x.plain, .int .i64 q.depth, .int .i64 q.src] (typedV 132) true) := by rw [h_F2]; exact (by (simp only [AHeap.get_push, AHeap.get_set, AHeap.next_push, AHeap.next_set, if_true]); repeat (first | rw [if_pos rfl] | rw [if_neg (by omega)]))
                    have x_F2 := h_F2
                    rw [x_F1] at x_F2
                    obtain ⟨F3, h_F3⟩ : ∃ X, X = (F2.set (B.next) (.cells [.bool q.path, .bool x.plain, .int .i64 q.depth, .int .i64 x.src] (typedV 132) true)) := ⟨_, rfl⟩
                    have n_F3 : F3.next = F2.next + 0 := by rw [h_F3]; rfl
                    have w_F3 : Wf F3 := by rw [h_F3]; exact (fun b hb => by (simp only [AHeap.get_push, AHeap.get_set, AHeap.next_push, AHeap.next_set] at hb ⊢; repeat rw [if_neg (by omega)]); exact w_F2 b (by omega))
                    have s_F3_0 : F3.get (B.next) = some (.cells [.bool q.path, .bool x.plain, .int .i64 q.depth, .int .i64 x.src] (typedV 132) true) := by rw [h_F3]; exact (by (simp only [AHeap.get_push, AHeap.get_set, AHeap.next_push, AHeap.next_set, if_true]); repeat (first | rw [if_pos rfl] | rw [if_neg (by omega)]))
                    have x_F3 := h_F3
                    rw [x_F2] at x_F3
                    have hst1 := store_ok (P := Try.prog) (t := 4) (o := 1) (v := .bool x.plain) (by kernel_rfl) rfl rfl qE (by simp)
                    have hst2 := store_ok (P := Try.prog) (t := 3) (o := 2) (v := .int .i64 q.depth) (by kernel_rfl) rfl rfl s_F1_0 (by simp)
                    have r2 := cellAt_of s_F1_0 (o := 2) rfl
                    have y2 := cellAt_of (o := 2) (v := .int .i64 x.depth) (show F1.get H2.next = some (.cells x.cells (typedV 132) true) by rw [h_F1, AHeap.get_set, if_neg (by omega)]; exact g_E1_0) rfl
                    rw [x_E1] at hst1
                    rw [x_F1] at hst2 r2 y2
                    have hst3 := store_ok (P := Try.prog) (t := 3) (o := 3) (v := .int .i64 x.src) (by kernel_rfl) rfl rfl s_F2_0 (by simp)
                    have y3 := cellAt_of (o := 3) (v := .int .i64 x.src) (show F2.get H2.next = some (.cells x.cells (typedV 132) true) by rw [h_F2, AHeap.get_set, if_neg (by omega), h_F1, AHeap.get_set, if_neg (by omega)]; exact g_E1_0) rfl
                    rw [x_F2] at hst3 y3
                    have eL : Ext B F3 := by
                      refine ⟨by rw [n_F3, n_F2, n_F1, n_E1]; have := e2.next; omega, fun b hb => ?_⟩
                      rw [h_F3, AHeap.get_set, if_neg (by omega), h_F2, AHeap.get_set, if_neg (by omega), h_F1, AHeap.get_set, if_neg (by omega), o_E1 b (by have := e2.next; omega)]
                      exact e2.get b hb
                    have gL : F3.get B.next = some (.cells (partG s.k t A0 (kk + 1)).cells (typedV 132) true) := by
                      rw [s_F3_0]
                      simp only [partG, Pt.cells, hxk, Option.getD_some, ← hq]
                      first
                      | (congr 2; simp [hqp, hk0]; done)
                      | (congr 2; simp [hqp, hk0]; omega)
                    rw [x_F3] at eL gL w_F3
                    repeat' ((conv => whnf); first
                      | (refine Both.intro ?_ ?_ <;> intro _ <;> try (exfalso; omega))
                      | (refine Need.intro (by omega) ?_)
                      | (refine ⟨_, hcx, ?_⟩)
                      | (refine Gives.intro ⟨_, zPart, ?_⟩)
                      | (refine Outs.intro ⟨_, _, _, storeAgg_ok (vs := [.bool _, .bool _, .int .i64 _, .int .i64 _]) (by kernel_rfl) rfl (get_new _ _) rfl, ?_⟩)
                      | (refine ⟨_, r1, ?_⟩)
                      | (refine ⟨_, y1, ?_⟩)
                      | (refine Outs.intro ⟨_, _, _, hst1, ?_⟩)
                      | (refine ⟨_, r2, ?_⟩)
                      | (refine ⟨_, y2, ?_⟩)
                      | (refine Outs.intro ⟨_, _, _, hst2, ?_⟩)
                      | (refine ⟨_, y3, ?_⟩)
                      | (refine Outs.intro ⟨_, _, _, hst3, ?_⟩)
                      | fail)
                    all_goals (conv => whnf)
                    exact ⟨kk + 1, ⟨rfl, rfl, rfl, rfl, rfl, rfl, rfl, rfl, rfl, rfl, rfl, trivial⟩, ⟨by omega, eL, w_F3, gL⟩, by omega⟩
              · by_cases hmx : q.depth < x.depth + 1
                · cases hqp : q.plain
                  · rw [hqp] at r1
                    rw [Pt.cells, hqp] at qE
                    obtain ⟨F1, h_F1⟩ : ∃ X, X = (E1.set (B.next) (.cells [.bool q.path, .bool false, .int .i64 q.depth, .int .i64 q.src] (typedV 132) true)) := ⟨_, rfl⟩
                    have n_F1 : F1.next = E1.next + 0 := by rw [h_F1]; rfl
                    have w_F1 : Wf F1 := by rw [h_F1]; exact (fun b hb => by (simp only [AHeap.get_push, AHeap.get_set, AHeap.next_push, AHeap.next_set] at hb ⊢; repeat rw [if_neg (by omega)]); exact w_E1 b (by omega))
                    have s_F1_0 : F1.get (B.next) = some (.cells [.bool q.path, .bool false, .int .i64 q.depth, .int .i64 q.src] (typedV 132) true) := by rw [h_F1]; exact (by (simp only [AHeap.get_push, AHeap.get_set, AHeap.next_push, AHeap.next_set, if_true]); repeat (first | rw [if_pos rfl] | rw [if_neg (by omega)]))
                    have x_F1 := h_F1
                    rw [x_E1] at x_F1
                    obtain ⟨F2, h_F2⟩ : ∃ X, X = (F1.set (B.next) (.cells [.bool q.path, .bool false, .int .i64 (x.depth + 1 : Nat), .int .i64 q.src] (typedV 132) true)) := ⟨_, rfl⟩
                    have n_F2 : F2.next = F1.next + 0 := by rw [h_F2]; rfl
                    have w_F2 : Wf F2 := by rw [h_F2]; exact (fun b hb => by (simp only [AHeap.get_push, AHeap.get_set, AHeap.next_push, AHeap.next_set] at hb ⊢; repeat rw [if_neg (by omega)]); exact w_F1 b (by omega))
                    have s_F2_0 : F2.get (B.next) = some (.cells [.bool q.path, .bool false, .int .i64 (x.depth + 1 : Nat), .int .i64 q.src] (typedV 132) true) := by rw [h_F2]; exact (by (simp only [AHeap.get_push, AHeap.get_set, AHeap.next_push, AHeap.next_set, if_true]); repeat (first | rw [if_pos rfl] | rw [if_neg (by omega)]))
                    have x_F2 := h_F2
                    rw [x_F1] at x_F2
                    have hst1 := store_ok (P := Try.prog) (t := 4) (o := 1) (v := .bool false) (by kernel_rfl) rfl rfl qE (by simp)
                    have hst2 := store_ok (P := Try.prog) (t := 3) (o := 2) (v := .int .i64 (x.depth + 1 : Nat)) (by kernel_rfl) rfl rfl s_F1_0 (by simp)
                    have r2 := cellAt_of s_F1_0 (o := 2) rfl
                    have y2 := cellAt_of (o := 2) (v := .int .i64 x.depth) (show F1.get H2.next = some (.cells x.cells (typedV 132) true) by rw [h_F1, AHeap.get_set, if_neg (by omega)]; exact g_E1_0) rfl
                    rw [x_E1] at hst1
                    rw [x_F1] at hst2 r2 y2
                    have eL : Ext B F2 := by
                      refine ⟨by rw [n_F2, n_F1, n_E1]; have := e2.next; omega, fun b hb => ?_⟩
                      rw [h_F2, AHeap.get_set, if_neg (by omega), h_F1, AHeap.get_set, if_neg (by omega), o_E1 b (by have := e2.next; omega)]
                      exact e2.get b hb
                    have gL : F2.get B.next = some (.cells (partG s.k t A0 (kk + 1)).cells (typedV 132) true) := by
                      rw [s_F2_0]
                      simp only [partG, Pt.cells, hxk, Option.getD_some, ← hq]
                      first
                      | (congr 2; simp [hqp, hk0]; done)
                      | (congr 2; simp [hqp, hk0]; omega)
                    rw [x_F2] at eL gL w_F2
                    repeat' ((conv => whnf); first
                      | (refine Both.intro ?_ ?_ <;> intro _ <;> try (exfalso; omega))
                      | (refine Need.intro (by omega) ?_)
                      | (refine ⟨_, hcx, ?_⟩)
                      | (refine Gives.intro ⟨_, zPart, ?_⟩)
                      | (refine Outs.intro ⟨_, _, _, storeAgg_ok (vs := [.bool _, .bool _, .int .i64 _, .int .i64 _]) (by kernel_rfl) rfl (get_new _ _) rfl, ?_⟩)
                      | (refine ⟨_, r1, ?_⟩)
                      | (refine ⟨_, y1, ?_⟩)
                      | (refine Outs.intro ⟨_, _, _, hst1, ?_⟩)
                      | (refine ⟨_, r2, ?_⟩)
                      | (refine ⟨_, y2, ?_⟩)
                      | (refine Outs.intro ⟨_, _, _, hst2, ?_⟩)
                      | fail)
                    all_goals (conv => whnf)
                    exact ⟨kk + 1, ⟨rfl, rfl, rfl, rfl, rfl, rfl, rfl, rfl, rfl, rfl, rfl, trivial⟩, ⟨by omega, eL, w_F2, gL⟩, by omega⟩
                  · rw [hqp] at r1
                    rw [Pt.cells, hqp] at qE
                    obtain ⟨F1, h_F1⟩ : ∃ X, X = (E1.set (B.next) (.cells [.bool q.path, .bool x.plain, .int .i64 q.depth, .int .i64 q.src] (typedV 132) true)) := ⟨_, rfl⟩
                    have n_F1 : F1.next = E1.next + 0 := by rw [h_F1]; rfl
                    have w_F1 : Wf F1 := by rw [h_F1]; exact (fun b hb => by (simp only [AHeap.get_push, AHeap.get_set, AHeap.next_push, AHeap.next_set] at hb ⊢; repeat rw [if_neg (by omega)]); exact w_E1 b (by omega))
                    have s_F1_0 : F1.get (B.next) = some (.cells [.bool q.path, .bool x.plain, .int .i64 q.depth, .int .i64 q.src] (typedV 132) true) := by rw [h_F1]; exact (by (simp only [AHeap.get_push, AHeap.get_set, AHeap.next_push, AHeap.next_set, if_true]); repeat (first | rw [if_pos rfl] | rw [if_neg (by omega)]))
                    have x_F1 := h_F1
                    rw [x_E1] at x_F1
                    obtain ⟨F2, h_F2⟩ : ∃ X, X = (F1.set (B.next) (.cells [.bool q.path, .bool x.plain, .int .i64 (x.depth + 1 : Nat), .int .i64 q.src] (typedV 132) true)) := ⟨_, rfl⟩
                    have n_F2 : F2.next = F1.next + 0 := by rw [h_F2]; rfl
                    have w_F2 : Wf F2 := by rw [h_F2]; exact (fun b hb => by (simp only [AHeap.get_push, AHeap.get_set, AHeap.next_push, AHeap.next_set] at hb ⊢; repeat rw [if_neg (by omega)]); exact w_F1 b (by omega))
                    have s_F2_0 : F2.get (B.next) = some (.cells [.bool q.path, .bool x.plain, .int .i64 (x.depth + 1 : Nat), .int .i64 q.src] (typedV 132) true) := by rw [h_F2]; exact (by (simp only [AHeap.get_push, AHeap.get_set, AHeap.next_push, AHeap.next_set, if_true]); repeat (first | rw [if_pos rfl] | rw [if_neg (by omega)]))
                    have x_F2 := h_F2
                    rw [x_F1] at x_F2
                    have hst1 := store_ok (P := Try.prog) (t := 4) (o := 1) (v := .bool x.plain) (by kernel_rfl) rfl rfl qE (by simp)
                    have hst2 := store_ok (P := Try.prog) (t := 3) (o := 2) (v := .int .i64 (x.depth + 1 : Nat)) (by kernel_rfl) rfl rfl s_F1_0 (by simp)
                    have r2 := cellAt_of s_F1_0 (o := 2) rfl
                    have y2 := cellAt_of (o := 2) (v := .int .i64 x.depth) (show F1.get H2.next = some (.cells x.cells (typedV 132) true) by rw [h_F1, AHeap.get_set, if_neg (by omega)]; exact g_E1_0) rfl
                    rw [x_E1] at hst1
                    rw [x_F1] at hst2 r2 y2
                    have eL : Ext B F2 := by
                      refine ⟨by rw [n_F2, n_F1, n_E1]; have := e2.next; omega, fun b hb => ?_⟩
                      rw [h_F2, AHeap.get_set, if_neg (by omega), h_F1, AHeap.get_set, if_neg (by omega), o_E1 b (by have := e2.next; omega)]
                      exact e2.get b hb
                    have gL : F2.get B.next = some (.cells (partG s.k t A0 (kk + 1)).cells (typedV 132) true) := by
                      rw [s_F2_0]
                      simp only [partG, Pt.cells, hxk, Option.getD_some, ← hq]
                      first
                      | (congr 2; simp [hqp, hk0]; done)
                      | (congr 2; simp [hqp, hk0]; omega)
                    rw [x_F2] at eL gL w_F2
                    repeat' ((conv => whnf); first
                      | (refine Both.intro ?_ ?_ <;> intro _ <;> try (exfalso; omega))
                      | (refine Need.intro (by omega) ?_)
                      | (refine ⟨_, hcx, ?_⟩)
                      | (refine Gives.intro ⟨_, zPart, ?_⟩)
                      | (refine Outs.intro ⟨_, _, _, storeAgg_ok (vs := [.bool _, .bool _, .int .i64 _, .int .i64 _]) (by kernel_rfl) rfl (get_new _ _) rfl, ?_⟩)
                      | (refine ⟨_, r1, ?_⟩)
                      | (refine ⟨_, y1, ?_⟩)
                      | (refine Outs.intro ⟨_, _, _, hst1, ?_⟩)
                      | (refine ⟨_, r2, ?_⟩)
                      | (refine ⟨_, y2, ?_⟩)
                      | (refine Outs.intro ⟨_, _, _, hst2, ?_⟩)
                      | fail)
                    all_goals (conv => whnf)
                    exact ⟨kk + 1, ⟨rfl, rfl, rfl, rfl, rfl, rfl, rfl, rfl, rfl, rfl, rfl, trivial⟩, ⟨by omega, eL, w_F2, gL⟩, by omega⟩
                · cases hqp : q.plain
                  · rw [hqp] at r1
                    rw [Pt.cells, hqp] at qE
                    obtain ⟨F1, h_F1⟩ : ∃ X, X = (E1.set (B.next) (.cells [.bool q.path, .bool false, .int .i64 q.depth, .int .i64 q.src] (typedV 132) true)) := ⟨_, rfl⟩
                    have n_F1 : F1.next = E1.next + 0 := by rw [h_F1]; rfl
                    have w_F1 : Wf F1 := by rw [h_F1]; exact (fun b hb => by (simp only [AHeap.get_push, AHeap.get_set, AHeap.next_push, AHeap.next_set] at hb ⊢; repeat rw [if_neg (by omega)]); exact w_E1 b (by omega))
                    have s_F1_0 : F1.get (B.next) = some (.cells [.bool q.path, .bool false, .int .i64 q.depth, .int .i64 q.src] (typedV 132) true) := by rw [h_F1]; exact (by (simp only [AHeap.get_push, AHeap.get_set, AHeap.next_push, AHeap.next_set, if_true]); repeat (first | rw [if_pos rfl] | rw [if_neg (by omega)]))
                    have x_F1 := h_F1
                    rw [x_E1] at x_F1
                    obtain ⟨F2, h_F2⟩ : ∃ X, X = (F1.set (B.next) (.cells [.bool q.path, .bool false, .int .i64 q.depth, .int .i64 q.src] (typedV 132) true)) := ⟨_, rfl⟩
                    have n_F2 : F2.next = F1.next + 0 := by rw [h_F2]; rfl
                    have w_F2 : Wf F2 := by rw [h_F2]; exact (fun b hb => by (simp only [AHeap.get_push, AHeap.get_set, AHeap.next_push, AHeap.next_set] at hb ⊢; repeat rw [if_neg (by omega)]); exact w_F1 b (by omega))
                    have s_F2_0 : F2.get (B.next) = some (.cells [.bool q.path, .bool false, .int .i64 q.depth, .int .i64 q.src] (typedV 132) true) := by rw [h_F2]; exact (by (simp only [AHeap.get_push, AHeap.get_set, AHeap.next_push, AHeap.next_set, if_true]); repeat (first | rw [if_pos rfl] | rw [if_neg (by omega)]))
                    have x_F2 := h_F2
                    rw [x_F1] at x_F2
                    have hst1 := store_ok (P := Try.prog) (t := 4) (o := 1) (v := .bool false) (by kernel_rfl) rfl rfl qE (by simp)
                    have hst2 := store_ok (P := Try.prog) (t := 3) (o := 2) (v := .int .i64 q.depth) (by kernel_rfl) rfl rfl s_F1_0 (by simp)
                    have r2 := cellAt_of s_F1_0 (o := 2) rfl
                    have y2 := cellAt_of (o := 2) (v := .int .i64 x.depth) (show F1.get H2.next = some (.cells x.cells (typedV 132) true) by rw [h_F1, AHeap.get_set, if_neg (by omega)]; exact g_E1_0) rfl
                    rw [x_E1] at hst1
                    rw [x_F1] at hst2 r2 y2
                    have eL : Ext B F2 := by
                      refine ⟨by rw [n_F2, n_F1, n_E1]; have := e2.next; omega, fun b hb => ?_⟩
                      rw [h_F2, AHeap.get_set, if_neg (by omega), h_F1, AHeap.get_set, if_neg (by omega), o_E1 b (by have := e2.next; omega)]
                      exact e2.get b hb
                    have gL : F2.get B.next = some (.cells (partG s.k t A0 (kk + 1)).cells (typedV 132) true) := by
                      rw [s_F2_0]
                      simp only [partG, Pt.cells, hxk, Option.getD_some, ← hq]
                      first
                      | (congr 2; simp [hqp, hk0]; done)
                      | (congr 2; simp [hqp, hk0]; omega)
                    rw [x_F2] at eL gL w_F2
                    repeat' ((conv => whnf); first
                      | (refine Both.intro ?_ ?_ <;> intro _ <;> try (exfalso; omega))
                      | (refine Need.intro (by omega) ?_)
                      | (refine ⟨_, hcx, ?_⟩)
                      | (refine Gives.intro ⟨_, zPart, ?_⟩)
                      | (refine Outs.intro ⟨_, _, _, storeAgg_ok (vs := [.bool _, .bool _, .int .i64 _, .int .i64 _]) (by kernel_rfl) rfl (get_new _ _) rfl, ?_⟩)
                      | (refine ⟨_, r1, ?_⟩)
                      | (refine ⟨_, y1, ?_⟩)
                      | (refine Outs.intro ⟨_, _, _, hst1, ?_⟩)
                      | (refine ⟨_, r2, ?_⟩)
                      | (refine ⟨_, y2, ?_⟩)
                      | (refine Outs.intro ⟨_, _, _, hst2, ?_⟩)
                      | fail)
                    all_goals (conv => whnf)
                    exact ⟨kk + 1, ⟨rfl, rfl, rfl, rfl, rfl, rfl, rfl, rfl, rfl, rfl, rfl, trivial⟩, ⟨by omega, eL, w_F2, gL⟩, by omega⟩
                  · rw [hqp] at r1
                    rw [Pt.cells, hqp] at qE
                    obtain ⟨F1, h_F1⟩ : ∃ X, X = (E1.set (B.next) (.cells [.bool q.path, .bool x.plain, .int .i64 q.depth, .int .i64 q.src] (typedV 132) true)) := ⟨_, rfl⟩
                    have n_F1 : F1.next = E1.next + 0 := by rw [h_F1]; rfl
                    have w_F1 : Wf F1 := by rw [h_F1]; exact (fun b hb => by (simp only [AHeap.get_push, AHeap.get_set, AHeap.next_push, AHeap.next_set] at hb ⊢; repeat rw [if_neg (by omega)]); exact w_E1 b (by omega))
                    have s_F1_0 : F1.get (B.next) = some (.cells [.bool q.path, .bool x.plain, .int .i64 q.depth, .int .i64 q.src] (typedV 132) true) := by rw [h_F1]; exact (by (simp only [AHeap.get_push, AHeap.get_set, AHeap.next_push, AHeap.next_set, if_true]); repeat (first | rw [if_pos rfl] | rw [if_neg (by omega)]))
                    have x_F1 := h_F1
                    rw [x_E1] at x_F1
                    obtain ⟨F2, h_F2⟩ : ∃ X, X = (F1.set (B.next) (.cells [.bool q.path, .bool x.plain, .int .i64 q.depth, .int .i64 q.src] (typedV 132) true)) := ⟨_, rfl⟩
                    have n_F2 : F2.next = F1.next + 0 := by rw [h_F2]; rfl
                    have w_F2 : Wf F2 := by rw [h_F2]; exact (fun b hb => by (simp only [AHeap.get_push, AHeap.get_set, AHeap.next_push, AHeap.next_set] at hb ⊢; repeat rw [if_neg (by omega)]); exact w_F1 b (by omega))
                    have s_F2_0 : F2.get (B.next) = some (.cells [.bool q.path, .bool x.plain, .int .i64 q.depth, .int .i64 q.src] (typedV 132) true) := by rw [h_F2]; exact (by (simp only [AHeap.get_push, AHeap.get_set, AHeap.next_push, AHeap.next_set, if_true]); repeat (first | rw [if_pos rfl] | rw [if_neg (by omega)]))
                    have x_F2 := h_F2
                    rw [x_F1] at x_F2
                    have hst1 := store_ok (P := Try.prog) (t := 4) (o := 1) (v := .bool x.plain) (by kernel_rfl) rfl rfl qE (by simp)
                    have hst2 := store_ok (P := Try.prog) (t := 3) (o := 2) (v := .int .i64 q.depth) (by kernel_rfl) rfl rfl s_F1_0 (by simp)
                    have r2 := cellAt_of s_F1_0 (o := 2) rfl
                    have y2 := cellAt_of (o := 2) (v := .int .i64 x.depth) (show F1.get H2.next = some (.cells x.cells (typedV 132) true) by rw [h_F1, AHeap.get_set, if_neg (by omega)]; exact g_E1_0) rfl
                    rw [x_E1] at hst1
                    rw [x_F1] at hst2 r2 y2
                    have eL : Ext B F2 := by
                      refine ⟨by rw [n_F2, n_F1, n_E1]; have := e2.next; omega, fun b hb => ?_⟩
                      rw [h_F2, AHeap.get_set, if_neg (by omega), h_F1, AHeap.get_set, if_neg (by omega), o_E1 b (by have := e2.next; omega)]
                      exact e2.get b hb
                    have gL : F2.get B.next = some (.cells (partG s.k t A0 (kk + 1)).cells (typedV 132) true) := by
                      rw [s_F2_0]
                      simp only [partG, Pt.cells, hxk, Option.getD_some, ← hq]
                      first
                      | (congr 2; simp [hqp, hk0]; done)
                      | (congr 2; simp [hqp, hk0]; omega)
                    rw [x_F2] at eL gL w_F2
                    repeat' ((conv => whnf); first
                      | (refine Both.intro ?_ ?_ <;> intro _ <;> try (exfalso; omega))
                      | (refine Need.intro (by omega) ?_)
                      | (refine ⟨_, hcx, ?_⟩)
                      | (refine Gives.intro ⟨_, zPart, ?_⟩)
                      | (refine Outs.intro ⟨_, _, _, storeAgg_ok (vs := [.bool _, .bool _, .int .i64 _, .int .i64 _]) (by kernel_rfl) rfl (get_new _ _) rfl, ?_⟩)
                      | (refine ⟨_, r1, ?_⟩)
                      | (refine ⟨_, y1, ?_⟩)
                      | (refine Outs.intro ⟨_, _, _, hst1, ?_⟩)
                      | (refine ⟨_, r2, ?_⟩)
                      | (refine ⟨_, y2, ?_⟩)
                      | (refine Outs.intro ⟨_, _, _, hst2, ?_⟩)
                      | fail)
                    all_goals (conv => whnf)
                    exact ⟨kk + 1, ⟨rfl, rfl, rfl, rfl, rfl, rfl, rfl, rfl, rfl, rfl, rfl, trivial⟩, ⟨by omega, eL, w_F2, gL⟩, by omega⟩
            · obtain rfl : kk = takesF t.op := by omega
              have hPF : partF s.k t A0 = partG s.k t A0 (takesF t.op) := by unfold partF; rw [hl0]
              rw [← hPF] at gP
              have eH12 : Ext H1 H2 := ((e_T.trans eTA').trans eAB).trans e2
              obtain ⟨a', c', H6, happ, w6, hk6, a2, c2, H9, happ2, hI9⟩ := RI.push (HA := H1) hI ht (by omega) eH12 w2 hok hle (by rw [← hA0]; exact hfit)
              rw [← hA0] at happ happ2 hI9
              have hbs : ∀ (x1 x2 : Bool) (x3 x4 : Int), aBuildSlice Try.prog 130 1 [(0, .agg #[.bool x1, .bool x2, .int .i64 x3, .int .i64 x4])] = mkSlice [.bool x1, .bool x2, .int .i64 x3, .int .i64 x4] 1 1 := fun x1 x2 x3 x4 => by kernel_rfl
              have lP := cellsAt_all (n := 4) gP rfl
              have lP6 := cellsAt_all (n := 4) ((hk6 B.next (by have := eH1B.next; omega) (w2.lt gP)).trans gP) rfl
              repeat' ((conv => whnf); first
                | (refine Both.intro ?_ ?_ <;> intro _ <;> try (exfalso; omega))
                | (refine Need.intro (by omega) ?_)
                | (refine Gives.intro ⟨_, hslt, ?_⟩)
                | (refine ⟨_, lP, ?_⟩)
                | (refine ⟨_, hbs _ _ _ _, ?_⟩)
                | (refine Outs.intro ⟨_, _, _, happ, ?_⟩)
                | (refine Need.intro (DrawP.intro (by kernel_rfl)) ?_)
                | (refine ⟨_, lP6, ?_⟩)
                | (refine Outs.intro ⟨_, _, _, happ2, ?_⟩)
                | fail)
              all_goals (conv => whnf)
              have hln : (s.ps.take (s.ps.length - takesF t.op) ++ [partF s.k t A0]).length = s.ps.length - takesF t.op + 1 := by rw [List.length_append, List.length_take, Nat.min_eq_left (by omega)]; rfl
              have hla2 : (s.al ++ [(partF s.k t A0).cells]).length = s.al.length + 1 := by simp
              exact ⟨_, ⟨rfl, rfl, rfl, by dsimp only; rw [hln]; rfl, by dsimp only; rw [hla2]; rfl, rfl, trivial⟩, hI9, by dsimp only; omega⟩
      · have hnone : readF ts = none := RS.none_ret hI ht fun h => hle h.2.1
        rw [htk] at htakes
        repeat' ((conv => whnf); first
          | (refine Both.intro ?_ ?_ <;> intro _ <;> try (exfalso; omega))
          | (refine Need.intro (by omega) ?_)
          | (refine ⟨_, hcell, ?_⟩)
          | (refine Gives.intro ⟨_, zTok, ?_⟩)
          | (refine Outs.intro ⟨_, _, _, storeAgg_ok (vs := [.int .u8 _, .int .u8 _]) (by kernel_rfl) rfl (get_new _ _) rfl, ?_⟩)
          | (refine ⟨_, qTax, ?_⟩)
          | (refine Does.mono htakes ?_ ; rintro _ A ⟨⟨rfl, eTA⟩, w_A⟩ ; obtain ⟨X, hst, hcX, hfin⟩ := noRet A ((eH1.trans e_T).trans (x_T ▸ eTA : Ext T A)) w_A hnone (get_ext w_T (x_T ▸ eTA : Ext T A) gzT))
          | (refine Gives.intro ⟨_, bNo, ?_⟩)
          | (refine Outs.intro ⟨_, _, _, hst, ?_⟩)
          | (refine ⟨_, hcX, ?_⟩)
          | fail)
        all_goals (conv => whnf)
        exact hfin
    · have htk : takesT t = -1 := by unfold takesT; rw [if_neg hok]
      have hnone : readF ts = none := RS.none_ret hI ht fun h => hok h.1
      rw [htk] at htakes
      repeat' ((conv => whnf); first
        | (refine Both.intro ?_ ?_ <;> intro _ <;> try (exfalso; omega))
        | (refine Need.intro (by omega) ?_)
        | (refine ⟨_, hcell, ?_⟩)
        | (refine Gives.intro ⟨_, zTok, ?_⟩)
        | (refine Outs.intro ⟨_, _, _, storeAgg_ok (vs := [.int .u8 _, .int .u8 _]) (by kernel_rfl) rfl (get_new _ _) rfl, ?_⟩)
        | (refine ⟨_, qTax, ?_⟩)
        | (refine Does.mono htakes ?_ ; rintro _ A ⟨⟨rfl, eTA⟩, w_A⟩ ; obtain ⟨X, hst, hcX, hfin⟩ := noRet A ((eH1.trans e_T).trans (x_T ▸ eTA : Ext T A)) w_A hnone (get_ext w_T (x_T ▸ eTA : Ext T A) gzT))
        | (refine Gives.intro ⟨_, bNo, ?_⟩)
        | (refine Outs.intro ⟨_, _, _, hst, ?_⟩)
        | (refine ⟨_, hcX, ?_⟩)
        | fail)
      all_goals (conv => whnf)
      exact hfin
  · have hkle := hI.kle
    have hkn : s.k = n := by omega
    have hfd := hI.fd
    have htl : ts.take s.k = ts := List.take_of_length_le (by omega)
    rw [htl] at hfd
    obtain ⟨k, ps, sa, sc, al, aa, ac⟩ := s
    dsimp only at hfd hsc hlp hla hI hlt hkn ⊢
    by_cases hl1 : ps.length = 1
    · obtain ⟨p, rfl⟩ := List.length_eq_one_iff.1 hl1
      obtain ⟨b, o, st, hsa, hc⟩ := hI.st.row.cell 0 p.cells rfl
      dsimp only at hsa
      subst hsa
      have hR : readF ts = some p := by unfold readF; rw [hfd]
      have hst := storeAgg_ok (P := Try.prog) (t := 132) (vs := p.cells) (by kernel_rfl) rfl gz1 rfl
      have hcz : cellsAt (H1.set H.next (.cells p.cells (typedV 132) true)) H.next 0 4 = some p.cells := cellsAt_all (n := 4) (by rw [AHeap.get_set, if_pos rfl]) rfl
      have hne : b ≠ H.next := by have := (hI.st.lt w1 rfl).1; omega
      repeat' ((conv => whnf); first
        | (refine Both.intro ?_ ?_ <;> intro _ <;> try (exfalso; omega))
        | (refine Need.intro (by omega) ?_)
        | (refine ⟨_, hc, ?_⟩)
        | (refine Outs.intro ⟨_, _, _, hst, ?_⟩)
        | (refine Need.intro (draw_of (by simp only [effAll, lookAll, and_true]; exact cellsAt_set hne)) ?_)
        | (refine ⟨_, hcz, ?_⟩)
        | fail)
      all_goals (conv => whnf)
      exact ⟨_, p, by rw [hR]; rfl, fun q h => (by rw [hR] at h; cases h; rfl), eH1.set (Nat.le_refl _) _, w1.set gz1 _⟩
    · have hR : readF ts = none := by
        unfold readF; rw [hfd]
        match ps, hl1 with
        | [], _ => rfl
        | [_], h => exact absurd rfl h
        | _ :: _ :: _, _ => rfl
      have hst := storeAgg_ok (P := Try.prog) (t := 132) (vs := [.bool false, .bool false, .int .i64 0, .int .i64 0]) (by kernel_rfl) rfl gz1 rfl
      have hcz : cellsAt (H1.set H.next (.cells [.bool false, .bool false, .int .i64 0, .int .i64 0] (typedV 132) true)) H.next 0 4 = some [.bool false, .bool false, .int .i64 0, .int .i64 0] := cellsAt_all (n := 4) (by rw [AHeap.get_set, if_pos rfl]) rfl
      repeat' ((conv => whnf); first
        | (refine Both.intro ?_ ?_ <;> intro _ <;> try (exfalso; omega))
        | (refine Need.intro (by omega) ?_)
        | (refine Gives.intro ⟨_, bNo, ?_⟩)
        | (refine Outs.intro ⟨_, _, _, hst, ?_⟩)
        | (refine ⟨_, hcz, ?_⟩)
        | fail)
      all_goals (conv => whnf)
      exact ⟨.slice none 0 0, ptNo, by rw [hR]; rfl, fun q h => (by rw [hR] at h; cases h), eH1.set (Nat.le_refl _) _, w1.set gz1 _⟩
theorem termCheck_any (H : AHeap) (hw : Wf H) (a : Option Addr) (n c : Nat) (ts : List Tk) (hr : RowS H a n c 2 (ts.map Tk.cells)) (path : Bool) :
    Does Try.prog orc 68 [.slice a n c, .bool path] H fun r H' => r = .ret (.int .i64 (termF ts path)) ∧ Ext H H' ∧ Wf H' := by
  have hlen := hr.len; simp at hlen
  have hcap := hr.cap
  refine (Does.wf (Q := fun r H' => r = .ret (.int .i64 (termF ts path)) ∧ Ext H H') ?_ hw).mono fun r H' ⟨⟨h1, h2⟩, h3⟩ => ⟨h1, h2, h3⟩
  refine Does.of Try.func68 (fun _ _ => rfl) rfl ?_
  by_cases h512 : 512 < n
  · skip
    repeat' ((conv => whnf); first
      | (refine Both.intro ?_ ?_ <;> intro _ <;> try (exfalso; omega))
      | (refine Need.intro (by omega) ?_)
      | fail)
    all_goals (conv => whnf)
    exact ⟨by unfold termF; rw [if_pos (by omega)]; rfl, Ext.refl _⟩
  · have hread := read_any H hw a n c ts hr (by omega)
    cases hR : readF ts with
    | none =>
      have hF : termF ts path = 7 := by unfold termF; rw [if_neg (by omega), hR]
      have hread := hread.mono (Q' := fun r H' => ∃ av p, r = .ret (.tuple #[av, .agg #[.bool (Pt.path p), .bool p.plain, .int .i64 p.depth, .int .i64 p.src], .bool false]) ∧ Ext H H' ∧ Wf H') (by rintro r H' ⟨av, p, h1, h2, h3, h4⟩; rw [hR] at h1; exact ⟨av, p, h1, h3, h4⟩)
      repeat' ((conv => whnf); first
        | (refine Both.intro ?_ ?_ <;> intro _ <;> try (exfalso; omega))
        | (refine Need.intro (by omega) ?_)
        | (refine Does.mono hread ?_ ; rintro _ H1 ⟨av, p, rfl, e1, w1⟩)
        | (refine Gives.intro ⟨_, zPart, ?_⟩)
        | (refine Outs.intro ⟨_, _, _, storeAgg_ok (vs := [.bool _, .bool _, .int .i64 _, .int .i64 _]) (by kernel_rfl) rfl (get_new _ _) rfl, ?_⟩)
        | fail)
      all_goals (conv => whnf)
      exact ⟨by rw [hF]; rfl, (e1.trans (Ext.push _ _)).set e1.next _⟩
    | some p =>
      have hread := hread.mono (Q' := fun r H' => ∃ av, r = .ret (.tuple #[av, .agg #[.bool (Pt.path p), .bool p.plain, .int .i64 p.depth, .int .i64 p.src], .bool true]) ∧ Ext H H' ∧ Wf H') (by rintro r H' ⟨av, q, h1, h2, h3, h4⟩; rw [hR] at h1; obtain rfl := h2 p hR; exact ⟨av, h1, h3, h4⟩)
      have hF : termF ts path = if p.path != path then 7 else if 64 < p.depth then 8 else 0 := by unfold termF; rw [if_neg (by omega), hR]
      have l0 := fun (X : AHeap) => cellAt_of (get_set_same X.next (X.push (.cells [.bool false, .bool false, .int .i64 0, .int .i64 0] (typedV 132) true)) (.cells p.cells (typedV 132) true)) (o := 0) rfl
      have l2 := fun (X : AHeap) => cellAt_of (get_set_same X.next (X.push (.cells [.bool false, .bool false, .int .i64 0, .int .i64 0] (typedV 132) true)) (.cells p.cells (typedV 132) true)) (o := 2) rfl
      cases hp : p.path <;> cases path
      all_goals
        repeat' ((conv => whnf); first
          | (refine Both.intro ?_ ?_ <;> intro _ <;> try (exfalso; omega))
          | (refine Need.intro (by omega) ?_)
          | (refine Does.mono hread ?_ ; rintro _ H1 ⟨av, rfl, e1, w1⟩ ; have l0x := (l0 H1).trans (congrArg (fun b => some (Value.bool b)) hp) ; have l2x := l2 H1)
          | (refine Gives.intro ⟨_, zPart, ?_⟩)
          | (refine Outs.intro ⟨_, _, _, storeAgg_ok (vs := [.bool _, .bool _, .int .i64 _, .int .i64 _]) (by kernel_rfl) rfl (get_new _ _) rfl, ?_⟩)
          | (refine ⟨_, l0x, ?_⟩)
          | (refine ⟨_, l2x, ?_⟩)
          | (refine Gives.intro ⟨.bool _, rfl, ?_⟩)
          | fail)
        all_goals (conv => whnf)
        all_goals
          refine ⟨?_, (e1.trans (Ext.push _ _)).set e1.next _⟩
          rw [hF, hp]
          first
          | rfl
          | (rw [if_neg (by decide), if_pos (by omega)]; rfl)
          | (rw [if_neg (by decide), if_neg (by omega)]; rfl)
theorem Check_any (H : AHeap) (hw : Wf H) (a : Option Addr) (n c : Nat) (ts : List Tk) (hr : RowS H a n c 2 (ts.map Tk.cells)) :
    Does Try.prog orc 33 [.slice a n c] H fun r H' => r = .ret (.int .i64 (termF ts false)) ∧ Ext H H' ∧ Wf H' := by
  refine Does.of Try.func33 (fun _ _ => rfl) rfl ?_
  repeat' ((conv => whnf); first
    | (refine Both.intro ?_ ?_ <;> intro _ <;> try (exfalso; omega))
    | (refine Need.intro (by omega) ?_)
    | (refine Does.mono (termCheck_any H hw a n c ts hr false) ?_ ; rintro _ H' ⟨rfl, e, w⟩)
    | fail)
  all_goals (conv => whnf)
  exact ⟨rfl, e, w⟩
theorem Path_any (H : AHeap) (hw : Wf H) (a : Option Addr) (n c : Nat) (ts : List Tk) (hr : RowS H a n c 2 (ts.map Tk.cells)) :
    Does Try.prog orc 73 [.slice a n c] H fun r H' => r = .ret (.int .i64 (termF ts true)) ∧ Ext H H' ∧ Wf H' := by
  refine Does.of Try.func73 (fun _ _ => rfl) rfl ?_
  repeat' ((conv => whnf); first
    | (refine Both.intro ?_ ?_ <;> intro _ <;> try (exfalso; omega))
    | (refine Need.intro (by omega) ?_)
    | (refine Does.mono (termCheck_any H hw a n c ts hr true) ?_ ; rintro _ H' ⟨rfl, e, w⟩)
    | fail)
  all_goals (conv => whnf)
  exact ⟨rfl, e, w⟩
end Go.AX.Try
