/- term.Check and Path: what they answer hangs on the tokens alone. -/
import Derived.Test.YtcalhjlcnapnaaaLWork2
namespace Go.AX.Try
open Go Go.AX Go.AX.Lw Go.Proofs
set_option linter.unusedVariables false
set_option linter.unusedSimpArgs false
set_option maxRecDepth 100000
structure Pt where
  path : Bool
  plain : Bool
  depth : Nat
  src : Nat
def Pt.cells (x : Pt) : List Value := [.bool x.path, .bool x.plain, .int .i64 x.depth, .int .i64 x.src]
def ptNo : Pt := ⟨false, false, 0, 0⟩
/-- May a token be? -/
def okT (t : Tk) : Bool := decide (¬ (t.op ≠ 2 ∧ t.p ≠ 0 ∨ t.p ≥ 8) ∧ t.op ≤ 23)
def takesT (t : Tk) : Int := if okT t then takesF t.op else -1
theorem takesTerm_any (H : AHeap) (t : Tk) : Does Try.prog orc 107 [.agg #[.int .u8 t.op, .int .u8 t.p]] H fun r H' => r = .ret (.int .i64 (takesT t)) ∧ Ext H H' := by
  refine Does.of Try.func107 (fun _ _ => rfl) rfl ?_
  obtain ⟨op, p⟩ := t
  have g0 := get_new H (.cells [.int .u8 op, .int .u8 p] 0 true)
  have q0 := cellAt_of g0 (o := 0) rfl
  have q1 := cellAt_of g0 (o := 1) rfl
  repeat' ((conv => whnf); first
    | (refine Both.intro ?_ ?_ <;> intro _ <;> try (exfalso; omega))
    | (refine Need.intro (by omega) ?_)
    | (refine ⟨_, q0, ?_⟩)
    | (refine ⟨_, q1, ?_⟩)
    | fail)
  all_goals (conv => whnf)
  all_goals
    refine ⟨?_, Ext.push _ _⟩
    unfold takesT okT
    dsimp only
    first
    | (rw [if_neg (by simp; omega)]; rfl)
    | (rw [if_pos (by simp; omega)]; unfold takesF; first | (rw [if_pos (by omega)]; rfl) | (rw [if_neg (by omega), if_pos (by omega)]; rfl) | (rw [if_neg (by omega), if_neg (by omega)]; rfl))
def plainF (op : Nat) : Bool := decide (op = 0 ∨ op = 1 ∨ op = 2 ∨ op = 6 ∨ op = 11 ∨ op = 12 ∨ op = 13 ∨ op = 14)
theorem plain_any (H : AHeap) (op : Nat) : Does Try.prog orc 142 [.int .u8 op] H fun r H' => r = .ret (.bool (plainF op)) ∧ H = H' := by
  refine Does.of Try.func142 (fun _ _ => rfl) rfl ?_
  repeat' ((conv => whnf); first
    | (refine Both.intro ?_ ?_ <;> intro _ <;> try (exfalso; omega))
    | (refine Need.intro (by omega) ?_)
    | fail)
  all_goals (conv => whnf)
  all_goals
    refine ⟨?_, rfl⟩
    unfold plainF
    first
    | (rw [decide_eq_true (by omega)]; rfl)
    | (rw [decide_eq_false (by omega)]; rfl)
theorem fits1_any (H : AHeap) (x : Pt) : Does Try.prog orc 148 [.agg #[.bool x.path, .bool x.plain, .int .i64 x.depth, .int .i64 x.src]] H fun r H' => r = .ret (.bool x.path) ∧ Ext H H' := by
  refine Does.of Try.func148 (fun _ _ => rfl) rfl ?_
  have g0 := get_new H (.cells x.cells 0 true)
  have q0 := cellAt_of g0 (o := 0) rfl
  repeat' ((conv => whnf); first
    | (refine Both.intro ?_ ?_ <;> intro _ <;> try (exfalso; omega))
    | (refine Need.intro (by omega) ?_)
    | (refine ⟨_, q0, ?_⟩)
    | fail)
  all_goals (conv => whnf)
  exact ⟨rfl, Ext.push _ _⟩
theorem indexPart_any (H : AHeap) (hw : Wf H) (a : Option Addr) (n c : Nat) (ps : List Pt) (hr : RowS H a n c 4 (ps.map Pt.cells)) (hn : n ≤ 2 ^ 30) :
    Does Try.prog orc 154 [.slice a n c, .func (.func 148) #[] #[]] H fun r H' => ∃ z, r = .ret (.int .i64 z) ∧ (0 ≤ z ↔ ps.any (fun x => x.path) = true) ∧ Ext H H' := by
  have hlen := hr.len; simp at hlen
  have hcap := hr.cap
  refine Does.of Try.func154 (fun _ _ => rfl) rfl ?_
  repeat' ((conv => whnf); first
    | (refine Both.intro ?_ ?_ <;> intro _ <;> try (exfalso; omega))
    | (refine Need.intro (by omega) ?_)
    | fail)
  all_goals (conv => whnf)
  refine Runs.loop (fun k : Nat => [(8, .int .i64 k), (7, .int .i64 n), (1, .func (.func 148) #[] #[]), (0, .slice a n c)]) (fun k H' => k ≤ n ∧ Ext H H' ∧ Wf H' ∧ (ps.take k).any (fun x => x.path) = false) (fun k => n - k) 0 ⟨rfl, rfl, rfl, rfl, trivial⟩ ⟨Nat.zero_le _, Ext.refl _, hw, rfl⟩ ?_
  rintro k H1 ⟨hk, e1, w1, hall⟩
  by_cases hlt : k < n
  · obtain ⟨x, hx⟩ : ∃ x, ps[k]? = some x := ⟨_, List.getElem?_eq_getElem (by omega)⟩
    obtain ⟨b, o, st, rfl, hc⟩ := hr.cell k x.cells (by simp [hx])
    have hc := cellsAt_ext hw e1 hc
    have hf := (fits1_any H1 x).wf w1
    cases hp : x.path with
    | true =>
      have hf := hf.mono (Q' := fun r H' => (r = .ret (.bool true) ∧ Ext H1 H') ∧ Wf H') fun r H' h => ⟨⟨by rw [h.1.1, hp], h.1.2⟩, h.2⟩
      repeat' ((conv => whnf); first
        | (refine Both.intro ?_ ?_ <;> intro _ <;> try (exfalso; omega))
        | (refine Need.intro (by omega) ?_)
        | (refine ⟨_, hc, ?_⟩)
        | (refine Does.mono hf ?_ ; rintro _ H2 ⟨⟨rfl, e2⟩, w2⟩)
        | fail)
      all_goals (conv => whnf)
      refine ⟨k, rfl, ⟨fun _ => ?_, fun _ => by omega⟩, e1.trans e2⟩
      rw [List.any_eq_true]; exact ⟨x, List.mem_of_getElem? hx, hp⟩
    | false =>
      have hf := hf.mono (Q' := fun r H' => (r = .ret (.bool false) ∧ Ext H1 H') ∧ Wf H') fun r H' h => ⟨⟨by rw [h.1.1, hp], h.1.2⟩, h.2⟩
      repeat' ((conv => whnf); first
        | (refine Both.intro ?_ ?_ <;> intro _ <;> try (exfalso; omega))
        | (refine Need.intro (by omega) ?_)
        | (refine ⟨_, hc, ?_⟩)
        | (refine Does.mono hf ?_ ; rintro _ H2 ⟨⟨rfl, e2⟩, w2⟩)
        | fail)
      all_goals (conv => whnf)
      exact ⟨k + 1, ⟨rfl, rfl, rfl, rfl, trivial⟩, ⟨by omega, e1.trans e2, w2, by rw [List.take_add_one, hx]; simp [hall, hp]⟩, by omega⟩
  · skip
    repeat' ((conv => whnf); first
      | (refine Both.intro ?_ ?_ <;> intro _ <;> try (exfalso; omega))
      | (refine Need.intro (by omega) ?_)
      | fail)
    all_goals (conv => whnf)
    obtain rfl : k = n := by omega
    rw [List.take_of_length_le (by omega)] at hall
    exact ⟨-1, rfl, ⟨fun h => by omega, fun h => by rw [hall] at h; cases h⟩, e1⟩
theorem containsPart_any (H : AHeap) (hw : Wf H) (a : Option Addr) (n c : Nat) (ps : List Pt) (hr : RowS H a n c 4 (ps.map Pt.cells)) (hn : n ≤ 2 ^ 30) :
    Does Try.prog orc 147 [.slice a n c, .func (.func 148) #[] #[]] H fun r H' => r = .ret (.bool (ps.any fun x => x.path)) ∧ Ext H H' := by
  refine Does.of Try.func147 (fun _ _ => rfl) rfl ?_
  repeat' ((conv => whnf); first
    | (refine Both.intro ?_ ?_ <;> intro _ <;> try (exfalso; omega))
    | (refine Need.intro (by omega) ?_)
    | (refine Does.mono (indexPart_any H hw a n c ps hr hn) ?_ ; rintro _ H' ⟨z, rfl, hz, e⟩)
    | fail)
  all_goals (conv => whnf)
  all_goals
    refine ⟨?_, e⟩
    first
    | (rw [hz.1 (by omega)]; rfl)
    | (have : ps.any (fun x => x.path) = false := by
         cases hb : ps.any (fun x => x.path) with
         | false => rfl
         | true => exact absurd (hz.2 hb) (by omega)
       rw [this]; rfl)
def fitsF (op : Nat) (a : List Pt) : Bool :=
  let x := (a[0]?).getD ptNo
  let y := (a[1]?).getD ptNo
  if op = 17 ∨ op = 18 then x.path && !y.path else if op = 21 ∨ op = 22 then x.path && y.path else if op = 23 then x.path else
  if op = 19 then !x.path && x.plain else !a.any fun x => x.path
theorem fits_any (H : AHeap) (hw : Wf H) (op : Nat) (a : Option Addr) (n c : Nat) (ps : List Pt) (hr : RowS H a n c 4 (ps.map Pt.cells)) (hop : op ≤ 23) (hn : n = takesF op) :
    Does Try.prog orc 141 [.int .u8 op, .slice a n c] H fun r H' => r = .ret (.bool (fitsF op ps)) ∧ Ext H H' := by
  have hlen := hr.len; simp at hlen
  have hcap := hr.cap
  refine Does.of Try.func141 (fun _ _ => rfl) rfl ?_
  have hel : ∀ i, i < n → ∃ x b o st, ps[i]? = some x ∧ a = some ⟨b, o, st⟩ ∧ cellAt H b (o + i * 4 + 0) = some (.bool x.path) ∧ cellAt H b (o + i * 4 + 1) = some (.bool x.plain) := fun i hi => by
    obtain ⟨x, hx⟩ : ∃ x, ps[i]? = some x := ⟨_, List.getElem?_eq_getElem (by omega)⟩
    obtain ⟨b, o, st, rfl, hc⟩ := hr.cell i x.cells (by simp [hx])
    exact ⟨x, b, o, st, hx, rfl, cellsAt_cell hc (j := 0) rfl, cellsAt_cell hc (j := 1) rfl⟩
  by_cases h2 : op = 17 ∨ op = 18 ∨ op = 21 ∨ op = 22
  · have htk : takesF op = 2 := by unfold takesF; rw [if_neg (by omega), if_neg (by omega)]
    obtain ⟨x, b, o, st, hx, rfl, l0, l1⟩ := hel 0 (by omega)
    obtain ⟨y, b', o', st', hy, hb', r0, r1⟩ := hel 1 (by omega)
    cases hb'
    cases hxp : x.path <;> rw [hxp] at l0 <;> cases hyp : y.path <;> rw [hyp] at r0
    all_goals
      repeat' ((conv => whnf); first
        | (refine Both.intro ?_ ?_ <;> intro _ <;> try (exfalso; omega))
        | (refine Need.intro (by omega) ?_)
        | (refine ⟨_, l0, ?_⟩)
        | (refine ⟨_, r0, ?_⟩)
        | fail)
      all_goals (conv => whnf)
      all_goals
        refine ⟨?_, Ext.refl _⟩
        unfold fitsF
        rw [hx, hy]
        dsimp only [Option.getD_some]
        first
        | (rw [if_pos (by omega), hxp]; rfl)
        | (rw [if_pos (by omega), hxp, hyp]; rfl)
        | (rw [if_neg (by omega), if_pos (by omega), hxp]; rfl)
        | (rw [if_neg (by omega), if_pos (by omega), hxp, hyp]; rfl)
  · by_cases h1 : op = 23 ∨ op = 19
    · have htk : takesF op = 1 := by unfold takesF; rw [if_neg (by omega), if_pos (by omega)]
      obtain ⟨x, b, o, st, hx, rfl, l0, l1⟩ := hel 0 (by omega)
      cases hxp : x.path <;> rw [hxp] at l0 <;> cases hyp : x.plain <;> rw [hyp] at l1
      all_goals
        repeat' ((conv => whnf); first
          | (refine Both.intro ?_ ?_ <;> intro _ <;> try (exfalso; omega))
          | (refine Need.intro (by omega) ?_)
          | (refine ⟨_, l0, ?_⟩)
          | (refine ⟨_, l1, ?_⟩)
          | fail)
        all_goals (conv => whnf)
        all_goals
          refine ⟨?_, Ext.refl _⟩
          unfold fitsF
          rw [hx]
          dsimp only [Option.getD_some]
          first
          | (rw [if_neg (by omega), if_neg (by omega), if_pos (by omega), hxp]; rfl)
          | (rw [if_neg (by omega), if_neg (by omega), if_neg (by omega), if_pos (by omega), hxp]; rfl)
          | (rw [if_neg (by omega), if_neg (by omega), if_neg (by omega), if_pos (by omega), hxp, hyp]; rfl)
    · have hle := takesF_le op
      have hcall := containsPart_any H hw a n c ps hr (by omega)
      have hfin : fitsF op ps = !ps.any fun x => x.path := by
        unfold fitsF
        dsimp only
        rw [if_neg (by omega), if_neg (by omega), if_neg (by omega), if_neg (by omega)]
      cases hb : ps.any (fun x => x.path) <;> rw [hb] at hcall
      all_goals
        repeat' ((conv => whnf); first
          | (refine Both.intro ?_ ?_ <;> intro _ <;> try (exfalso; omega))
          | (refine Need.intro (by omega) ?_)
          | (refine Does.mono hcall ?_ ; rintro _ H' ⟨rfl, e⟩)
          | fail)
        all_goals (conv => whnf)
        exact ⟨by rw [hfin, hb]; rfl, e⟩
end Go.AX.Try
