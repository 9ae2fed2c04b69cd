/- slices.Sort at uint64: pdqsortOrdered, Sort. -/
import Derived.Test.YtffnjihgboeonaaLSrtE
namespace Go.AX.Try
open Go Go.AX Go.AX.Lw Go.Proofs
set_option linter.unusedVariables false
set_option linter.unusedSimpArgs false
set_option maxRecDepth 100000
theorem swoN : Go.Sort.SWO ltN where
  irrefl x := by simp [ltN]
  trans x y z h1 h2 := by simp [ltN] at *; omega
  ntrans x y z h1 h2 := by simp [ltN] at *; omega
/-- The rest of a round of pdqsort, behind what was tried first. -/
noncomputable def tailF (d3 : Array Nat) (a b limit : Nat) (wb wp : Bool) (pivot : Nat) : Array Nat :=
  if a > 0 && !ltN d3[a - 1]! d3[pivot]! then
    match Go.Sort.partitionEqual ltN d3 a b pivot with
    | (mid, d4) => if _h : a < mid ∧ mid ≤ b then Go.Sort.pdq ltN d4 mid b limit wb wp else d4
  else
    match Go.Sort.partition ltN d3 a b pivot with
    | (mid, ap, d4) =>
      if _h : a ≤ mid ∧ mid < b then
        if mid - a < b - mid then
          Go.Sort.pdq ltN (Go.Sort.pdq ltN d4 a mid limit true true) (mid + 1) b limit (decide (mid - a ≥ (b - a) / 8)) ap
        else
          Go.Sort.pdq ltN (Go.Sort.pdq ltN d4 (mid + 1) b limit true true) a mid limit (decide (b - mid ≥ (b - a) / 8)) ap
      else d4
theorem pdq_step {d : Array Nat} {a b limit : Nat} {wb wp : Bool} (h12 : ¬ b - a ≤ 12) (hl : ¬ limit = 0) (d1 : Array Nat) (hd1 : d1 = if !wb then Go.Sort.breakPatterns d a b else d) (lim : Nat) (hlim : lim = if !wb then limit - 1 else limit)
    (c : Nat × Go.Sort.Hint) (hc : c = Go.Sort.choosePivot ltN d1 a b) (d2 : Array Nat) (hd2 : d2 = if c.2 = .decreasing then Go.Sort.reverseRange d1 a b else d1) (pivot : Nat) (hp : pivot = if c.2 = .decreasing then (b - 1) - (c.1 - a) else c.1)
    (hint : Go.Sort.Hint) (hh : hint = if c.2 = .decreasing then Go.Sort.Hint.increasing else c.2) (pi : Array Nat × Bool) (hpi : pi = if wb && wp && hint = .increasing then Go.Sort.partialInsertionSort ltN d2 a b else (d2, false)) :
    Go.Sort.pdq ltN d a b limit wb wp = if pi.2 then pi.1 else tailF pi.1 a b lim wb wp pivot := by
  subst hpi; subst hh; subst hp; subst hd2; subst hc; subst hlim; subst hd1
  rw [Go.Sort.pdq, if_neg h12, if_neg hl]
  rfl
theorem shiftDown_size : ∀ (j : Nat) (d : Array Nat), (Go.Sort.shiftDown ltN j d).size = d.size
  | 0, d => rfl
  | j + 1, d => by
    rw [Go.Sort.shiftDown]
    split
    · rfl
    · rw [shiftDown_size j, swp_size]
theorem shiftUp_size (b : Nat) : ∀ (k j : Nat) (d : Array Nat), b - j ≤ k → (Go.Sort.shiftUp ltN b j d).size = d.size := by
  intro k
  induction k with
  | zero => intro j d hk; rw [Go.Sort.shiftUp, if_neg (by omega)]
  | succ k ih =>
    intro j d hk
    rw [Go.Sort.shiftUp]
    split
    · split
      · rfl
      · rw [ih _ _ (by omega), swp_size]
    · rfl
theorem partialIns_size (a b : Nat) : ∀ (s i : Nat) (d : Array Nat), (Go.Sort.partialIns ltN a b s i d).1.size = d.size
  | 0, i, d => rfl
  | s + 1, i, d => by
    rw [Go.Sort.partialIns_succ]
    split
    · rfl
    · split
      · rfl
      · rw [partialIns_size a b s]
        unfold Go.Sort.fixUp Go.Sort.fixDown
        split
        · rw [shiftUp_size _ _ _ _ (Nat.le_refl _)]
          split
          · rw [shiftDown_size, swp_size]
          · rw [swp_size]
        · split
          · rw [shiftDown_size, swp_size]
          · rw [swp_size]
theorem pis_size (d : Array Nat) (a b : Nat) : (Go.Sort.partialInsertionSort ltN d a b).1.size = d.size := partialIns_size _ _ _ _ _
theorem scanUp_max (p : Nat → Bool) (d : Array Nat) (j : Nat) : ∀ (k i : Nat), j + 1 - i ≤ k → Go.Sort.scanUp p d j i ≤ max i (j + 1) := by
  intro k
  induction k with
  | zero => intro i hk; rw [Go.Sort.scanUp, if_neg (by simp; omega)]; omega
  | succ k ih =>
    intro i hk
    rw [Go.Sort.scanUp]
    split
    · rename_i h
      have h1 : i ≤ j := by simp at h; exact h.1
      have := ih (i + 1) (by omega)
      omega
    · omega
theorem partEq_rng (a : Nat) : ∀ (k i j : Nat) (d : Array Nat), j + 1 - i ≤ k → i ≤ (Go.Sort.partEqLoop ltN a i j d).1 ∧ (Go.Sort.partEqLoop ltN a i j d).1 ≤ max i (j + 1) ∧ (Go.Sort.partEqLoop ltN a i j d).2.size = d.size := by
  intro k
  induction k with
  | zero =>
    intro i j d hk
    have e1 : Go.Sort.scanUp (fun x => !ltN d[a]! x) d j i = i := by rw [Go.Sort.scanUp, if_neg (by simp; omega)]
    have e2 := Go.Sort.scanDown_le (fun x => ltN d[a]! x) d i j
    rw [Go.Sort.partEqLoop_eq, e1, if_pos (by omega)]
    exact ⟨Nat.le_refl _, Nat.le_max_left _ _, rfl⟩
  | succ k ih =>
    intro i j d hk
    have e1 := Go.Sort.scanUp_ge (fun x => !ltN d[a]! x) d j i
    have e2 := Go.Sort.scanDown_le (fun x => ltN d[a]! x) d (Go.Sort.scanUp (fun x => !ltN d[a]! x) d j i) j
    have e3 : Go.Sort.scanUp (fun x => !ltN d[a]! x) d j i ≤ max i (j + 1) := scanUp_max _ _ _ _ _ (Nat.le_refl _)
    rw [Go.Sort.partEqLoop_eq]
    split
    · exact ⟨e1, e3, rfl⟩
    · rename_i hx
      obtain ⟨i1, i2, i3⟩ := ih (Go.Sort.scanUp (fun x => !ltN d[a]! x) d j i + 1) (Go.Sort.scanDown (fun x => ltN d[a]! x) d (Go.Sort.scanUp (fun x => !ltN d[a]! x) d j i) j - 1) (Go.Sort.swp d (Go.Sort.scanUp (fun x => !ltN d[a]! x) d j i) (Go.Sort.scanDown (fun x => ltN d[a]! x) d (Go.Sort.scanUp (fun x => !ltN d[a]! x) d j i) j)) (by omega)
      exact ⟨by omega, by omega, by rw [i3, swp_size]⟩
theorem parteq_rng (d : Array Nat) (a b pivot : Nat) (h : a < b) : a < (Go.Sort.partitionEqual ltN d a b pivot).1 ∧ (Go.Sort.partitionEqual ltN d a b pivot).1 ≤ b ∧ (Go.Sort.partitionEqual ltN d a b pivot).2.size = d.size := by
  obtain ⟨h1, h2, h3⟩ := partEq_rng a _ (a + 1) (b - 1) (Go.Sort.swp d a pivot) (Nat.le_refl _)
  unfold Go.Sort.partitionEqual
  exact ⟨by omega, by omega, by rw [h3, swp_size]⟩
theorem pdq_size : ∀ (k : Nat) (d : Array Nat) (a b limit : Nat) (wb wp : Bool), b - a ≤ k → a ≤ b → b ≤ d.size → (Go.Sort.pdq ltN d a b limit wb wp).size = d.size := by
  intro k
  induction k with
  | zero =>
    intro d a b limit wb wp hk hab hb
    rw [Go.Sort.pdq, if_pos (by omega)]
    exact (Go.Sort.insertionSort_holds swoN d a b hab hb).1.1
  | succ k ih =>
    intro d a b limit wb wp hk hab hb
    by_cases h12 : b - a ≤ 12
    · rw [Go.Sort.pdq, if_pos h12]
      exact (Go.Sort.insertionSort_holds swoN d a b hab hb).1.1
    by_cases hl : limit = 0
    · rw [Go.Sort.pdq, if_neg h12, if_pos hl]
      exact (Go.Sort.heapSort_holds swoN d a b hab hb).1.1
    obtain ⟨d1, hd1⟩ : ∃ d1, d1 = if !wb then Go.Sort.breakPatterns d a b else d := ⟨_, rfl⟩
    obtain ⟨c, hc⟩ : ∃ c, c = Go.Sort.choosePivot ltN d1 a b := ⟨_, rfl⟩
    obtain ⟨d2, hd2⟩ : ∃ d2, d2 = if c.2 = .decreasing then Go.Sort.reverseRange d1 a b else d1 := ⟨_, rfl⟩
    obtain ⟨pivot, hp⟩ : ∃ p, p = if c.2 = .decreasing then (b - 1) - (c.1 - a) else c.1 := ⟨_, rfl⟩
    obtain ⟨pi, hpi⟩ : ∃ pi, pi = if wb && wp && (if c.2 = .decreasing then Go.Sort.Hint.increasing else c.2) = .increasing then Go.Sort.partialInsertionSort ltN d2 a b else (d2, false) := ⟨_, rfl⟩
    have s1 : d1.size = d.size := by
      rw [hd1]; split
      · exact (Go.Sort.breakPatterns_holds d a b hab hb).1
      · rfl
    have s2 : d2.size = d.size := by
      rw [hd2]; split
      · rw [(Go.Sort.reverseRange_holds d1 a b hab (by omega)).1, s1]
      · exact s1
    have s3' : ∀ cn : Bool, (if cn = true then Go.Sort.partialInsertionSort ltN d2 a b else (d2, false)).1.size = d.size := fun cn => by
      cases cn
      · exact s2
      · exact (pis_size _ _ _).trans s2
    have s3 : pi.1.size = d.size := by rw [hpi]; exact s3' _
    have hcp := Go.Sort.choosePivot_holds ltN d1 a b (by omega)
    rw [← hc] at hcp
    have hpv : a ≤ pivot ∧ pivot < b := by
      rw [hp]; split <;> omega
    rw [pdq_step h12 hl d1 hd1 _ rfl c hc d2 hd2 pivot hp _ rfl pi hpi]
    split
    · exact s3
    · unfold tailF
      split
      · obtain ⟨r1, r2, r3⟩ := parteq_rng pi.1 a b pivot (by omega)
        generalize Go.Sort.partitionEqual ltN pi.1 a b pivot = pe at r1 r2 r3 ⊢
        obtain ⟨mid, d4⟩ := pe
        dsimp only at r1 r2 r3 ⊢
        rw [dif_pos ⟨r1, r2⟩]
        exact (ih d4 mid b _ wb wp (by omega) r2 (by omega)).trans (r3.trans s3)
      · obtain ⟨r1, r2, r3, -⟩ := Go.Sort.partition_holds ltN swoN pi.1 a b pivot hpv.1 hpv.2 (by omega)
        have r3 := r3.1
        generalize Go.Sort.partition ltN pi.1 a b pivot = pe at r1 r2 r3 ⊢
        obtain ⟨mid, ap, d4⟩ := pe
        dsimp only at r1 r2 r3 ⊢
        rw [dif_pos ⟨r1, r2⟩]
        split
        · have q1 := ih d4 a mid (if !wb then limit - 1 else limit) true true (by omega) r1 (by omega)
          have q2 := ih (Go.Sort.pdq ltN d4 a mid (if !wb then limit - 1 else limit) true true) (mid + 1) b (if !wb then limit - 1 else limit) (decide (mid - a ≥ (b - a) / 8)) ap (by omega) (by omega) (by omega)
          exact q2.trans (q1.trans (r3.trans s3))
        · have q1 := ih d4 (mid + 1) b (if !wb then limit - 1 else limit) true true (by omega) (by omega) (by omega)
          have q2 := ih (Go.Sort.pdq ltN d4 (mid + 1) b (if !wb then limit - 1 else limit) true true) a mid (if !wb then limit - 1 else limit) (decide (b - mid ≥ (b - a) / 8)) ap (by omega) (by omega) (by omega)
          exact q2.trans (q1.trans (r3.trans s3))
theorem tail_eq {d3 d4 : Array Nat} {a b lim pivot mid : Nat} {wb wp : Bool} (h0 : a > 0) (l : ltN d3[a - 1]! d3[pivot]! = false) (h : Go.Sort.partitionEqual ltN d3 a b pivot = (mid, d4)) (r : a < mid ∧ mid ≤ b) : tailF d3 a b lim wb wp pivot = Go.Sort.pdq ltN d4 mid b lim wb wp := by
  unfold tailF
  rw [if_pos (by rw [l]; simpa using h0), h]
  dsimp only
  rw [dif_pos r]
theorem tail_l {d3 d4 : Array Nat} {a b lim pivot mid : Nat} {wb wp ap : Bool} (hE : ¬ (a > 0 ∧ ltN d3[a - 1]! d3[pivot]! = false)) (h : Go.Sort.partition ltN d3 a b pivot = (mid, ap, d4)) (r : a ≤ mid ∧ mid < b) (hlt : mid - a < b - mid) :
    tailF d3 a b lim wb wp pivot = Go.Sort.pdq ltN (Go.Sort.pdq ltN d4 a mid lim true true) (mid + 1) b lim (decide (mid - a ≥ (b - a) / 8)) ap := by
  unfold tailF
  rw [if_neg (by intro hc; rw [Bool.and_eq_true] at hc; exact hE ⟨of_decide_eq_true hc.1, by simpa using hc.2⟩), h]
  dsimp only
  rw [dif_pos r, if_pos hlt]
theorem tail_r {d3 d4 : Array Nat} {a b lim pivot mid : Nat} {wb wp ap : Bool} (hE : ¬ (a > 0 ∧ ltN d3[a - 1]! d3[pivot]! = false)) (h : Go.Sort.partition ltN d3 a b pivot = (mid, ap, d4)) (r : a ≤ mid ∧ mid < b) (hlt : ¬ mid - a < b - mid) :
    tailF d3 a b lim wb wp pivot = Go.Sort.pdq ltN (Go.Sort.pdq ltN d4 (mid + 1) b lim true true) a mid lim (decide (b - mid ≥ (b - a) / 8)) ap := by
  unfold tailF
  rw [if_neg (by intro hc; rw [Bool.and_eq_true] at hc; exact hE ⟨of_decide_eq_true hc.1, by simpa using hc.2⟩), h]
  dsimp only
  rw [dif_pos r, if_neg hlt]
set_option maxHeartbeats 4000000 in
theorem pdq_step_any (N : Nat) (IH : ∀ M, M < N → ∀ (H : AHeap) (hw : Wf H) (blk e c : Nat) (st : Option Nat) (d : Array Nat) (n : Nat) (hn : n = d.size) (hd : Arr H blk e d) (hc : n ≤ c) (hsz : n ≤ 4096) (a b limit : Nat) (hl : limit ≤ 100) (ha : a ≤ b) (hb : b ≤ n) (hN : b - a = M),
    Does Try.prog orc 26 [DV blk n c st, .int .i64 a, .int .i64 b, .int .i64 limit] H fun r H' => r = .ret (.tuple #[]) ∧ Upd blk e H H' (Go.Sort.pdq ltN d a b limit true true)) :
    ∀ (H : AHeap) (hw : Wf H) (blk e c : Nat) (st : Option Nat) (d : Array Nat) (n : Nat) (hn : n = d.size) (hd : Arr H blk e d) (hc : n ≤ c) (hsz : n ≤ 4096) (a b limit : Nat) (hl : limit ≤ 100) (ha : a ≤ b) (hb : b ≤ n) (hN : b - a = N),
    Does Try.prog orc 26 [DV blk n c st, .int .i64 a, .int .i64 b, .int .i64 limit] H fun r H' => r = .ret (.tuple #[]) ∧ Upd blk e H H' (Go.Sort.pdq ltN d a b limit true true) := by
  intro H hw blk e c st d n hn hd hc hsz a0 b0 limit0 hl0 ha0 hb0 hN
  refine Does.of Try.func26 (fun _ _ => rfl) rfl ?_
  repeat' ((conv => whnf); first
    | (refine Both.intro ?_ ?_ <;> intro _ <;> try (exfalso; omega))
    | (refine Need.intro (by omega) ?_)
    | fail)
  all_goals (conv => whnf)
  refine Runs.loop (fun s : Nat × Nat × Nat × Bool × Bool × Array Nat => [(1, .int .i64 (s.1 : Nat)), (2, .int .i64 (s.2.1 : Nat)), (3, .int .i64 (s.2.2.1 : Nat)), (8, .bool s.2.2.2.1), (9, .bool s.2.2.2.2.1), (0, DV blk n c st)])
    (fun s H' => Upd blk e H H' s.2.2.2.2.2 ∧ s.2.2.2.2.2.size = n ∧ s.1 ≤ s.2.1 ∧ s.2.1 ≤ n ∧ s.2.2.1 ≤ 100 ∧ s.2.1 - s.1 ≤ N ∧ Go.Sort.pdq ltN s.2.2.2.2.2 s.1 s.2.1 s.2.2.1 s.2.2.2.1 s.2.2.2.2.1 = Go.Sort.pdq ltN d a0 b0 limit0 true true) (fun s => s.2.1 - s.1) (a0, b0, limit0, true, true, d)
    ⟨rfl, rfl, rfl, rfl, rfl, rfl, trivial⟩ ⟨Upd.refl hd hw, hn.symm, ha0, hb0, hl0, by dsimp only; omega, rfl⟩ ?_
  rintro ⟨a, b, limit, wb, wp, d1⟩ H1 ⟨up, hs, hab, hbn, hlim, hbN, hT⟩
  dsimp only at up hs hab hbn hlim hbN hT
  show vc _ _ _ _ _ [(1, .int .i64 (a : Nat)), (2, .int .i64 (b : Nat)), (3, .int .i64 (limit : Nat)), (8, .bool wb), (9, .bool wp), (0, DV blk n c st)] _ _
  by_cases h12 : b - a ≤ 12
  · rw [Go.Sort.pdq, if_pos h12] at hT
    repeat' ((conv => whnf); first
      | (refine Both.intro ?_ ?_ <;> intro _ <;> try (exfalso; omega))
      | (refine Need.intro (by omega) ?_)
      | (refine Does.mono (insertion_any _ up.wf blk e c st _ n hs.symm up.arr hc (by omega) a b hbn hab) ?_ ; rintro _ H9 ⟨rfl, u9⟩)
      | fail)
    all_goals (conv => whnf)
    exact ⟨rfl, hT ▸ up.trans u9⟩
  by_cases hlz : limit = 0
  · rw [Go.Sort.pdq, if_neg h12, if_pos hlz] at hT
    repeat' ((conv => whnf); first
      | (refine Both.intro ?_ ?_ <;> intro _ <;> try (exfalso; omega))
      | (refine Need.intro (by omega) ?_)
      | (refine Does.mono (heap_any _ up.wf blk e c st _ n hs.symm up.arr hc (by omega) a b (by omega) hbn) ?_ ; rintro _ H9 ⟨rfl, u9⟩)
      | fail)
    all_goals (conv => whnf)
    exact ⟨rfl, hT ▸ up.trans u9⟩
  have PIV : ∀ (G : AHeap) (x : Array Nat) (p : Nat) (h : Go.Sort.Hint) (k : Nat), hintN h = k → x.size = n → Arr G blk e x → Wf G → (p, h) = Go.Sort.choosePivot ltN x a b → Does Try.prog orc 33 [DV blk n c st, .int .i64 a, .int .i64 b] G fun r H' => r = .ret (.tuple #[.int .i64 (p : Nat), .int .i64 (k : Nat)]) ∧ Upd blk e G H' x := fun G x p h k hk q1 q2 q3 q4 => by
    have := pivot_any G q3 blk e c st x n q1.symm q2 hc (by omega) a b (by omega) hbn
    rw [← q4] at this
    dsimp only at this
    rw [hk] at this
    exact this
  have PEQ : ∀ (G : AHeap) (x y : Array Nat) (p m : Nat) (z : Int), z = p → x.size = n → Arr G blk e x → Wf G → a ≤ p → p < b → Go.Sort.partitionEqual ltN x a b p = (m, y) → Does Try.prog orc 37 [DV blk n c st, .int .i64 a, .int .i64 b, .int .i64 z] G fun r H' => r = .ret (.int .i64 (m : Nat)) ∧ Upd blk e G H' y := fun G x y p m z hz q1 q2 q3 q4 q5 q6 => by
    subst hz
    have := parteq_any G q3 blk e c st x n q1.symm q2 hc (by omega) a b p q4 q5 hbn
    rw [q6] at this
    exact this
  have PRT : ∀ (G : AHeap) (x y : Array Nat) (p m : Nat) (ap : Bool) (z : Int), z = p → x.size = n → Arr G blk e x → Wf G → a ≤ p → p < b → Go.Sort.partition ltN x a b p = (m, ap, y) → Does Try.prog orc 38 [DV blk n c st, .int .i64 a, .int .i64 b, .int .i64 z] G fun r H' => r = .ret (.tuple #[.int .i64 (m : Nat), .bool ap]) ∧ Upd blk e G H' y := fun G x y p m ap z hz q1 q2 q3 q4 q5 q6 => by
    subst hz
    have := part_any G q3 blk e c st x n q1.symm q2 hc (by omega) a b p q4 q5 hbn
    rw [q6] at this
    exact this
  have REC : ∀ (G : AHeap) (x : Array Nat) (a' b' lim : Nat) (z : Int), z = lim → x.size = n → Arr G blk e x → Wf G → lim ≤ 100 → a' ≤ b' → b' ≤ n → b' - a' < N → Does Try.prog orc 26 [DV blk n c st, .int .i64 a', .int .i64 b', .int .i64 z] G fun r H' => r = .ret (.tuple #[]) ∧ Upd blk e G H' (Go.Sort.pdq ltN x a' b' lim true true) := fun G x a' b' lim z hz q1 q2 q3 q4 q5 q6 q7 => by
    subst hz
    exact IH (b' - a') q7 G q3 blk e c st x n q1.symm q2 hc hsz a' b' lim q4 q5 q6 rfl
  have PNS : ∀ (G : AHeap) (x y : Array Nat) (f : Bool), x.size = n → Arr G blk e x → Wf G → Go.Sort.partialInsertionSort ltN x a b = (y, f) → Does Try.prog orc 35 [DV blk n c st, .int .i64 a, .int .i64 b] G fun r H' => r = .ret (.bool f) ∧ Upd blk e G H' y := fun G x y f q1 q2 q3 q6 => by
    have := pins_any G q3 blk e c st x n q1.symm q2 hc (by omega) a b (by omega) hbn
    rw [q6] at this
    exact this
  cases wb with
  | false =>
    obtain ⟨e1, he1⟩ : ∃ e1, e1 = Go.Sort.breakPatterns d1 a b := ⟨_, rfl⟩
    have hs1 : e1.size = n := by rw [he1]; exact (Go.Sort.breakPatterns_holds d1 a b hab (by omega)).1.trans hs
    have hbk := break_any H1 up.wf blk e c st d1 n hs.symm up.arr hc hsz a b (by omega) hbn
    rw [← he1] at hbk
    obtain ⟨cp, hcp⟩ : ∃ cp, cp = Go.Sort.choosePivot ltN e1 a b := ⟨_, rfl⟩
    have hpr := Go.Sort.choosePivot_holds ltN e1 a b (by omega)
    rw [← hcp] at hpr
    obtain ⟨p, h⟩ := cp
    dsimp only at hpr
    by_cases hnd : h = .decreasing
    · subst hnd
      have hs2 : (Go.Sort.reverseRange e1 a b).size = n := (Go.Sort.reverseRange_holds e1 a b hab (by omega)).1.trans hs1
      obtain ⟨d2, hd2⟩ : ∃ d2, d2 = (Go.Sort.reverseRange e1 a b) := ⟨_, rfl⟩
      rw [← hd2] at hs2
      obtain ⟨q, hq⟩ : ∃ q, q = b - 1 - (p - a) := ⟨_, rfl⟩
      rw [pdq_step (d := d1) (wb := false) (wp := wp) h12 hlz e1 (he1) (limit - 1) (rfl) (p, .decreasing) hcp d2 (by rw [if_pos rfl]; exact hd2) q (by rw [if_pos rfl]; exact hq) .increasing (by rw [if_pos rfl]) (d2, false) (rfl)] at hT
      change tailF d2 a b (limit - 1) false wp q = _ at hT
      by_cases hE : a > 0 ∧ ltN d2[a - 1]! d2[q]! = false
      · obtain ⟨h0, l⟩ := hE
        obtain ⟨mid, d4⟩ : ∃ m y, Go.Sort.partitionEqual ltN d2 a b q = (m, y) := ⟨_, _, rfl⟩
        obtain ⟨d4, hpe⟩ := d4
        have hr := parteq_rng d2 a b q (by omega)
        rw [hpe] at hr
        rw [tail_eq h0 l hpe ⟨hr.1, hr.2.1⟩] at hT
        repeat' ((conv => whnf); first
          | (refine Both.intro ?_ ?_ <;> intro _ <;> try (exfalso; omega))
          | (refine Need.intro (by omega) ?_)
          | (refine Does.mono (hbk) ?_ ; rintro _ G1 ⟨rfl, v1⟩ ; have up1 := up.trans v1)
          | (refine Does.mono (PIV G1 e1 p .decreasing 2 rfl hs1 up1.arr up1.wf hcp) ?_ ; rintro _ G2 ⟨rfl, v2⟩ ; have up2 := up1.trans v2)
          | (refine Does.mono (reverse_any G2 up2.wf blk e c st e1 n hs1.symm up2.arr hc (by omega) a b (by omega) hbn) ?_ ; rintro _ G3 ⟨rfl, v3⟩ ; rw [← hd2] at v3 ; have up3 := up2.trans v3)
          | (refine ⟨_, up3.arr.cellI (i := a - 1) (by omega) (by omega), ?_⟩)
          | (refine ⟨_, up3.arr.cellI (i := q) (by omega) (by omega), ?_⟩)
          | (refine Does.mono (less_any _ _ _) ?_ ; rintro _ _ ⟨rfl, rfl⟩ ; first | rw [l])
          | (refine Need.intro (draw_mix ⟨lookMix_same, True.intro⟩) ?_)
          | (refine Need.intro (DrawP.intro (by kernel_rfl)) ?_)
          | (refine Does.mono (PEQ G3 d2 d4 q mid _ (by omega) hs2 up3.arr up3.wf (by omega) (by omega) hpe) ?_ ; rintro _ G4 ⟨rfl, u4⟩)
          | fail)
        all_goals (conv => whnf)
        exact ⟨(mid, b, (limit - 1), false, wp, d4), ⟨rfl, rfl, by rw [show ((limit - 1 : Nat) : Int) = (limit : Int) - 1 by omega]; rfl, rfl, rfl, rfl, trivial⟩, ⟨up3.trans u4, hr.2.2.trans hs2, hr.2.1, hbn, by dsimp only; omega, by dsimp only; omega, hT⟩, by dsimp only; omega⟩
      · obtain ⟨mid, d4⟩ : ∃ m y, Go.Sort.partition ltN d2 a b q = (m, y) := ⟨_, _, rfl⟩
        obtain ⟨⟨ap, d4⟩, hpe⟩ := d4
        obtain ⟨r1, r2, r3, -⟩ := Go.Sort.partition_holds ltN swoN d2 a b q (by omega) (by omega) (by rw [hs2]; exact hbn)
        rw [hpe] at r1 r2 r3
        dsimp only at r1 r2 r3
        have hs4 : d4.size = n := r3.1.trans hs2
        by_cases hlt : mid - a < b - mid
        · rw [tail_l hE hpe ⟨r1, r2⟩ hlt] at hT
          have hsz5 := pdq_size _ d4 a mid (limit - 1) true true (Nat.le_refl _) r1 (by omega)
          by_cases hbal : mid - a ≥ (b - a) / 8
          · rw [decide_eq_true hbal] at hT
            rcases Nat.eq_zero_or_pos a with ha0' | ha0'
            · skip
              repeat' ((conv => whnf); first
                | (refine Both.intro ?_ ?_ <;> intro _ <;> try (exfalso; omega))
                | (refine Need.intro (by omega) ?_)
                | (refine Does.mono (hbk) ?_ ; rintro _ G1 ⟨rfl, v1⟩ ; have up1 := up.trans v1)
                | (refine Does.mono (PIV G1 e1 p .decreasing 2 rfl hs1 up1.arr up1.wf hcp) ?_ ; rintro _ G2 ⟨rfl, v2⟩ ; have up2 := up1.trans v2)
                | (refine Does.mono (reverse_any G2 up2.wf blk e c st e1 n hs1.symm up2.arr hc (by omega) a b (by omega) hbn) ?_ ; rintro _ G3 ⟨rfl, v3⟩ ; rw [← hd2] at v3 ; have up3 := up2.trans v3)
                | (refine Need.intro (DrawP.intro (by kernel_rfl)) ?_)
                | (refine Gives.intro ⟨_, quoN (x := b - a) (y := 8) (by omega) (by omega) (by omega), ?_⟩)
                | (refine Does.mono (PRT G3 d2 d4 q mid ap _ (by omega) hs2 up3.arr up3.wf (by omega) (by omega) hpe) ?_ ; rintro _ G4 ⟨rfl, u4⟩)
                | (refine Does.mono (REC G4 d4 a mid (limit - 1) _ (by omega) hs4 u4.arr u4.wf (by omega) r1 (by omega) (by omega)) ?_ ; rintro _ G5 ⟨rfl, u5⟩)
                | fail)
              all_goals (conv => whnf)
              exact ⟨(mid + 1, b, (limit - 1), true, ap, Go.Sort.pdq ltN d4 a mid (limit - 1) true true), ⟨rfl, rfl, by rw [show ((limit - 1 : Nat) : Int) = (limit : Int) - 1 by omega]; rfl, rfl, rfl, rfl, trivial⟩, ⟨(up3.trans u4).trans u5, hsz5.trans hs4, by dsimp only; omega, hbn, by dsimp only; omega, by dsimp only; omega, hT⟩, by dsimp only; omega⟩
            · have l' : ltN d2[a - 1]! d2[q]! = true := by
                cases hx : ltN d2[a - 1]! d2[q]! with
                | true => rfl
                | false => exact absurd ⟨ha0', hx⟩ hE
              repeat' ((conv => whnf); first
                | (refine Both.intro ?_ ?_ <;> intro _ <;> try (exfalso; omega))
                | (refine Need.intro (by omega) ?_)
                | (refine Does.mono (hbk) ?_ ; rintro _ G1 ⟨rfl, v1⟩ ; have up1 := up.trans v1)
                | (refine Does.mono (PIV G1 e1 p .decreasing 2 rfl hs1 up1.arr up1.wf hcp) ?_ ; rintro _ G2 ⟨rfl, v2⟩ ; have up2 := up1.trans v2)
                | (refine Does.mono (reverse_any G2 up2.wf blk e c st e1 n hs1.symm up2.arr hc (by omega) a b (by omega) hbn) ?_ ; rintro _ G3 ⟨rfl, v3⟩ ; rw [← hd2] at v3 ; have up3 := up2.trans v3)
                | (refine ⟨_, up3.arr.cellI (i := a - 1) (by omega) (by omega), ?_⟩)
                | (refine ⟨_, up3.arr.cellI (i := q) (by omega) (by omega), ?_⟩)
                | (refine Does.mono (less_any _ _ _) ?_ ; rintro _ _ ⟨rfl, rfl⟩ ; first | rw [l'])
                | (refine Need.intro (draw_mix ⟨lookMix_same, True.intro⟩) ?_)
                | (refine Need.intro (DrawP.intro (by kernel_rfl)) ?_)
                | (refine Gives.intro ⟨_, quoN (x := b - a) (y := 8) (by omega) (by omega) (by omega), ?_⟩)
                | (refine Does.mono (PRT G3 d2 d4 q mid ap _ (by omega) hs2 up3.arr up3.wf (by omega) (by omega) hpe) ?_ ; rintro _ G4 ⟨rfl, u4⟩)
                | (refine Does.mono (REC G4 d4 a mid (limit - 1) _ (by omega) hs4 u4.arr u4.wf (by omega) r1 (by omega) (by omega)) ?_ ; rintro _ G5 ⟨rfl, u5⟩)
                | fail)
              all_goals (conv => whnf)
              exact ⟨(mid + 1, b, (limit - 1), true, ap, Go.Sort.pdq ltN d4 a mid (limit - 1) true true), ⟨rfl, rfl, by rw [show ((limit - 1 : Nat) : Int) = (limit : Int) - 1 by omega]; rfl, rfl, rfl, rfl, trivial⟩, ⟨(up3.trans u4).trans u5, hsz5.trans hs4, by dsimp only; omega, hbn, by dsimp only; omega, by dsimp only; omega, hT⟩, by dsimp only; omega⟩
          · rw [decide_eq_false hbal] at hT
            rcases Nat.eq_zero_or_pos a with ha0' | ha0'
            · skip
              repeat' ((conv => whnf); first
                | (refine Both.intro ?_ ?_ <;> intro _ <;> try (exfalso; omega))
                | (refine Need.intro (by omega) ?_)
                | (refine Does.mono (hbk) ?_ ; rintro _ G1 ⟨rfl, v1⟩ ; have up1 := up.trans v1)
                | (refine Does.mono (PIV G1 e1 p .decreasing 2 rfl hs1 up1.arr up1.wf hcp) ?_ ; rintro _ G2 ⟨rfl, v2⟩ ; have up2 := up1.trans v2)
                | (refine Does.mono (reverse_any G2 up2.wf blk e c st e1 n hs1.symm up2.arr hc (by omega) a b (by omega) hbn) ?_ ; rintro _ G3 ⟨rfl, v3⟩ ; rw [← hd2] at v3 ; have up3 := up2.trans v3)
                | (refine Need.intro (DrawP.intro (by kernel_rfl)) ?_)
                | (refine Gives.intro ⟨_, quoN (x := b - a) (y := 8) (by omega) (by omega) (by omega), ?_⟩)
                | (refine Does.mono (PRT G3 d2 d4 q mid ap _ (by omega) hs2 up3.arr up3.wf (by omega) (by omega) hpe) ?_ ; rintro _ G4 ⟨rfl, u4⟩)
                | (refine Does.mono (REC G4 d4 a mid (limit - 1) _ (by omega) hs4 u4.arr u4.wf (by omega) r1 (by omega) (by omega)) ?_ ; rintro _ G5 ⟨rfl, u5⟩)
                | fail)
              all_goals (conv => whnf)
              exact ⟨(mid + 1, b, (limit - 1), false, ap, Go.Sort.pdq ltN d4 a mid (limit - 1) true true), ⟨rfl, rfl, by rw [show ((limit - 1 : Nat) : Int) = (limit : Int) - 1 by omega]; rfl, rfl, rfl, rfl, trivial⟩, ⟨(up3.trans u4).trans u5, hsz5.trans hs4, by dsimp only; omega, hbn, by dsimp only; omega, by dsimp only; omega, hT⟩, by dsimp only; omega⟩
            · have l' : ltN d2[a - 1]! d2[q]! = true := by
                cases hx : ltN d2[a - 1]! d2[q]! with
                | true => rfl
                | false => exact absurd ⟨ha0', hx⟩ hE
              repeat' ((conv => whnf); first
                | (refine Both.intro ?_ ?_ <;> intro _ <;> try (exfalso; omega))
                | (refine Need.intro (by omega) ?_)
                | (refine Does.mono (hbk) ?_ ; rintro _ G1 ⟨rfl, v1⟩ ; have up1 := up.trans v1)
                | (refine Does.mono (PIV G1 e1 p .decreasing 2 rfl hs1 up1.arr up1.wf hcp) ?_ ; rintro _ G2 ⟨rfl, v2⟩ ; have up2 := up1.trans v2)
                | (refine Does.mono (reverse_any G2 up2.wf blk e c st e1 n hs1.symm up2.arr hc (by omega) a b (by omega) hbn) ?_ ; rintro _ G3 ⟨rfl, v3⟩ ; rw [← hd2] at v3 ; have up3 := up2.trans v3)
                | (refine ⟨_, up3.arr.cellI (i := a - 1) (by omega) (by omega), ?_⟩)
                | (refine ⟨_, up3.arr.cellI (i := q) (by omega) (by omega), ?_⟩)
                | (refine Does.mono (less_any _ _ _) ?_ ; rintro _ _ ⟨rfl, rfl⟩ ; first | rw [l'])
                | (refine Need.intro (draw_mix ⟨lookMix_same, True.intro⟩) ?_)
                | (refine Need.intro (DrawP.intro (by kernel_rfl)) ?_)
                | (refine Gives.intro ⟨_, quoN (x := b - a) (y := 8) (by omega) (by omega) (by omega), ?_⟩)
                | (refine Does.mono (PRT G3 d2 d4 q mid ap _ (by omega) hs2 up3.arr up3.wf (by omega) (by omega) hpe) ?_ ; rintro _ G4 ⟨rfl, u4⟩)
                | (refine Does.mono (REC G4 d4 a mid (limit - 1) _ (by omega) hs4 u4.arr u4.wf (by omega) r1 (by omega) (by omega)) ?_ ; rintro _ G5 ⟨rfl, u5⟩)
                | fail)
              all_goals (conv => whnf)
              exact ⟨(mid + 1, b, (limit - 1), false, ap, Go.Sort.pdq ltN d4 a mid (limit - 1) true true), ⟨rfl, rfl, by rw [show ((limit - 1 : Nat) : Int) = (limit : Int) - 1 by omega]; rfl, rfl, rfl, rfl, trivial⟩, ⟨(up3.trans u4).trans u5, hsz5.trans hs4, by dsimp only; omega, hbn, by dsimp only; omega, by dsimp only; omega, hT⟩, by dsimp only; omega⟩
        · rw [tail_r hE hpe ⟨r1, r2⟩ hlt] at hT
          have hsz5 := pdq_size _ d4 (mid + 1) b (limit - 1) true true (Nat.le_refl _) (by omega) (by omega)
          by_cases hbal : b - mid ≥ (b - a) / 8
          · rw [decide_eq_true hbal] at hT
            rcases Nat.eq_zero_or_pos a with ha0' | ha0'
            · skip
              repeat' ((conv => whnf); first
                | (refine Both.intro ?_ ?_ <;> intro _ <;> try (exfalso; omega))
                | (refine Need.intro (by omega) ?_)
                | (refine Does.mono (hbk) ?_ ; rintro _ G1 ⟨rfl, v1⟩ ; have up1 := up.trans v1)
                | (refine Does.mono (PIV G1 e1 p .decreasing 2 rfl hs1 up1.arr up1.wf hcp) ?_ ; rintro _ G2 ⟨rfl, v2⟩ ; have up2 := up1.trans v2)
                | (refine Does.mono (reverse_any G2 up2.wf blk e c st e1 n hs1.symm up2.arr hc (by omega) a b (by omega) hbn) ?_ ; rintro _ G3 ⟨rfl, v3⟩ ; rw [← hd2] at v3 ; have up3 := up2.trans v3)
                | (refine Need.intro (DrawP.intro (by kernel_rfl)) ?_)
                | (refine Gives.intro ⟨_, quoN (x := b - a) (y := 8) (by omega) (by omega) (by omega), ?_⟩)
                | (refine Does.mono (PRT G3 d2 d4 q mid ap _ (by omega) hs2 up3.arr up3.wf (by omega) (by omega) hpe) ?_ ; rintro _ G4 ⟨rfl, u4⟩)
                | (refine Does.mono (REC G4 d4 (mid + 1) b (limit - 1) _ (by omega) hs4 u4.arr u4.wf (by omega) (by omega) hbn (by omega)) ?_ ; rintro _ G5 ⟨rfl, u5⟩)
                | fail)
              all_goals (conv => whnf)
              exact ⟨(a, mid, (limit - 1), true, ap, Go.Sort.pdq ltN d4 (mid + 1) b (limit - 1) true true), ⟨rfl, rfl, by rw [show ((limit - 1 : Nat) : Int) = (limit : Int) - 1 by omega]; rfl, rfl, rfl, rfl, trivial⟩, ⟨(up3.trans u4).trans u5, hsz5.trans hs4, r1, by dsimp only; omega, by dsimp only; omega, by dsimp only; omega, hT⟩, by dsimp only; omega⟩
            · have l' : ltN d2[a - 1]! d2[q]! = true := by
                cases hx : ltN d2[a - 1]! d2[q]! with
                | true => rfl
                | false => exact absurd ⟨ha0', hx⟩ hE
              repeat' ((conv => whnf); first
                | (refine Both.intro ?_ ?_ <;> intro _ <;> try (exfalso; omega))
                | (refine Need.intro (by omega) ?_)
                | (refine Does.mono (hbk) ?_ ; rintro _ G1 ⟨rfl, v1⟩ ; have up1 := up.trans v1)
                | (refine Does.mono (PIV G1 e1 p .decreasing 2 rfl hs1 up1.arr up1.wf hcp) ?_ ; rintro _ G2 ⟨rfl, v2⟩ ; have up2 := up1.trans v2)
                | (refine Does.mono (reverse_any G2 up2.wf blk e c st e1 n hs1.symm up2.arr hc (by omega) a b (by omega) hbn) ?_ ; rintro _ G3 ⟨rfl, v3⟩ ; rw [← hd2] at v3 ; have up3 := up2.trans v3)
                | (refine ⟨_, up3.arr.cellI (i := a - 1) (by omega) (by omega), ?_⟩)
                | (refine ⟨_, up3.arr.cellI (i := q) (by omega) (by omega), ?_⟩)
                | (refine Does.mono (less_any _ _ _) ?_ ; rintro _ _ ⟨rfl, rfl⟩ ; first | rw [l'])
                | (refine Need.intro (draw_mix ⟨lookMix_same, True.intro⟩) ?_)
                | (refine Need.intro (DrawP.intro (by kernel_rfl)) ?_)
                | (refine Gives.intro ⟨_, quoN (x := b - a) (y := 8) (by omega) (by omega) (by omega), ?_⟩)
                | (refine Does.mono (PRT G3 d2 d4 q mid ap _ (by omega) hs2 up3.arr up3.wf (by omega) (by omega) hpe) ?_ ; rintro _ G4 ⟨rfl, u4⟩)
                | (refine Does.mono (REC G4 d4 (mid + 1) b (limit - 1) _ (by omega) hs4 u4.arr u4.wf (by omega) (by omega) hbn (by omega)) ?_ ; rintro _ G5 ⟨rfl, u5⟩)
                | fail)
              all_goals (conv => whnf)
              exact ⟨(a, mid, (limit - 1), true, ap, Go.Sort.pdq ltN d4 (mid + 1) b (limit - 1) true true), ⟨rfl, rfl, by rw [show ((limit - 1 : Nat) : Int) = (limit : Int) - 1 by omega]; rfl, rfl, rfl, rfl, trivial⟩, ⟨(up3.trans u4).trans u5, hsz5.trans hs4, r1, by dsimp only; omega, by dsimp only; omega, by dsimp only; omega, hT⟩, by dsimp only; omega⟩
          · rw [decide_eq_false hbal] at hT
            rcases Nat.eq_zero_or_pos a with ha0' | ha0'
            · skip
              repeat' ((conv => whnf); first
                | (refine Both.intro ?_ ?_ <;> intro _ <;> try (exfalso; omega))
                | (refine Need.intro (by omega) ?_)
                | (refine Does.mono (hbk) ?_ ; rintro _ G1 ⟨rfl, v1⟩ ; have up1 := up.trans v1)
                | (refine Does.mono (PIV G1 e1 p .decreasing 2 rfl hs1 up1.arr up1.wf hcp) ?_ ; rintro _ G2 ⟨rfl, v2⟩ ; have up2 := up1.trans v2)
                | (refine Does.mono (reverse_any G2 up2.wf blk e c st e1 n hs1.symm up2.arr hc (by omega) a b (by omega) hbn) ?_ ; rintro _ G3 ⟨rfl, v3⟩ ; rw [← hd2] at v3 ; have up3 := up2.trans v3)
                | (refine Need.intro (DrawP.intro (by kernel_rfl)) ?_)
                | (refine Gives.intro ⟨_, quoN (x := b - a) (y := 8) (by omega) (by omega) (by omega), ?_⟩)
                | (refine Does.mono (PRT G3 d2 d4 q mid ap _ (by omega) hs2 up3.arr up3.wf (by omega) (by omega) hpe) ?_ ; rintro _ G4 ⟨rfl, u4⟩)
                | (refine Does.mono (REC G4 d4 (mid + 1) b (limit - 1) _ (by omega) hs4 u4.arr u4.wf (by omega) (by omega) hbn (by omega)) ?_ ; rintro _ G5 ⟨rfl, u5⟩)
                | fail)
              all_goals (conv => whnf)
              exact ⟨(a, mid, (limit - 1), false, ap, Go.Sort.pdq ltN d4 (mid + 1) b (limit - 1) true true), ⟨rfl, rfl, by rw [show ((limit - 1 : Nat) : Int) = (limit : Int) - 1 by omega]; rfl, rfl, rfl, rfl, trivial⟩, ⟨(up3.trans u4).trans u5, hsz5.trans hs4, r1, by dsimp only; omega, by dsimp only; omega, by dsimp only; omega, hT⟩, by dsimp only; omega⟩
            · have l' : ltN d2[a - 1]! d2[q]! = true := by
                cases hx : ltN d2[a - 1]! d2[q]! with
                | true => rfl
                | false => exact absurd ⟨ha0', hx⟩ hE
              repeat' ((conv => whnf); first
                | (refine Both.intro ?_ ?_ <;> intro _ <;> try (exfalso; omega))
                | (refine Need.intro (by omega) ?_)
                | (refine Does.mono (hbk) ?_ ; rintro _ G1 ⟨rfl, v1⟩ ; have up1 := up.trans v1)
                | (refine Does.mono (PIV G1 e1 p .decreasing 2 rfl hs1 up1.arr up1.wf hcp) ?_ ; rintro _ G2 ⟨rfl, v2⟩ ; have up2 := up1.trans v2)
                | (refine Does.mono (reverse_any G2 up2.wf blk e c st e1 n hs1.symm up2.arr hc (by omega) a b (by omega) hbn) ?_ ; rintro _ G3 ⟨rfl, v3⟩ ; rw [← hd2] at v3 ; have up3 := up2.trans v3)
                | (refine ⟨_, up3.arr.cellI (i := a - 1) (by omega) (by omega), ?_⟩)
                | (refine ⟨_, up3.arr.cellI (i := q) (by omega) (by omega), ?_⟩)
                | (refine Does.mono (less_any _ _ _) ?_ ; rintro _ _ ⟨rfl, rfl⟩ ; first | rw [l'])
                | (refine Need.intro (draw_mix ⟨lookMix_same, True.intro⟩) ?_)
                | (refine Need.intro (DrawP.intro (by kernel_rfl)) ?_)
                | (refine Gives.intro ⟨_, quoN (x := b - a) (y := 8) (by omega) (by omega) (by omega), ?_⟩)
                | (refine Does.mono (PRT G3 d2 d4 q mid ap _ (by omega) hs2 up3.arr up3.wf (by omega) (by omega) hpe) ?_ ; rintro _ G4 ⟨rfl, u4⟩)
                | (refine Does.mono (REC G4 d4 (mid + 1) b (limit - 1) _ (by omega) hs4 u4.arr u4.wf (by omega) (by omega) hbn (by omega)) ?_ ; rintro _ G5 ⟨rfl, u5⟩)
                | fail)
              all_goals (conv => whnf)
              exact ⟨(a, mid, (limit - 1), false, ap, Go.Sort.pdq ltN d4 (mid + 1) b (limit - 1) true true), ⟨rfl, rfl, by rw [show ((limit - 1 : Nat) : Int) = (limit : Int) - 1 by omega]; rfl, rfl, rfl, rfl, trivial⟩, ⟨(up3.trans u4).trans u5, hsz5.trans hs4, r1, by dsimp only; omega, by dsimp only; omega, by dsimp only; omega, hT⟩, by dsimp only; omega⟩
    · have hnd2 : hintN h ≠ 2 := by cases h <;> first | decide | exact absurd rfl hnd
      rw [pdq_step (d := d1) (wb := false) (wp := wp) h12 hlz e1 (he1) (limit - 1) (rfl) (p, h) hcp e1 (by rw [if_neg hnd]) p (by rw [if_neg hnd]) h (by rw [if_neg hnd]) (e1, false) (rfl)] at hT
      change tailF e1 a b (limit - 1) false wp p = _ at hT
      by_cases hE : a > 0 ∧ ltN e1[a - 1]! e1[p]! = false
      · obtain ⟨h0, l⟩ := hE
        obtain ⟨mid, d4⟩ : ∃ m y, Go.Sort.partitionEqual ltN e1 a b p = (m, y) := ⟨_, _, rfl⟩
        obtain ⟨d4, hpe⟩ := d4
        have hr := parteq_rng e1 a b p (by omega)
        rw [hpe] at hr
        rw [tail_eq h0 l hpe ⟨hr.1, hr.2.1⟩] at hT
        repeat' ((conv => whnf); first
          | (refine Both.intro ?_ ?_ <;> intro _ <;> try (exfalso; omega))
          | (refine Need.intro (by omega) ?_)
          | (refine Does.mono (hbk) ?_ ; rintro _ G1 ⟨rfl, v1⟩ ; have up1 := up.trans v1)
          | (refine Does.mono (PIV G1 e1 p h (hintN h) rfl hs1 up1.arr up1.wf hcp) ?_ ; rintro _ G2 ⟨rfl, v2⟩ ; have up2 := up1.trans v2)
          | (refine ⟨_, up2.arr.cellI (i := a - 1) (by omega) (by omega), ?_⟩)
          | (refine ⟨_, up2.arr.cellI (i := p) (by omega) (by omega), ?_⟩)
          | (refine Does.mono (less_any _ _ _) ?_ ; rintro _ _ ⟨rfl, rfl⟩ ; first | rw [l])
          | (refine Need.intro (draw_mix ⟨lookMix_same, True.intro⟩) ?_)
          | (refine Need.intro (DrawP.intro (by kernel_rfl)) ?_)
          | (refine Does.mono (PEQ G2 e1 d4 p mid _ (by omega) hs1 up2.arr up2.wf (by omega) (by omega) hpe) ?_ ; rintro _ G4 ⟨rfl, u4⟩)
          | fail)
        all_goals (conv => whnf)
        exact ⟨(mid, b, (limit - 1), false, wp, d4), ⟨rfl, rfl, by rw [show ((limit - 1 : Nat) : Int) = (limit : Int) - 1 by omega]; rfl, rfl, rfl, rfl, trivial⟩, ⟨up2.trans u4, hr.2.2.trans hs1, hr.2.1, hbn, by dsimp only; omega, by dsimp only; omega, hT⟩, by dsimp only; omega⟩
      · obtain ⟨mid, d4⟩ : ∃ m y, Go.Sort.partition ltN e1 a b p = (m, y) := ⟨_, _, rfl⟩
        obtain ⟨⟨ap, d4⟩, hpe⟩ := d4
        obtain ⟨r1, r2, r3, -⟩ := Go.Sort.partition_holds ltN swoN e1 a b p (by omega) (by omega) (by rw [hs1]; exact hbn)
        rw [hpe] at r1 r2 r3
        dsimp only at r1 r2 r3
        have hs4 : d4.size = n := r3.1.trans hs1
        by_cases hlt : mid - a < b - mid
        · rw [tail_l hE hpe ⟨r1, r2⟩ hlt] at hT
          have hsz5 := pdq_size _ d4 a mid (limit - 1) true true (Nat.le_refl _) r1 (by omega)
          by_cases hbal : mid - a ≥ (b - a) / 8
          · rw [decide_eq_true hbal] at hT
            rcases Nat.eq_zero_or_pos a with ha0' | ha0'
            · skip
              repeat' ((conv => whnf); first
                | (refine Both.intro ?_ ?_ <;> intro _ <;> try (exfalso; omega))
                | (refine Need.intro (by omega) ?_)
                | (refine Does.mono (hbk) ?_ ; rintro _ G1 ⟨rfl, v1⟩ ; have up1 := up.trans v1)
                | (refine Does.mono (PIV G1 e1 p h (hintN h) rfl hs1 up1.arr up1.wf hcp) ?_ ; rintro _ G2 ⟨rfl, v2⟩ ; have up2 := up1.trans v2)
                | (refine Need.intro (DrawP.intro (by kernel_rfl)) ?_)
                | (refine Gives.intro ⟨_, quoN (x := b - a) (y := 8) (by omega) (by omega) (by omega), ?_⟩)
                | (refine Does.mono (PRT G2 e1 d4 p mid ap _ (by omega) hs1 up2.arr up2.wf (by omega) (by omega) hpe) ?_ ; rintro _ G4 ⟨rfl, u4⟩)
                | (refine Does.mono (REC G4 d4 a mid (limit - 1) _ (by omega) hs4 u4.arr u4.wf (by omega) r1 (by omega) (by omega)) ?_ ; rintro _ G5 ⟨rfl, u5⟩)
                | fail)
              all_goals (conv => whnf)
              exact ⟨(mid + 1, b, (limit - 1), true, ap, Go.Sort.pdq ltN d4 a mid (limit - 1) true true), ⟨rfl, rfl, by rw [show ((limit - 1 : Nat) : Int) = (limit : Int) - 1 by omega]; rfl, rfl, rfl, rfl, trivial⟩, ⟨(up2.trans u4).trans u5, hsz5.trans hs4, by dsimp only; omega, hbn, by dsimp only; omega, by dsimp only; omega, hT⟩, by dsimp only; omega⟩
            · have l' : ltN e1[a - 1]! e1[p]! = true := by
                cases hx : ltN e1[a - 1]! e1[p]! with
                | true => rfl
                | false => exact absurd ⟨ha0', hx⟩ hE
              repeat' ((conv => whnf); first
                | (refine Both.intro ?_ ?_ <;> intro _ <;> try (exfalso; omega))
                | (refine Need.intro (by omega) ?_)
                | (refine Does.mono (hbk) ?_ ; rintro _ G1 ⟨rfl, v1⟩ ; have up1 := up.trans v1)
                | (refine Does.mono (PIV G1 e1 p h (hintN h) rfl hs1 up1.arr up1.wf hcp) ?_ ; rintro _ G2 ⟨rfl, v2⟩ ; have up2 := up1.trans v2)
                | (refine ⟨_, up2.arr.cellI (i := a - 1) (by omega) (by omega), ?_⟩)
                | (refine ⟨_, up2.arr.cellI (i := p) (by omega) (by omega), ?_⟩)
                | (refine Does.mono (less_any _ _ _) ?_ ; rintro _ _ ⟨rfl, rfl⟩ ; first | rw [l'])
                | (refine Need.intro (draw_mix ⟨lookMix_same, True.intro⟩) ?_)
                | (refine Need.intro (DrawP.intro (by kernel_rfl)) ?_)
                | (refine Gives.intro ⟨_, quoN (x := b - a) (y := 8) (by omega) (by omega) (by omega), ?_⟩)
                | (refine Does.mono (PRT G2 e1 d4 p mid ap _ (by omega) hs1 up2.arr up2.wf (by omega) (by omega) hpe) ?_ ; rintro _ G4 ⟨rfl, u4⟩)
                | (refine Does.mono (REC G4 d4 a mid (limit - 1) _ (by omega) hs4 u4.arr u4.wf (by omega) r1 (by omega) (by omega)) ?_ ; rintro _ G5 ⟨rfl, u5⟩)
                | fail)
              all_goals (conv => whnf)
              exact ⟨(mid + 1, b, (limit - 1), true, ap, Go.Sort.pdq ltN d4 a mid (limit - 1) true true), ⟨rfl, rfl, by rw [show ((limit - 1 : Nat) : Int) = (limit : Int) - 1 by omega]; rfl, rfl, rfl, rfl, trivial⟩, ⟨(up2.trans u4).trans u5, hsz5.trans hs4, by dsimp only; omega, hbn, by dsimp only; omega, by dsimp only; omega, hT⟩, by dsimp only; omega⟩
          · rw [decide_eq_false hbal] at hT
            rcases Nat.eq_zero_or_pos a with ha0' | ha0'
            · skip
              repeat' ((conv => whnf); first
                | (refine Both.intro ?_ ?_ <;> intro _ <;> try (exfalso; omega))
                | (refine Need.intro (by omega) ?_)
                | (refine Does.mono (hbk) ?_ ; rintro _ G1 ⟨rfl, v1⟩ ; have up1 := up.trans v1)
                | (refine Does.mono (PIV G1 e1 p h (hintN h) rfl hs1 up1.arr up1.wf hcp) ?_ ; rintro _ G2 ⟨rfl, v2⟩ ; have up2 := up1.trans v2)
                | (refine Need.intro (DrawP.intro (by kernel_rfl)) ?_)
                | (refine Gives.intro ⟨_, quoN (x := b - a) (y := 8) (by omega) (by omega) (by omega), ?_⟩)
                | (refine Does.mono (PRT G2 e1 d4 p mid ap _ (by omega) hs1 up2.arr up2.wf (by omega) (by omega) hpe) ?_ ; rintro _ G4 ⟨rfl, u4⟩)
                | (refine Does.mono (REC G4 d4 a mid (limit - 1) _ (by omega) hs4 u4.arr u4.wf (by omega) r1 (by omega) (by omega)) ?_ ; rintro _ G5 ⟨rfl, u5⟩)
                | fail)
              all_goals (conv => whnf)
              exact ⟨(mid + 1, b, (limit - 1), false, ap, Go.Sort.pdq ltN d4 a mid (limit - 1) true true), ⟨rfl, rfl, by rw [show ((limit - 1 : Nat) : Int) = (limit : Int) - 1 by omega]; rfl, rfl, rfl, rfl, trivial⟩, ⟨(up2.trans u4).trans u5, hsz5.trans hs4, by dsimp only; omega, hbn, by dsimp only; omega, by dsimp only; omega, hT⟩, by dsimp only; omega⟩
            · have l' : ltN e1[a - 1]! e1[p]! = true := by
                cases hx : ltN e1[a - 1]! e1[p]! with
                | true => rfl
                | false => exact absurd ⟨ha0', hx⟩ hE
              repeat' ((conv => whnf); first
                | (refine Both.intro ?_ ?_ <;> intro _ <;> try (exfalso; omega))
                | (refine Need.intro (by omega) ?_)
                | (refine Does.mono (hbk) ?_ ; rintro _ G1 ⟨rfl, v1⟩ ; have up1 := up.trans v1)
                | (refine Does.mono (PIV G1 e1 p h (hintN h) rfl hs1 up1.arr up1.wf hcp) ?_ ; rintro _ G2 ⟨rfl, v2⟩ ; have up2 := up1.trans v2)
                | (refine ⟨_, up2.arr.cellI (i := a - 1) (by omega) (by omega), ?_⟩)
                | (refine ⟨_, up2.arr.cellI (i := p) (by omega) (by omega), ?_⟩)
                | (refine Does.mono (less_any _ _ _) ?_ ; rintro _ _ ⟨rfl, rfl⟩ ; first | rw [l'])
                | (refine Need.intro (draw_mix ⟨lookMix_same, True.intro⟩) ?_)
                | (refine Need.intro (DrawP.intro (by kernel_rfl)) ?_)
                | (refine Gives.intro ⟨_, quoN (x := b - a) (y := 8) (by omega) (by omega) (by omega), ?_⟩)
                | (refine Does.mono (PRT G2 e1 d4 p mid ap _ (by omega) hs1 up2.arr up2.wf (by omega) (by omega) hpe) ?_ ; rintro _ G4 ⟨rfl, u4⟩)
                | (refine Does.mono (REC G4 d4 a mid (limit - 1) _ (by omega) hs4 u4.arr u4.wf (by omega) r1 (by omega) (by omega)) ?_ ; rintro _ G5 ⟨rfl, u5⟩)
                | fail)
              all_goals (conv => whnf)
              exact ⟨(mid + 1, b, (limit - 1), false, ap, Go.Sort.pdq ltN d4 a mid (limit - 1) true true), ⟨rfl, rfl, by rw [show ((limit - 1 : Nat) : Int) = (limit : Int) - 1 by omega]; rfl, rfl, rfl, rfl, trivial⟩, ⟨(up2.trans u4).trans u5, hsz5.trans hs4, by dsimp only; omega, hbn, by dsimp only; omega, by dsimp only; omega, hT⟩, by dsimp only; omega⟩
        · rw [tail_r hE hpe ⟨r1, r2⟩ hlt] at hT
          have hsz5 := pdq_size _ d4 (mid + 1) b (limit - 1) true true (Nat.le_refl _) (by omega) (by omega)
          by_cases hbal : b - mid ≥ (b - a) / 8
          · rw [decide_eq_true hbal] at hT
            rcases Nat.eq_zero_or_pos a with ha0' | ha0'
            · skip
              repeat' ((conv => whnf); first
                | (refine Both.intro ?_ ?_ <;> intro _ <;> try (exfalso; omega))
                | (refine Need.intro (by omega) ?_)
                | (refine Does.mono (hbk) ?_ ; rintro _ G1 ⟨rfl, v1⟩ ; have up1 := up.trans v1)
                | (refine Does.mono (PIV G1 e1 p h (hintN h) rfl hs1 up1.arr up1.wf hcp) ?_ ; rintro _ G2 ⟨rfl, v2⟩ ; have up2 := up1.trans v2)
                | (refine Need.intro (DrawP.intro (by kernel_rfl)) ?_)
                | (refine Gives.intro ⟨_, quoN (x := b - a) (y := 8) (by omega) (by omega) (by omega), ?_⟩)
                | (refine Does.mono (PRT G2 e1 d4 p mid ap _ (by omega) hs1 up2.arr up2.wf (by omega) (by omega) hpe) ?_ ; rintro _ G4 ⟨rfl, u4⟩)
                | (refine Does.mono (REC G4 d4 (mid + 1) b (limit - 1) _ (by omega) hs4 u4.arr u4.wf (by omega) (by omega) hbn (by omega)) ?_ ; rintro _ G5 ⟨rfl, u5⟩)
                | fail)
              all_goals (conv => whnf)
              exact ⟨(a, mid, (limit - 1), true, ap, Go.Sort.pdq ltN d4 (mid + 1) b (limit - 1) true true), ⟨rfl, rfl, by rw [show ((limit - 1 : Nat) : Int) = (limit : Int) - 1 by omega]; rfl, rfl, rfl, rfl, trivial⟩, ⟨(up2.trans u4).trans u5, hsz5.trans hs4, r1, by dsimp only; omega, by dsimp only; omega, by dsimp only; omega, hT⟩, by dsimp only; omega⟩
            · have l' : ltN e1[a - 1]! e1[p]! = true := by
                cases hx : ltN e1[a - 1]! e1[p]! with
                | true => rfl
                | false => exact absurd ⟨ha0', hx⟩ hE
              repeat' ((conv => whnf); first
                | (refine Both.intro ?_ ?_ <;> intro _ <;> try (exfalso; omega))
                | (refine Need.intro (by omega) ?_)
                | (refine Does.mono (hbk) ?_ ; rintro _ G1 ⟨rfl, v1⟩ ; have up1 := up.trans v1)
                | (refine Does.mono (PIV G1 e1 p h (hintN h) rfl hs1 up1.arr up1.wf hcp) ?_ ; rintro _ G2 ⟨rfl, v2⟩ ; have up2 := up1.trans v2)
                | (refine ⟨_, up2.arr.cellI (i := a - 1) (by omega) (by omega), ?_⟩)
                | (refine ⟨_, up2.arr.cellI (i := p) (by omega) (by omega), ?_⟩)
                | (refine Does.mono (less_any _ _ _) ?_ ; rintro _ _ ⟨rfl, rfl⟩ ; first | rw [l'])
                | (refine Need.intro (draw_mix ⟨lookMix_same, True.intro⟩) ?_)
                | (refine Need.intro (DrawP.intro (by kernel_rfl)) ?_)
                | (refine Gives.intro ⟨_, quoN (x := b - a) (y := 8) (by omega) (by omega) (by omega), ?_⟩)
                | (refine Does.mono (PRT G2 e1 d4 p mid ap _ (by omega) hs1 up2.arr up2.wf (by omega) (by omega) hpe) ?_ ; rintro _ G4 ⟨rfl, u4⟩)
                | (refine Does.mono (REC G4 d4 (mid + 1) b (limit - 1) _ (by omega) hs4 u4.arr u4.wf (by omega) (by omega) hbn (by omega)) ?_ ; rintro _ G5 ⟨rfl, u5⟩)
                | fail)
              all_goals (conv => whnf)
              exact ⟨(a, mid, (limit - 1), true, ap, Go.Sort.pdq ltN d4 (mid + 1) b (limit - 1) true true), ⟨rfl, rfl, by rw [show ((limit - 1 : Nat) : Int) = (limit : Int) - 1 by omega]; rfl, rfl, rfl, rfl, trivial⟩, ⟨(up2.trans u4).trans u5, hsz5.trans hs4, r1, by dsimp only; omega, by dsimp only; omega, by dsimp only; omega, hT⟩, by dsimp only; omega⟩
          · rw [decide_eq_false hbal] at hT
            rcases Nat.eq_zero_or_pos a with ha0' | ha0'
            · skip
              repeat' ((conv => whnf); first
                | (refine Both.intro ?_ ?_ <;> intro _ <;> try (exfalso; omega))
                | (refine Need.intro (by omega) ?_)
                | (refine Does.mono (hbk) ?_ ; rintro _ G1 ⟨rfl, v1⟩ ; have up1 := up.trans v1)
                | (refine Does.mono (PIV G1 e1 p h (hintN h) rfl hs1 up1.arr up1.wf hcp) ?_ ; rintro _ G2 ⟨rfl, v2⟩ ; have up2 := up1.trans v2)
                | (refine Need.intro (DrawP.intro (by kernel_rfl)) ?_)
                | (refine Gives.intro ⟨_, quoN (x := b - a) (y := 8) (by omega) (by omega) (by omega), ?_⟩)
                | (refine Does.mono (PRT G2 e1 d4 p mid ap _ (by omega) hs1 up2.arr up2.wf (by omega) (by omega) hpe) ?_ ; rintro _ G4 ⟨rfl, u4⟩)
                | (refine Does.mono (REC G4 d4 (mid + 1) b (limit - 1) _ (by omega) hs4 u4.arr u4.wf (by omega) (by omega) hbn (by omega)) ?_ ; rintro _ G5 ⟨rfl, u5⟩)
                | fail)
              all_goals (conv => whnf)
              exact ⟨(a, mid, (limit - 1), false, ap, Go.Sort.pdq ltN d4 (mid + 1) b (limit - 1) true true), ⟨rfl, rfl, by rw [show ((limit - 1 : Nat) : Int) = (limit : Int) - 1 by omega]; rfl, rfl, rfl, rfl, trivial⟩, ⟨(up2.trans u4).trans u5, hsz5.trans hs4, r1, by dsimp only; omega, by dsimp only; omega, by dsimp only; omega, hT⟩, by dsimp only; omega⟩
            · have l' : ltN e1[a - 1]! e1[p]! = true := by
                cases hx : ltN e1[a - 1]! e1[p]! with
                | true => rfl
                | false => exact absurd ⟨ha0', hx⟩ hE
              repeat' ((conv => whnf); first
                | (refine Both.intro ?_ ?_ <;> intro _ <;> try (exfalso; omega))
                | (refine Need.intro (by omega) ?_)
                | (refine Does.mono (hbk) ?_ ; rintro _ G1 ⟨rfl, v1⟩ ; have up1 := up.trans v1)
                | (refine Does.mono (PIV G1 e1 p h (hintN h) rfl hs1 up1.arr up1.wf hcp) ?_ ; rintro _ G2 ⟨rfl, v2⟩ ; have up2 := up1.trans v2)
                | (refine ⟨_, up2.arr.cellI (i := a - 1) (by omega) (by omega), ?_⟩)
                | (refine ⟨_, up2.arr.cellI (i := p) (by omega) (by omega), ?_⟩)
                | (refine Does.mono (less_any _ _ _) ?_ ; rintro _ _ ⟨rfl, rfl⟩ ; first | rw [l'])
                | (refine Need.intro (draw_mix ⟨lookMix_same, True.intro⟩) ?_)
                | (refine Need.intro (DrawP.intro (by kernel_rfl)) ?_)
                | (refine Gives.intro ⟨_, quoN (x := b - a) (y := 8) (by omega) (by omega) (by omega), ?_⟩)
                | (refine Does.mono (PRT G2 e1 d4 p mid ap _ (by omega) hs1 up2.arr up2.wf (by omega) (by omega) hpe) ?_ ; rintro _ G4 ⟨rfl, u4⟩)
                | (refine Does.mono (REC G4 d4 (mid + 1) b (limit - 1) _ (by omega) hs4 u4.arr u4.wf (by omega) (by omega) hbn (by omega)) ?_ ; rintro _ G5 ⟨rfl, u5⟩)
                | fail)
              all_goals (conv => whnf)
              exact ⟨(a, mid, (limit - 1), false, ap, Go.Sort.pdq ltN d4 (mid + 1) b (limit - 1) true true), ⟨rfl, rfl, by rw [show ((limit - 1 : Nat) : Int) = (limit : Int) - 1 by omega]; rfl, rfl, rfl, rfl, trivial⟩, ⟨(up2.trans u4).trans u5, hsz5.trans hs4, r1, by dsimp only; omega, by dsimp only; omega, by dsimp only; omega, hT⟩, by dsimp only; omega⟩
  | true =>
    obtain ⟨cp, hcp⟩ : ∃ cp, cp = Go.Sort.choosePivot ltN d1 a b := ⟨_, rfl⟩
    have hpr := Go.Sort.choosePivot_holds ltN d1 a b (by omega)
    rw [← hcp] at hpr
    obtain ⟨p, h⟩ := cp
    dsimp only at hpr
    cases wp with
    | false =>
      by_cases hnd : h = .decreasing
      · subst hnd
        have hs2 : (Go.Sort.reverseRange d1 a b).size = n := (Go.Sort.reverseRange_holds d1 a b hab (by omega)).1.trans hs
        obtain ⟨d2, hd2⟩ : ∃ d2, d2 = (Go.Sort.reverseRange d1 a b) := ⟨_, rfl⟩
        rw [← hd2] at hs2
        obtain ⟨q, hq⟩ : ∃ q, q = b - 1 - (p - a) := ⟨_, rfl⟩
        rw [pdq_step (d := d1) (wb := true) (wp := false) h12 hlz d1 (rfl) limit (rfl) (p, .decreasing) hcp d2 (by rw [if_pos rfl]; exact hd2) q (by rw [if_pos rfl]; exact hq) .increasing (by rw [if_pos rfl]) (d2, false) (rfl)] at hT
        change tailF d2 a b limit true false q = _ at hT
        by_cases hE : a > 0 ∧ ltN d2[a - 1]! d2[q]! = false
        · obtain ⟨h0, l⟩ := hE
          obtain ⟨mid, d4⟩ : ∃ m y, Go.Sort.partitionEqual ltN d2 a b q = (m, y) := ⟨_, _, rfl⟩
          obtain ⟨d4, hpe⟩ := d4
          have hr := parteq_rng d2 a b q (by omega)
          rw [hpe] at hr
          rw [tail_eq h0 l hpe ⟨hr.1, hr.2.1⟩] at hT
          repeat' ((conv => whnf); first
            | (refine Both.intro ?_ ?_ <;> intro _ <;> try (exfalso; omega))
            | (refine Need.intro (by omega) ?_)
            | (refine Does.mono (PIV H1 d1 p .decreasing 2 rfl hs up.arr up.wf hcp) ?_ ; rintro _ G2 ⟨rfl, v2⟩ ; have up2 := up.trans v2)
            | (refine Does.mono (reverse_any G2 up2.wf blk e c st d1 n hs.symm up2.arr hc (by omega) a b (by omega) hbn) ?_ ; rintro _ G3 ⟨rfl, v3⟩ ; rw [← hd2] at v3 ; have up3 := up2.trans v3)
            | (refine ⟨_, up3.arr.cellI (i := a - 1) (by omega) (by omega), ?_⟩)
            | (refine ⟨_, up3.arr.cellI (i := q) (by omega) (by omega), ?_⟩)
            | (refine Does.mono (less_any _ _ _) ?_ ; rintro _ _ ⟨rfl, rfl⟩ ; first | rw [l])
            | (refine Need.intro (draw_mix ⟨lookMix_same, True.intro⟩) ?_)
            | (refine Need.intro (DrawP.intro (by kernel_rfl)) ?_)
            | (refine Does.mono (PEQ G3 d2 d4 q mid _ (by omega) hs2 up3.arr up3.wf (by omega) (by omega) hpe) ?_ ; rintro _ G4 ⟨rfl, u4⟩)
            | fail)
          all_goals (conv => whnf)
          exact ⟨(mid, b, limit, true, false, d4), ⟨rfl, rfl, rfl, rfl, rfl, rfl, trivial⟩, ⟨up3.trans u4, hr.2.2.trans hs2, hr.2.1, hbn, by dsimp only; omega, by dsimp only; omega, hT⟩, by dsimp only; omega⟩
        · obtain ⟨mid, d4⟩ : ∃ m y, Go.Sort.partition ltN d2 a b q = (m, y) := ⟨_, _, rfl⟩
          obtain ⟨⟨ap, d4⟩, hpe⟩ := d4
          obtain ⟨r1, r2, r3, -⟩ := Go.Sort.partition_holds ltN swoN d2 a b q (by omega) (by omega) (by rw [hs2]; exact hbn)
          rw [hpe] at r1 r2 r3
          dsimp only at r1 r2 r3
          have hs4 : d4.size = n := r3.1.trans hs2
          by_cases hlt : mid - a < b - mid
          · rw [tail_l hE hpe ⟨r1, r2⟩ hlt] at hT
            have hsz5 := pdq_size _ d4 a mid limit true true (Nat.le_refl _) r1 (by omega)
            by_cases hbal : mid - a ≥ (b - a) / 8
            · rw [decide_eq_true hbal] at hT
              rcases Nat.eq_zero_or_pos a with ha0' | ha0'
              · skip
                repeat' ((conv => whnf); first
                  | (refine Both.intro ?_ ?_ <;> intro _ <;> try (exfalso; omega))
                  | (refine Need.intro (by omega) ?_)
                  | (refine Does.mono (PIV H1 d1 p .decreasing 2 rfl hs up.arr up.wf hcp) ?_ ; rintro _ G2 ⟨rfl, v2⟩ ; have up2 := up.trans v2)
                  | (refine Does.mono (reverse_any G2 up2.wf blk e c st d1 n hs.symm up2.arr hc (by omega) a b (by omega) hbn) ?_ ; rintro _ G3 ⟨rfl, v3⟩ ; rw [← hd2] at v3 ; have up3 := up2.trans v3)
                  | (refine Need.intro (DrawP.intro (by kernel_rfl)) ?_)
                  | (refine Gives.intro ⟨_, quoN (x := b - a) (y := 8) (by omega) (by omega) (by omega), ?_⟩)
                  | (refine Does.mono (PRT G3 d2 d4 q mid ap _ (by omega) hs2 up3.arr up3.wf (by omega) (by omega) hpe) ?_ ; rintro _ G4 ⟨rfl, u4⟩)
                  | (refine Does.mono (REC G4 d4 a mid limit _ (by omega) hs4 u4.arr u4.wf (by omega) r1 (by omega) (by omega)) ?_ ; rintro _ G5 ⟨rfl, u5⟩)
                  | fail)
                all_goals (conv => whnf)
                exact ⟨(mid + 1, b, limit, true, ap, Go.Sort.pdq ltN d4 a mid limit true true), ⟨rfl, rfl, rfl, rfl, rfl, rfl, trivial⟩, ⟨(up3.trans u4).trans u5, hsz5.trans hs4, by dsimp only; omega, hbn, by dsimp only; omega, by dsimp only; omega, hT⟩, by dsimp only; omega⟩
              · have l' : ltN d2[a - 1]! d2[q]! = true := by
                  cases hx : ltN d2[a - 1]! d2[q]! with
                  | true => rfl
                  | false => exact absurd ⟨ha0', hx⟩ hE
                repeat' ((conv => whnf); first
                  | (refine Both.intro ?_ ?_ <;> intro _ <;> try (exfalso; omega))
                  | (refine Need.intro (by omega) ?_)
                  | (refine Does.mono (PIV H1 d1 p .decreasing 2 rfl hs up.arr up.wf hcp) ?_ ; rintro _ G2 ⟨rfl, v2⟩ ; have up2 := up.trans v2)
                  | (refine Does.mono (reverse_any G2 up2.wf blk e c st d1 n hs.symm up2.arr hc (by omega) a b (by omega) hbn) ?_ ; rintro _ G3 ⟨rfl, v3⟩ ; rw [← hd2] at v3 ; have up3 := up2.trans v3)
                  | (refine ⟨_, up3.arr.cellI (i := a - 1) (by omega) (by omega), ?_⟩)
                  | (refine ⟨_, up3.arr.cellI (i := q) (by omega) (by omega), ?_⟩)
                  | (refine Does.mono (less_any _ _ _) ?_ ; rintro _ _ ⟨rfl, rfl⟩ ; first | rw [l'])
                  | (refine Need.intro (draw_mix ⟨lookMix_same, True.intro⟩) ?_)
                  | (refine Need.intro (DrawP.intro (by kernel_rfl)) ?_)
                  | (refine Gives.intro ⟨_, quoN (x := b - a) (y := 8) (by omega) (by omega) (by omega), ?_⟩)
                  | (refine Does.mono (PRT G3 d2 d4 q mid ap _ (by omega) hs2 up3.arr up3.wf (by omega) (by omega) hpe) ?_ ; rintro _ G4 ⟨rfl, u4⟩)
                  | (refine Does.mono (REC G4 d4 a mid limit _ (by omega) hs4 u4.arr u4.wf (by omega) r1 (by omega) (by omega)) ?_ ; rintro _ G5 ⟨rfl, u5⟩)
                  | fail)
                all_goals (conv => whnf)
                exact ⟨(mid + 1, b, limit, true, ap, Go.Sort.pdq ltN d4 a mid limit true true), ⟨rfl, rfl, rfl, rfl, rfl, rfl, trivial⟩, ⟨(up3.trans u4).trans u5, hsz5.trans hs4, by dsimp only; omega, hbn, by dsimp only; omega, by dsimp only; omega, hT⟩, by dsimp only; omega⟩
            · rw [decide_eq_false hbal] at hT
              rcases Nat.eq_zero_or_pos a with ha0' | ha0'
              · skip
                repeat' ((conv => whnf); first
                  | (refine Both.intro ?_ ?_ <;> intro _ <;> try (exfalso; omega))
                  | (refine Need.intro (by omega) ?_)
                  | (refine Does.mono (PIV H1 d1 p .decreasing 2 rfl hs up.arr up.wf hcp) ?_ ; rintro _ G2 ⟨rfl, v2⟩ ; have up2 := up.trans v2)
                  | (refine Does.mono (reverse_any G2 up2.wf blk e c st d1 n hs.symm up2.arr hc (by omega) a b (by omega) hbn) ?_ ; rintro _ G3 ⟨rfl, v3⟩ ; rw [← hd2] at v3 ; have up3 := up2.trans v3)
                  | (refine Need.intro (DrawP.intro (by kernel_rfl)) ?_)
                  | (refine Gives.intro ⟨_, quoN (x := b - a) (y := 8) (by omega) (by omega) (by omega), ?_⟩)
                  | (refine Does.mono (PRT G3 d2 d4 q mid ap _ (by omega) hs2 up3.arr up3.wf (by omega) (by omega) hpe) ?_ ; rintro _ G4 ⟨rfl, u4⟩)
                  | (refine Does.mono (REC G4 d4 a mid limit _ (by omega) hs4 u4.arr u4.wf (by omega) r1 (by omega) (by omega)) ?_ ; rintro _ G5 ⟨rfl, u5⟩)
                  | fail)
                all_goals (conv => whnf)
                exact ⟨(mid + 1, b, limit, false, ap, Go.Sort.pdq ltN d4 a mid limit true true), ⟨rfl, rfl, rfl, rfl, rfl, rfl, trivial⟩, ⟨(up3.trans u4).trans u5, hsz5.trans hs4, by dsimp only; omega, hbn, by dsimp only; omega, by dsimp only; omega, hT⟩, by dsimp only; omega⟩
              · have l' : ltN d2[a - 1]! d2[q]! = true := by
                  cases hx : ltN d2[a - 1]! d2[q]! with
                  | true => rfl
                  | false => exact absurd ⟨ha0', hx⟩ hE
                repeat' ((conv => whnf); first
                  | (refine Both.intro ?_ ?_ <;> intro _ <;> try (exfalso; omega))
                  | (refine Need.intro (by omega) ?_)
                  | (refine Does.mono (PIV H1 d1 p .decreasing 2 rfl hs up.arr up.wf hcp) ?_ ; rintro _ G2 ⟨rfl, v2⟩ ; have up2 := up.trans v2)
                  | (refine Does.mono (reverse_any G2 up2.wf blk e c st d1 n hs.symm up2.arr hc (by omega) a b (by omega) hbn) ?_ ; rintro _ G3 ⟨rfl, v3⟩ ; rw [← hd2] at v3 ; have up3 := up2.trans v3)
                  | (refine ⟨_, up3.arr.cellI (i := a - 1) (by omega) (by omega), ?_⟩)
                  | (refine ⟨_, up3.arr.cellI (i := q) (by omega) (by omega), ?_⟩)
                  | (refine Does.mono (less_any _ _ _) ?_ ; rintro _ _ ⟨rfl, rfl⟩ ; first | rw [l'])
                  | (refine Need.intro (draw_mix ⟨lookMix_same, True.intro⟩) ?_)
                  | (refine Need.intro (DrawP.intro (by kernel_rfl)) ?_)
                  | (refine Gives.intro ⟨_, quoN (x := b - a) (y := 8) (by omega) (by omega) (by omega), ?_⟩)
                  | (refine Does.mono (PRT G3 d2 d4 q mid ap _ (by omega) hs2 up3.arr up3.wf (by omega) (by omega) hpe) ?_ ; rintro _ G4 ⟨rfl, u4⟩)
                  | (refine Does.mono (REC G4 d4 a mid limit _ (by omega) hs4 u4.arr u4.wf (by omega) r1 (by omega) (by omega)) ?_ ; rintro _ G5 ⟨rfl, u5⟩)
                  | fail)
                all_goals (conv => whnf)
                exact ⟨(mid + 1, b, limit, false, ap, Go.Sort.pdq ltN d4 a mid limit true true), ⟨rfl, rfl, rfl, rfl, rfl, rfl, trivial⟩, ⟨(up3.trans u4).trans u5, hsz5.trans hs4, by dsimp only; omega, hbn, by dsimp only; omega, by dsimp only; omega, hT⟩, by dsimp only; omega⟩
          · rw [tail_r hE hpe ⟨r1, r2⟩ hlt] at hT
            have hsz5 := pdq_size _ d4 (mid + 1) b limit true true (Nat.le_refl _) (by omega) (by omega)
            by_cases hbal : b - mid ≥ (b - a) / 8
            · rw [decide_eq_true hbal] at hT
              rcases Nat.eq_zero_or_pos a with ha0' | ha0'
              · skip
                repeat' ((conv => whnf); first
                  | (refine Both.intro ?_ ?_ <;> intro _ <;> try (exfalso; omega))
                  | (refine Need.intro (by omega) ?_)
                  | (refine Does.mono (PIV H1 d1 p .decreasing 2 rfl hs up.arr up.wf hcp) ?_ ; rintro _ G2 ⟨rfl, v2⟩ ; have up2 := up.trans v2)
                  | (refine Does.mono (reverse_any G2 up2.wf blk e c st d1 n hs.symm up2.arr hc (by omega) a b (by omega) hbn) ?_ ; rintro _ G3 ⟨rfl, v3⟩ ; rw [← hd2] at v3 ; have up3 := up2.trans v3)
                  | (refine Need.intro (DrawP.intro (by kernel_rfl)) ?_)
                  | (refine Gives.intro ⟨_, quoN (x := b - a) (y := 8) (by omega) (by omega) (by omega), ?_⟩)
                  | (refine Does.mono (PRT G3 d2 d4 q mid ap _ (by omega) hs2 up3.arr up3.wf (by omega) (by omega) hpe) ?_ ; rintro _ G4 ⟨rfl, u4⟩)
                  | (refine Does.mono (REC G4 d4 (mid + 1) b limit _ (by omega) hs4 u4.arr u4.wf (by omega) (by omega) hbn (by omega)) ?_ ; rintro _ G5 ⟨rfl, u5⟩)
                  | fail)
                all_goals (conv => whnf)
                exact ⟨(a, mid, limit, true, ap, Go.Sort.pdq ltN d4 (mid + 1) b limit true true), ⟨rfl, rfl, rfl, rfl, rfl, rfl, trivial⟩, ⟨(up3.trans u4).trans u5, hsz5.trans hs4, r1, by dsimp only; omega, by dsimp only; omega, by dsimp only; omega, hT⟩, by dsimp only; omega⟩
              · have l' : ltN d2[a - 1]! d2[q]! = true := by
                  cases hx : ltN d2[a - 1]! d2[q]! with
                  | true => rfl
                  | false => exact absurd ⟨ha0', hx⟩ hE
                repeat' ((conv => whnf); first
                  | (refine Both.intro ?_ ?_ <;> intro _ <;> try (exfalso; omega))
                  | (refine Need.intro (by omega) ?_)
                  | (refine Does.mono (PIV H1 d1 p .decreasing 2 rfl hs up.arr up.wf hcp) ?_ ; rintro _ G2 ⟨rfl, v2⟩ ; have up2 := up.trans v2)
                  | (refine Does.mono (reverse_any G2 up2.wf blk e c st d1 n hs.symm up2.arr hc (by omega) a b (by omega) hbn) ?_ ; rintro _ G3 ⟨rfl, v3⟩ ; rw [← hd2] at v3 ; have up3 := up2.trans v3)
                  | (refine ⟨_, up3.arr.cellI (i := a - 1) (by omega) (by omega), ?_⟩)
                  | (refine ⟨_, up3.arr.cellI (i := q) (by omega) (by omega), ?_⟩)
                  | (refine Does.mono (less_any _ _ _) ?_ ; rintro _ _ ⟨rfl, rfl⟩ ; first | rw [l'])
                  | (refine Need.intro (draw_mix ⟨lookMix_same, True.intro⟩) ?_)
                  | (refine Need.intro (DrawP.intro (by kernel_rfl)) ?_)
                  | (refine Gives.intro ⟨_, quoN (x := b - a) (y := 8) (by omega) (by omega) (by omega), ?_⟩)
                  | (refine Does.mono (PRT G3 d2 d4 q mid ap _ (by omega) hs2 up3.arr up3.wf (by omega) (by omega) hpe) ?_ ; rintro _ G4 ⟨rfl, u4⟩)
                  | (refine Does.mono (REC G4 d4 (mid + 1) b limit _ (by omega) hs4 u4.arr u4.wf (by omega) (by omega) hbn (by omega)) ?_ ; rintro _ G5 ⟨rfl, u5⟩)
                  | fail)
                all_goals (conv => whnf)
                exact ⟨(a, mid, limit, true, ap, Go.Sort.pdq ltN d4 (mid + 1) b limit true true), ⟨rfl, rfl, rfl, rfl, rfl, rfl, trivial⟩, ⟨(up3.trans u4).trans u5, hsz5.trans hs4, r1, by dsimp only; omega, by dsimp only; omega, by dsimp only; omega, hT⟩, by dsimp only; omega⟩
            · rw [decide_eq_false hbal] at hT
              rcases Nat.eq_zero_or_pos a with ha0' | ha0'
              · skip
                repeat' ((conv => whnf); first
                  | (refine Both.intro ?_ ?_ <;> intro _ <;> try (exfalso; omega))
                  | (refine Need.intro (by omega) ?_)
                  | (refine Does.mono (PIV H1 d1 p .decreasing 2 rfl hs up.arr up.wf hcp) ?_ ; rintro _ G2 ⟨rfl, v2⟩ ; have up2 := up.trans v2)
                  | (refine Does.mono (reverse_any G2 up2.wf blk e c st d1 n hs.symm up2.arr hc (by omega) a b (by omega) hbn) ?_ ; rintro _ G3 ⟨rfl, v3⟩ ; rw [← hd2] at v3 ; have up3 := up2.trans v3)
                  | (refine Need.intro (DrawP.intro (by kernel_rfl)) ?_)
                  | (refine Gives.intro ⟨_, quoN (x := b - a) (y := 8) (by omega) (by omega) (by omega), ?_⟩)
                  | (refine Does.mono (PRT G3 d2 d4 q mid ap _ (by omega) hs2 up3.arr up3.wf (by omega) (by omega) hpe) ?_ ; rintro _ G4 ⟨rfl, u4⟩)
                  | (refine Does.mono (REC G4 d4 (mid + 1) b limit _ (by omega) hs4 u4.arr u4.wf (by omega) (by omega) hbn (by omega)) ?_ ; rintro _ G5 ⟨rfl, u5⟩)
                  | fail)
                all_goals (conv => whnf)
                exact ⟨(a, mid, limit, false, ap, Go.Sort.pdq ltN d4 (mid + 1) b limit true true), ⟨rfl, rfl, rfl, rfl, rfl, rfl, trivial⟩, ⟨(up3.trans u4).trans u5, hsz5.trans hs4, r1, by dsimp only; omega, by dsimp only; omega, by dsimp only; omega, hT⟩, by dsimp only; omega⟩
              · have l' : ltN d2[a - 1]! d2[q]! = true := by
                  cases hx : ltN d2[a - 1]! d2[q]! with
                  | true => rfl
                  | false => exact absurd ⟨ha0', hx⟩ hE
                repeat' ((conv => whnf); first
                  | (refine Both.intro ?_ ?_ <;> intro _ <;> try (exfalso; omega))
                  | (refine Need.intro (by omega) ?_)
                  | (refine Does.mono (PIV H1 d1 p .decreasing 2 rfl hs up.arr up.wf hcp) ?_ ; rintro _ G2 ⟨rfl, v2⟩ ; have up2 := up.trans v2)
                  | (refine Does.mono (reverse_any G2 up2.wf blk e c st d1 n hs.symm up2.arr hc (by omega) a b (by omega) hbn) ?_ ; rintro _ G3 ⟨rfl, v3⟩ ; rw [← hd2] at v3 ; have up3 := up2.trans v3)
                  | (refine ⟨_, up3.arr.cellI (i := a - 1) (by omega) (by omega), ?_⟩)
                  | (refine ⟨_, up3.arr.cellI (i := q) (by omega) (by omega), ?_⟩)
                  | (refine Does.mono (less_any _ _ _) ?_ ; rintro _ _ ⟨rfl, rfl⟩ ; first | rw [l'])
                  | (refine Need.intro (draw_mix ⟨lookMix_same, True.intro⟩) ?_)
                  | (refine Need.intro (DrawP.intro (by kernel_rfl)) ?_)
                  | (refine Gives.intro ⟨_, quoN (x := b - a) (y := 8) (by omega) (by omega) (by omega), ?_⟩)
                  | (refine Does.mono (PRT G3 d2 d4 q mid ap _ (by omega) hs2 up3.arr up3.wf (by omega) (by omega) hpe) ?_ ; rintro _ G4 ⟨rfl, u4⟩)
                  | (refine Does.mono (REC G4 d4 (mid + 1) b limit _ (by omega) hs4 u4.arr u4.wf (by omega) (by omega) hbn (by omega)) ?_ ; rintro _ G5 ⟨rfl, u5⟩)
                  | fail)
                all_goals (conv => whnf)
                exact ⟨(a, mid, limit, false, ap, Go.Sort.pdq ltN d4 (mid + 1) b limit true true), ⟨rfl, rfl, rfl, rfl, rfl, rfl, trivial⟩, ⟨(up3.trans u4).trans u5, hsz5.trans hs4, r1, by dsimp only; omega, by dsimp only; omega, by dsimp only; omega, hT⟩, by dsimp only; omega⟩
      · have hnd2 : hintN h ≠ 2 := by cases h <;> first | decide | exact absurd rfl hnd
        rw [pdq_step (d := d1) (wb := true) (wp := false) h12 hlz d1 (rfl) limit (rfl) (p, h) hcp d1 (by rw [if_neg hnd]) p (by rw [if_neg hnd]) h (by rw [if_neg hnd]) (d1, false) (rfl)] at hT
        change tailF d1 a b limit true false p = _ at hT
        by_cases hE : a > 0 ∧ ltN d1[a - 1]! d1[p]! = false
        · obtain ⟨h0, l⟩ := hE
          obtain ⟨mid, d4⟩ : ∃ m y, Go.Sort.partitionEqual ltN d1 a b p = (m, y) := ⟨_, _, rfl⟩
          obtain ⟨d4, hpe⟩ := d4
          have hr := parteq_rng d1 a b p (by omega)
          rw [hpe] at hr
          rw [tail_eq h0 l hpe ⟨hr.1, hr.2.1⟩] at hT
          repeat' ((conv => whnf); first
            | (refine Both.intro ?_ ?_ <;> intro _ <;> try (exfalso; omega))
            | (refine Need.intro (by omega) ?_)
            | (refine Does.mono (PIV H1 d1 p h (hintN h) rfl hs up.arr up.wf hcp) ?_ ; rintro _ G2 ⟨rfl, v2⟩ ; have up2 := up.trans v2)
            | (refine ⟨_, up2.arr.cellI (i := a - 1) (by omega) (by omega), ?_⟩)
            | (refine ⟨_, up2.arr.cellI (i := p) (by omega) (by omega), ?_⟩)
            | (refine Does.mono (less_any _ _ _) ?_ ; rintro _ _ ⟨rfl, rfl⟩ ; first | rw [l])
            | (refine Need.intro (draw_mix ⟨lookMix_same, True.intro⟩) ?_)
            | (refine Need.intro (DrawP.intro (by kernel_rfl)) ?_)
            | (refine Does.mono (PEQ G2 d1 d4 p mid _ (by omega) hs up2.arr up2.wf (by omega) (by omega) hpe) ?_ ; rintro _ G4 ⟨rfl, u4⟩)
            | fail)
          all_goals (conv => whnf)
          exact ⟨(mid, b, limit, true, false, d4), ⟨rfl, rfl, rfl, rfl, rfl, rfl, trivial⟩, ⟨up2.trans u4, hr.2.2.trans hs, hr.2.1, hbn, by dsimp only; omega, by dsimp only; omega, hT⟩, by dsimp only; omega⟩
        · obtain ⟨mid, d4⟩ : ∃ m y, Go.Sort.partition ltN d1 a b p = (m, y) := ⟨_, _, rfl⟩
          obtain ⟨⟨ap, d4⟩, hpe⟩ := d4
          obtain ⟨r1, r2, r3, -⟩ := Go.Sort.partition_holds ltN swoN d1 a b p (by omega) (by omega) (by rw [hs]; exact hbn)
          rw [hpe] at r1 r2 r3
          dsimp only at r1 r2 r3
          have hs4 : d4.size = n := r3.1.trans hs
          by_cases hlt : mid - a < b - mid
          · rw [tail_l hE hpe ⟨r1, r2⟩ hlt] at hT
            have hsz5 := pdq_size _ d4 a mid limit true true (Nat.le_refl _) r1 (by omega)
            by_cases hbal : mid - a ≥ (b - a) / 8
            · rw [decide_eq_true hbal] at hT
              rcases Nat.eq_zero_or_pos a with ha0' | ha0'
              · skip
                repeat' ((conv => whnf); first
                  | (refine Both.intro ?_ ?_ <;> intro _ <;> try (exfalso; omega))
                  | (refine Need.intro (by omega) ?_)
                  | (refine Does.mono (PIV H1 d1 p h (hintN h) rfl hs up.arr up.wf hcp) ?_ ; rintro _ G2 ⟨rfl, v2⟩ ; have up2 := up.trans v2)
                  | (refine Need.intro (DrawP.intro (by kernel_rfl)) ?_)
                  | (refine Gives.intro ⟨_, quoN (x := b - a) (y := 8) (by omega) (by omega) (by omega), ?_⟩)
                  | (refine Does.mono (PRT G2 d1 d4 p mid ap _ (by omega) hs up2.arr up2.wf (by omega) (by omega) hpe) ?_ ; rintro _ G4 ⟨rfl, u4⟩)
                  | (refine Does.mono (REC G4 d4 a mid limit _ (by omega) hs4 u4.arr u4.wf (by omega) r1 (by omega) (by omega)) ?_ ; rintro _ G5 ⟨rfl, u5⟩)
                  | fail)
                all_goals (conv => whnf)
                exact ⟨(mid + 1, b, limit, true, ap, Go.Sort.pdq ltN d4 a mid limit true true), ⟨rfl, rfl, rfl, rfl, rfl, rfl, trivial⟩, ⟨(up2.trans u4).trans u5, hsz5.trans hs4, by dsimp only; omega, hbn, by dsimp only; omega, by dsimp only; omega, hT⟩, by dsimp only; omega⟩
              · have l' : ltN d1[a - 1]! d1[p]! = true := by
                  cases hx : ltN d1[a - 1]! d1[p]! with
                  | true => rfl
                  | false => exact absurd ⟨ha0', hx⟩ hE
                repeat' ((conv => whnf); first
                  | (refine Both.intro ?_ ?_ <;> intro _ <;> try (exfalso; omega))
                  | (refine Need.intro (by omega) ?_)
                  | (refine Does.mono (PIV H1 d1 p h (hintN h) rfl hs up.arr up.wf hcp) ?_ ; rintro _ G2 ⟨rfl, v2⟩ ; have up2 := up.trans v2)
                  | (refine ⟨_, up2.arr.cellI (i := a - 1) (by omega) (by omega), ?_⟩)
                  | (refine ⟨_, up2.arr.cellI (i := p) (by omega) (by omega), ?_⟩)
                  | (refine Does.mono (less_any _ _ _) ?_ ; rintro _ _ ⟨rfl, rfl⟩ ; first | rw [l'])
                  | (refine Need.intro (draw_mix ⟨lookMix_same, True.intro⟩) ?_)
                  | (refine Need.intro (DrawP.intro (by kernel_rfl)) ?_)
                  | (refine Gives.intro ⟨_, quoN (x := b - a) (y := 8) (by omega) (by omega) (by omega), ?_⟩)
                  | (refine Does.mono (PRT G2 d1 d4 p mid ap _ (by omega) hs up2.arr up2.wf (by omega) (by omega) hpe) ?_ ; rintro _ G4 ⟨rfl, u4⟩)
                  | (refine Does.mono (REC G4 d4 a mid limit _ (by omega) hs4 u4.arr u4.wf (by omega) r1 (by omega) (by omega)) ?_ ; rintro _ G5 ⟨rfl, u5⟩)
                  | fail)
                all_goals (conv => whnf)
                exact ⟨(mid + 1, b, limit, true, ap, Go.Sort.pdq ltN d4 a mid limit true true), ⟨rfl, rfl, rfl, rfl, rfl, rfl, trivial⟩, ⟨(up2.trans u4).trans u5, hsz5.trans hs4, by dsimp only; omega, hbn, by dsimp only; omega, by dsimp only; omega, hT⟩, by dsimp only; omega⟩
            · rw [decide_eq_false hbal] at hT
              rcases Nat.eq_zero_or_pos a with ha0' | ha0'
              · skip
                repeat' ((conv => whnf); first
                  | (refine Both.intro ?_ ?_ <;> intro _ <;> try (exfalso; omega))
                  | (refine Need.intro (by omega) ?_)
                  | (refine Does.mono (PIV H1 d1 p h (hintN h) rfl hs up.arr up.wf hcp) ?_ ; rintro _ G2 ⟨rfl, v2⟩ ; have up2 := up.trans v2)
                  | (refine Need.intro (DrawP.intro (by kernel_rfl)) ?_)
                  | (refine Gives.intro ⟨_, quoN (x := b - a) (y := 8) (by omega) (by omega) (by omega), ?_⟩)
                  | (refine Does.mono (PRT G2 d1 d4 p mid ap _ (by omega) hs up2.arr up2.wf (by omega) (by omega) hpe) ?_ ; rintro _ G4 ⟨rfl, u4⟩)
                  | (refine Does.mono (REC G4 d4 a mid limit _ (by omega) hs4 u4.arr u4.wf (by omega) r1 (by omega) (by omega)) ?_ ; rintro _ G5 ⟨rfl, u5⟩)
                  | fail)
                all_goals (conv => whnf)
                exact ⟨(mid + 1, b, limit, false, ap, Go.Sort.pdq ltN d4 a mid limit true true), ⟨rfl, rfl, rfl, rfl, rfl, rfl, trivial⟩, ⟨(up2.trans u4).trans u5, hsz5.trans hs4, by dsimp only; omega, hbn, by dsimp only; omega, by dsimp only; omega, hT⟩, by dsimp only; omega⟩
              · have l' : ltN d1[a - 1]! d1[p]! = true := by
                  cases hx : ltN d1[a - 1]! d1[p]! with
                  | true => rfl
                  | false => exact absurd ⟨ha0', hx⟩ hE
                repeat' ((conv => whnf); first
                  | (refine Both.intro ?_ ?_ <;> intro _ <;> try (exfalso; omega))
                  | (refine Need.intro (by omega) ?_)
                  | (refine Does.mono (PIV H1 d1 p h (hintN h) rfl hs up.arr up.wf hcp) ?_ ; rintro _ G2 ⟨rfl, v2⟩ ; have up2 := up.trans v2)
                  | (refine ⟨_, up2.arr.cellI (i := a - 1) (by omega) (by omega), ?_⟩)
                  | (refine ⟨_, up2.arr.cellI (i := p) (by omega) (by omega), ?_⟩)
                  | (refine Does.mono (less_any _ _ _) ?_ ; rintro _ _ ⟨rfl, rfl⟩ ; first | rw [l'])
                  | (refine Need.intro (draw_mix ⟨lookMix_same, True.intro⟩) ?_)
                  | (refine Need.intro (DrawP.intro (by kernel_rfl)) ?_)
                  | (refine Gives.intro ⟨_, quoN (x := b - a) (y := 8) (by omega) (by omega) (by omega), ?_⟩)
                  | (refine Does.mono (PRT G2 d1 d4 p mid ap _ (by omega) hs up2.arr up2.wf (by omega) (by omega) hpe) ?_ ; rintro _ G4 ⟨rfl, u4⟩)
                  | (refine Does.mono (REC G4 d4 a mid limit _ (by omega) hs4 u4.arr u4.wf (by omega) r1 (by omega) (by omega)) ?_ ; rintro _ G5 ⟨rfl, u5⟩)
                  | fail)
                all_goals (conv => whnf)
                exact ⟨(mid + 1, b, limit, false, ap, Go.Sort.pdq ltN d4 a mid limit true true), ⟨rfl, rfl, rfl, rfl, rfl, rfl, trivial⟩, ⟨(up2.trans u4).trans u5, hsz5.trans hs4, by dsimp only; omega, hbn, by dsimp only; omega, by dsimp only; omega, hT⟩, by dsimp only; omega⟩
          · rw [tail_r hE hpe ⟨r1, r2⟩ hlt] at hT
            have hsz5 := pdq_size _ d4 (mid + 1) b limit true true (Nat.le_refl _) (by omega) (by omega)
            by_cases hbal : b - mid ≥ (b - a) / 8
            · rw [decide_eq_true hbal] at hT
              rcases Nat.eq_zero_or_pos a with ha0' | ha0'
              · skip
                repeat' ((conv => whnf); first
                  | (refine Both.intro ?_ ?_ <;> intro _ <;> try (exfalso; omega))
                  | (refine Need.intro (by omega) ?_)
                  | (refine Does.mono (PIV H1 d1 p h (hintN h) rfl hs up.arr up.wf hcp) ?_ ; rintro _ G2 ⟨rfl, v2⟩ ; have up2 := up.trans v2)
                  | (refine Need.intro (DrawP.intro (by kernel_rfl)) ?_)
                  | (refine Gives.intro ⟨_, quoN (x := b - a) (y := 8) (by omega) (by omega) (by omega), ?_⟩)
                  | (refine Does.mono (PRT G2 d1 d4 p mid ap _ (by omega) hs up2.arr up2.wf (by omega) (by omega) hpe) ?_ ; rintro _ G4 ⟨rfl, u4⟩)
                  | (refine Does.mono (REC G4 d4 (mid + 1) b limit _ (by omega) hs4 u4.arr u4.wf (by omega) (by omega) hbn (by omega)) ?_ ; rintro _ G5 ⟨rfl, u5⟩)
                  | fail)
                all_goals (conv => whnf)
                exact ⟨(a, mid, limit, true, ap, Go.Sort.pdq ltN d4 (mid + 1) b limit true true), ⟨rfl, rfl, rfl, rfl, rfl, rfl, trivial⟩, ⟨(up2.trans u4).trans u5, hsz5.trans hs4, r1, by dsimp only; omega, by dsimp only; omega, by dsimp only; omega, hT⟩, by dsimp only; omega⟩
              · have l' : ltN d1[a - 1]! d1[p]! = true := by
                  cases hx : ltN d1[a - 1]! d1[p]! with
                  | true => rfl
                  | false => exact absurd ⟨ha0', hx⟩ hE
                repeat' ((conv => whnf); first
                  | (refine Both.intro ?_ ?_ <;> intro _ <;> try (exfalso; omega))
                  | (refine Need.intro (by omega) ?_)
                  | (refine Does.mono (PIV H1 d1 p h (hintN h) rfl hs up.arr up.wf hcp) ?_ ; rintro _ G2 ⟨rfl, v2⟩ ; have up2 := up.trans v2)
                  | (refine ⟨_, up2.arr.cellI (i := a - 1) (by omega) (by omega), ?_⟩)
                  | (refine ⟨_, up2.arr.cellI (i := p) (by omega) (by omega), ?_⟩)
                  | (refine Does.mono (less_any _ _ _) ?_ ; rintro _ _ ⟨rfl, rfl⟩ ; first | rw [l'])
                  | (refine Need.intro (draw_mix ⟨lookMix_same, True.intro⟩) ?_)
                  | (refine Need.intro (DrawP.intro (by kernel_rfl)) ?_)
                  | (refine Gives.intro ⟨_, quoN (x := b - a) (y := 8) (by omega) (by omega) (by omega), ?_⟩)
                  | (refine Does.mono (PRT G2 d1 d4 p mid ap _ (by omega) hs up2.arr up2.wf (by omega) (by omega) hpe) ?_ ; rintro _ G4 ⟨rfl, u4⟩)
                  | (refine Does.mono (REC G4 d4 (mid + 1) b limit _ (by omega) hs4 u4.arr u4.wf (by omega) (by omega) hbn (by omega)) ?_ ; rintro _ G5 ⟨rfl, u5⟩)
                  | fail)
                all_goals (conv => whnf)
                exact ⟨(a, mid, limit, true, ap, Go.Sort.pdq ltN d4 (mid + 1) b limit true true), ⟨rfl, rfl, rfl, rfl, rfl, rfl, trivial⟩, ⟨(up2.trans u4).trans u5, hsz5.trans hs4, r1, by dsimp only; omega, by dsimp only; omega, by dsimp only; omega, hT⟩, by dsimp only; omega⟩
            · rw [decide_eq_false hbal] at hT
              rcases Nat.eq_zero_or_pos a with ha0' | ha0'
              · skip
                repeat' ((conv => whnf); first
                  | (refine Both.intro ?_ ?_ <;> intro _ <;> try (exfalso; omega))
                  | (refine Need.intro (by omega) ?_)
                  | (refine Does.mono (PIV H1 d1 p h (hintN h) rfl hs up.arr up.wf hcp) ?_ ; rintro _ G2 ⟨rfl, v2⟩ ; have up2 := up.trans v2)
                  | (refine Need.intro (DrawP.intro (by kernel_rfl)) ?_)
                  | (refine Gives.intro ⟨_, quoN (x := b - a) (y := 8) (by omega) (by omega) (by omega), ?_⟩)
                  | (refine Does.mono (PRT G2 d1 d4 p mid ap _ (by omega) hs up2.arr up2.wf (by omega) (by omega) hpe) ?_ ; rintro _ G4 ⟨rfl, u4⟩)
                  | (refine Does.mono (REC G4 d4 (mid + 1) b limit _ (by omega) hs4 u4.arr u4.wf (by omega) (by omega) hbn (by omega)) ?_ ; rintro _ G5 ⟨rfl, u5⟩)
                  | fail)
                all_goals (conv => whnf)
                exact ⟨(a, mid, limit, false, ap, Go.Sort.pdq ltN d4 (mid + 1) b limit true true), ⟨rfl, rfl, rfl, rfl, rfl, rfl, trivial⟩, ⟨(up2.trans u4).trans u5, hsz5.trans hs4, r1, by dsimp only; omega, by dsimp only; omega, by dsimp only; omega, hT⟩, by dsimp only; omega⟩
              · have l' : ltN d1[a - 1]! d1[p]! = true := by
                  cases hx : ltN d1[a - 1]! d1[p]! with
                  | true => rfl
                  | false => exact absurd ⟨ha0', hx⟩ hE
                repeat' ((conv => whnf); first
                  | (refine Both.intro ?_ ?_ <;> intro _ <;> try (exfalso; omega))
                  | (refine Need.intro (by omega) ?_)
                  | (refine Does.mono (PIV H1 d1 p h (hintN h) rfl hs up.arr up.wf hcp) ?_ ; rintro _ G2 ⟨rfl, v2⟩ ; have up2 := up.trans v2)
                  | (refine ⟨_, up2.arr.cellI (i := a - 1) (by omega) (by omega), ?_⟩)
                  | (refine ⟨_, up2.arr.cellI (i := p) (by omega) (by omega), ?_⟩)
                  | (refine Does.mono (less_any _ _ _) ?_ ; rintro _ _ ⟨rfl, rfl⟩ ; first | rw [l'])
                  | (refine Need.intro (draw_mix ⟨lookMix_same, True.intro⟩) ?_)
                  | (refine Need.intro (DrawP.intro (by kernel_rfl)) ?_)
                  | (refine Gives.intro ⟨_, quoN (x := b - a) (y := 8) (by omega) (by omega) (by omega), ?_⟩)
                  | (refine Does.mono (PRT G2 d1 d4 p mid ap _ (by omega) hs up2.arr up2.wf (by omega) (by omega) hpe) ?_ ; rintro _ G4 ⟨rfl, u4⟩)
                  | (refine Does.mono (REC G4 d4 (mid + 1) b limit _ (by omega) hs4 u4.arr u4.wf (by omega) (by omega) hbn (by omega)) ?_ ; rintro _ G5 ⟨rfl, u5⟩)
                  | fail)
                all_goals (conv => whnf)
                exact ⟨(a, mid, limit, false, ap, Go.Sort.pdq ltN d4 (mid + 1) b limit true true), ⟨rfl, rfl, rfl, rfl, rfl, rfl, trivial⟩, ⟨(up2.trans u4).trans u5, hsz5.trans hs4, r1, by dsimp only; omega, by dsimp only; omega, by dsimp only; omega, hT⟩, by dsimp only; omega⟩
    | true =>
      cases h with
      | decreasing =>
        have hs2 : (Go.Sort.reverseRange d1 a b).size = n := (Go.Sort.reverseRange_holds d1 a b hab (by omega)).1.trans hs
        obtain ⟨d2, hd2⟩ : ∃ d2, d2 = (Go.Sort.reverseRange d1 a b) := ⟨_, rfl⟩
        rw [← hd2] at hs2
        obtain ⟨q, hq⟩ : ∃ q, q = b - 1 - (p - a) := ⟨_, rfl⟩
        obtain ⟨d3, hd3⟩ : ∃ y, Go.Sort.partialInsertionSort ltN d2 a b = y := ⟨_, rfl⟩
        obtain ⟨d3, f⟩ := d3
        have hs3 : d3.size = n := by have := pis_size d2 a b; rw [hd3] at this; exact this.trans hs2
        rw [pdq_step (d := d1) (wb := true) (wp := true) h12 hlz d1 (rfl) limit (rfl) (p, .decreasing) hcp d2 (by rw [if_pos rfl]; exact hd2) q (by rw [if_pos rfl]; exact hq) .increasing (by rw [if_pos rfl]) (d3, f) (by rw [hd3]; rfl)] at hT
        cases f with
        | true =>
          change d3 = _ at hT
          repeat' ((conv => whnf); first
            | (refine Both.intro ?_ ?_ <;> intro _ <;> try (exfalso; omega))
            | (refine Need.intro (by omega) ?_)
            | (refine Does.mono (PIV H1 d1 p .decreasing 2 rfl hs up.arr up.wf hcp) ?_ ; rintro _ G2 ⟨rfl, v2⟩ ; have up2 := up.trans v2)
            | (refine Does.mono (reverse_any G2 up2.wf blk e c st d1 n hs.symm up2.arr hc (by omega) a b (by omega) hbn) ?_ ; rintro _ G3 ⟨rfl, v3⟩ ; rw [← hd2] at v3 ; have up3 := up2.trans v3)
            | (refine Does.mono (PNS G3 d2 d3 true hs2 up3.arr up3.wf hd3) ?_ ; rintro _ G6 ⟨rfl, v6⟩ ; have up6 := up3.trans v6)
            | fail)
          all_goals (conv => whnf)
          exact ⟨rfl, hT ▸ up6⟩
        | false =>
          change tailF d3 a b limit true true q = _ at hT
          by_cases hE : a > 0 ∧ ltN d3[a - 1]! d3[q]! = false
          · obtain ⟨h0, l⟩ := hE
            obtain ⟨mid, d4⟩ : ∃ m y, Go.Sort.partitionEqual ltN d3 a b q = (m, y) := ⟨_, _, rfl⟩
            obtain ⟨d4, hpe⟩ := d4
            have hr := parteq_rng d3 a b q (by omega)
            rw [hpe] at hr
            rw [tail_eq h0 l hpe ⟨hr.1, hr.2.1⟩] at hT
            repeat' ((conv => whnf); first
              | (refine Both.intro ?_ ?_ <;> intro _ <;> try (exfalso; omega))
              | (refine Need.intro (by omega) ?_)
              | (refine Does.mono (PIV H1 d1 p .decreasing 2 rfl hs up.arr up.wf hcp) ?_ ; rintro _ G2 ⟨rfl, v2⟩ ; have up2 := up.trans v2)
              | (refine Does.mono (reverse_any G2 up2.wf blk e c st d1 n hs.symm up2.arr hc (by omega) a b (by omega) hbn) ?_ ; rintro _ G3 ⟨rfl, v3⟩ ; rw [← hd2] at v3 ; have up3 := up2.trans v3)
              | (refine Does.mono (PNS G3 d2 d3 false hs2 up3.arr up3.wf hd3) ?_ ; rintro _ G6 ⟨rfl, v6⟩ ; have up6 := up3.trans v6)
              | (refine ⟨_, up6.arr.cellI (i := a - 1) (by omega) (by omega), ?_⟩)
              | (refine ⟨_, up6.arr.cellI (i := q) (by omega) (by omega), ?_⟩)
              | (refine Does.mono (less_any _ _ _) ?_ ; rintro _ _ ⟨rfl, rfl⟩ ; first | rw [l])
              | (refine Need.intro (draw_mix ⟨lookMix_same, True.intro⟩) ?_)
              | (refine Need.intro (DrawP.intro (by kernel_rfl)) ?_)
              | (refine Does.mono (PEQ G6 d3 d4 q mid _ (by omega) hs3 up6.arr up6.wf (by omega) (by omega) hpe) ?_ ; rintro _ G4 ⟨rfl, u4⟩)
              | fail)
            all_goals (conv => whnf)
            exact ⟨(mid, b, limit, true, true, d4), ⟨rfl, rfl, rfl, rfl, rfl, rfl, trivial⟩, ⟨up6.trans u4, hr.2.2.trans hs3, hr.2.1, hbn, by dsimp only; omega, by dsimp only; omega, hT⟩, by dsimp only; omega⟩
          · obtain ⟨mid, d4⟩ : ∃ m y, Go.Sort.partition ltN d3 a b q = (m, y) := ⟨_, _, rfl⟩
            obtain ⟨⟨ap, d4⟩, hpe⟩ := d4
            obtain ⟨r1, r2, r3, -⟩ := Go.Sort.partition_holds ltN swoN d3 a b q (by omega) (by omega) (by rw [hs3]; exact hbn)
            rw [hpe] at r1 r2 r3
            dsimp only at r1 r2 r3
            have hs4 : d4.size = n := r3.1.trans hs3
            by_cases hlt : mid - a < b - mid
            · rw [tail_l hE hpe ⟨r1, r2⟩ hlt] at hT
              have hsz5 := pdq_size _ d4 a mid limit true true (Nat.le_refl _) r1 (by omega)
              by_cases hbal : mid - a ≥ (b - a) / 8
              · rw [decide_eq_true hbal] at hT
                rcases Nat.eq_zero_or_pos a with ha0' | ha0'
                · skip
                  repeat' ((conv => whnf); first
                    | (refine Both.intro ?_ ?_ <;> intro _ <;> try (exfalso; omega))
                    | (refine Need.intro (by omega) ?_)
                    | (refine Does.mono (PIV H1 d1 p .decreasing 2 rfl hs up.arr up.wf hcp) ?_ ; rintro _ G2 ⟨rfl, v2⟩ ; have up2 := up.trans v2)
                    | (refine Does.mono (reverse_any G2 up2.wf blk e c st d1 n hs.symm up2.arr hc (by omega) a b (by omega) hbn) ?_ ; rintro _ G3 ⟨rfl, v3⟩ ; rw [← hd2] at v3 ; have up3 := up2.trans v3)
                    | (refine Does.mono (PNS G3 d2 d3 false hs2 up3.arr up3.wf hd3) ?_ ; rintro _ G6 ⟨rfl, v6⟩ ; have up6 := up3.trans v6)
                    | (refine Need.intro (DrawP.intro (by kernel_rfl)) ?_)
                    | (refine Gives.intro ⟨_, quoN (x := b - a) (y := 8) (by omega) (by omega) (by omega), ?_⟩)
                    | (refine Does.mono (PRT G6 d3 d4 q mid ap _ (by omega) hs3 up6.arr up6.wf (by omega) (by omega) hpe) ?_ ; rintro _ G4 ⟨rfl, u4⟩)
                    | (refine Does.mono (REC G4 d4 a mid limit _ (by omega) hs4 u4.arr u4.wf (by omega) r1 (by omega) (by omega)) ?_ ; rintro _ G5 ⟨rfl, u5⟩)
                    | fail)
                  all_goals (conv => whnf)
                  exact ⟨(mid + 1, b, limit, true, ap, Go.Sort.pdq ltN d4 a mid limit true true), ⟨rfl, rfl, rfl, rfl, rfl, rfl, trivial⟩, ⟨(up6.trans u4).trans u5, hsz5.trans hs4, by dsimp only; omega, hbn, by dsimp only; omega, by dsimp only; omega, hT⟩, by dsimp only; omega⟩
                · have l' : ltN d3[a - 1]! d3[q]! = true := by
                    cases hx : ltN d3[a - 1]! d3[q]! with
                    | true => rfl
                    | false => exact absurd ⟨ha0', hx⟩ hE
                  repeat' ((conv => whnf); first
                    | (refine Both.intro ?_ ?_ <;> intro _ <;> try (exfalso; omega))
                    | (refine Need.intro (by omega) ?_)
                    | (refine Does.mono (PIV H1 d1 p .decreasing 2 rfl hs up.arr up.wf hcp) ?_ ; rintro _ G2 ⟨rfl, v2⟩ ; have up2 := up.trans v2)
                    | (refine Does.mono (reverse_any G2 up2.wf blk e c st d1 n hs.symm up2.arr hc (by omega) a b (by omega) hbn) ?_ ; rintro _ G3 ⟨rfl, v3⟩ ; rw [← hd2] at v3 ; have up3 := up2.trans v3)
                    | (refine Does.mono (PNS G3 d2 d3 false hs2 up3.arr up3.wf hd3) ?_ ; rintro _ G6 ⟨rfl, v6⟩ ; have up6 := up3.trans v6)
                    | (refine ⟨_, up6.arr.cellI (i := a - 1) (by omega) (by omega), ?_⟩)
                    | (refine ⟨_, up6.arr.cellI (i := q) (by omega) (by omega), ?_⟩)
                    | (refine Does.mono (less_any _ _ _) ?_ ; rintro _ _ ⟨rfl, rfl⟩ ; first | rw [l'])
                    | (refine Need.intro (draw_mix ⟨lookMix_same, True.intro⟩) ?_)
                    | (refine Need.intro (DrawP.intro (by kernel_rfl)) ?_)
                    | (refine Gives.intro ⟨_, quoN (x := b - a) (y := 8) (by omega) (by omega) (by omega), ?_⟩)
                    | (refine Does.mono (PRT G6 d3 d4 q mid ap _ (by omega) hs3 up6.arr up6.wf (by omega) (by omega) hpe) ?_ ; rintro _ G4 ⟨rfl, u4⟩)
                    | (refine Does.mono (REC G4 d4 a mid limit _ (by omega) hs4 u4.arr u4.wf (by omega) r1 (by omega) (by omega)) ?_ ; rintro _ G5 ⟨rfl, u5⟩)
                    | fail)
                  all_goals (conv => whnf)
                  exact ⟨(mid + 1, b, limit, true, ap, Go.Sort.pdq ltN d4 a mid limit true true), ⟨rfl, rfl, rfl, rfl, rfl, rfl, trivial⟩, ⟨(up6.trans u4).trans u5, hsz5.trans hs4, by dsimp only; omega, hbn, by dsimp only; omega, by dsimp only; omega, hT⟩, by dsimp only; omega⟩
              · rw [decide_eq_false hbal] at hT
                rcases Nat.eq_zero_or_pos a with ha0' | ha0'
                · skip
                  repeat' ((conv => whnf); first
                    | (refine Both.intro ?_ ?_ <;> intro _ <;> try (exfalso; omega))
                    | (refine Need.intro (by omega) ?_)
                    | (refine Does.mono (PIV H1 d1 p .decreasing 2 rfl hs up.arr up.wf hcp) ?_ ; rintro _ G2 ⟨rfl, v2⟩ ; have up2 := up.trans v2)
                    | (refine Does.mono (reverse_any G2 up2.wf blk e c st d1 n hs.symm up2.arr hc (by omega) a b (by omega) hbn) ?_ ; rintro _ G3 ⟨rfl, v3⟩ ; rw [← hd2] at v3 ; have up3 := up2.trans v3)
                    | (refine Does.mono (PNS G3 d2 d3 false hs2 up3.arr up3.wf hd3) ?_ ; rintro _ G6 ⟨rfl, v6⟩ ; have up6 := up3.trans v6)
                    | (refine Need.intro (DrawP.intro (by kernel_rfl)) ?_)
                    | (refine Gives.intro ⟨_, quoN (x := b - a) (y := 8) (by omega) (by omega) (by omega), ?_⟩)
                    | (refine Does.mono (PRT G6 d3 d4 q mid ap _ (by omega) hs3 up6.arr up6.wf (by omega) (by omega) hpe) ?_ ; rintro _ G4 ⟨rfl, u4⟩)
                    | (refine Does.mono (REC G4 d4 a mid limit _ (by omega) hs4 u4.arr u4.wf (by omega) r1 (by omega) (by omega)) ?_ ; rintro _ G5 ⟨rfl, u5⟩)
                    | fail)
                  all_goals (conv => whnf)
                  exact ⟨(mid + 1, b, limit, false, ap, Go.Sort.pdq ltN d4 a mid limit true true), ⟨rfl, rfl, rfl, rfl, rfl, rfl, trivial⟩, ⟨(up6.trans u4).trans u5, hsz5.trans hs4, by dsimp only; omega, hbn, by dsimp only; omega, by dsimp only; omega, hT⟩, by dsimp only; omega⟩
                · have l' : ltN d3[a - 1]! d3[q]! = true := by
                    cases hx : ltN d3[a - 1]! d3[q]! with
                    | true => rfl
                    | false => exact absurd ⟨ha0', hx⟩ hE
                  repeat' ((conv => whnf); first
                    | (refine Both.intro ?_ ?_ <;> intro _ <;> try (exfalso; omega))
                    | (refine Need.intro (by omega) ?_)
                    | (refine Does.mono (PIV H1 d1 p .decreasing 2 rfl hs up.arr up.wf hcp) ?_ ; rintro _ G2 ⟨rfl, v2⟩ ; have up2 := up.trans v2)
                    | (refine Does.mono (reverse_any G2 up2.wf blk e c st d1 n hs.symm up2.arr hc (by omega) a b (by omega) hbn) ?_ ; rintro _ G3 ⟨rfl, v3⟩ ; rw [← hd2] at v3 ; have up3 := up2.trans v3)
                    | (refine Does.mono (PNS G3 d2 d3 false hs2 up3.arr up3.wf hd3) ?_ ; rintro _ G6 ⟨rfl, v6⟩ ; have up6 := up3.trans v6)
                    | (refine ⟨_, up6.arr.cellI (i := a - 1) (by omega) (by omega), ?_⟩)
                    | (refine ⟨_, up6.arr.cellI (i := q) (by omega) (by omega), ?_⟩)
                    | (refine Does.mono (less_any _ _ _) ?_ ; rintro _ _ ⟨rfl, rfl⟩ ; first | rw [l'])
                    | (refine Need.intro (draw_mix ⟨lookMix_same, True.intro⟩) ?_)
                    | (refine Need.intro (DrawP.intro (by kernel_rfl)) ?_)
                    | (refine Gives.intro ⟨_, quoN (x := b - a) (y := 8) (by omega) (by omega) (by omega), ?_⟩)
                    | (refine Does.mono (PRT G6 d3 d4 q mid ap _ (by omega) hs3 up6.arr up6.wf (by omega) (by omega) hpe) ?_ ; rintro _ G4 ⟨rfl, u4⟩)
                    | (refine Does.mono (REC G4 d4 a mid limit _ (by omega) hs4 u4.arr u4.wf (by omega) r1 (by omega) (by omega)) ?_ ; rintro _ G5 ⟨rfl, u5⟩)
                    | fail)
                  all_goals (conv => whnf)
                  exact ⟨(mid + 1, b, limit, false, ap, Go.Sort.pdq ltN d4 a mid limit true true), ⟨rfl, rfl, rfl, rfl, rfl, rfl, trivial⟩, ⟨(up6.trans u4).trans u5, hsz5.trans hs4, by dsimp only; omega, hbn, by dsimp only; omega, by dsimp only; omega, hT⟩, by dsimp only; omega⟩
            · rw [tail_r hE hpe ⟨r1, r2⟩ hlt] at hT
              have hsz5 := pdq_size _ d4 (mid + 1) b limit true true (Nat.le_refl _) (by omega) (by omega)
              by_cases hbal : b - mid ≥ (b - a) / 8
              · rw [decide_eq_true hbal] at hT
                rcases Nat.eq_zero_or_pos a with ha0' | ha0'
                · skip
                  repeat' ((conv => whnf); first
                    | (refine Both.intro ?_ ?_ <;> intro _ <;> try (exfalso; omega))
                    | (refine Need.intro (by omega) ?_)
                    | (refine Does.mono (PIV H1 d1 p .decreasing 2 rfl hs up.arr up.wf hcp) ?_ ; rintro _ G2 ⟨rfl, v2⟩ ; have up2 := up.trans v2)
                    | (refine Does.mono (reverse_any G2 up2.wf blk e c st d1 n hs.symm up2.arr hc (by omega) a b (by omega) hbn) ?_ ; rintro _ G3 ⟨rfl, v3⟩ ; rw [← hd2] at v3 ; have up3 := up2.trans v3)
                    | (refine Does.mono (PNS G3 d2 d3 false hs2 up3.arr up3.wf hd3) ?_ ; rintro _ G6 ⟨rfl, v6⟩ ; have up6 := up3.trans v6)
                    | (refine Need.intro (DrawP.intro (by kernel_rfl)) ?_)
                    | (refine Gives.intro ⟨_, quoN (x := b - a) (y := 8) (by omega) (by omega) (by omega), ?_⟩)
                    | (refine Does.mono (PRT G6 d3 d4 q mid ap _ (by omega) hs3 up6.arr up6.wf (by omega) (by omega) hpe) ?_ ; rintro _ G4 ⟨rfl, u4⟩)
                    | (refine Does.mono (REC G4 d4 (mid + 1) b limit _ (by omega) hs4 u4.arr u4.wf (by omega) (by omega) hbn (by omega)) ?_ ; rintro _ G5 ⟨rfl, u5⟩)
                    | fail)
                  all_goals (conv => whnf)
                  exact ⟨(a, mid, limit, true, ap, Go.Sort.pdq ltN d4 (mid + 1) b limit true true), ⟨rfl, rfl, rfl, rfl, rfl, rfl, trivial⟩, ⟨(up6.trans u4).trans u5, hsz5.trans hs4, r1, by dsimp only; omega, by dsimp only; omega, by dsimp only; omega, hT⟩, by dsimp only; omega⟩
                · have l' : ltN d3[a - 1]! d3[q]! = true := by
                    cases hx : ltN d3[a - 1]! d3[q]! with
                    | true => rfl
                    | false => exact absurd ⟨ha0', hx⟩ hE
                  repeat' ((conv => whnf); first
                    | (refine Both.intro ?_ ?_ <;> intro _ <;> try (exfalso; omega))
                    | (refine Need.intro (by omega) ?_)
                    | (refine Does.mono (PIV H1 d1 p .decreasing 2 rfl hs up.arr up.wf hcp) ?_ ; rintro _ G2 ⟨rfl, v2⟩ ; have up2 := up.trans v2)
                    | (refine Does.mono (reverse_any G2 up2.wf blk e c st d1 n hs.symm up2.arr hc (by omega) a b (by omega) hbn) ?_ ; rintro _ G3 ⟨rfl, v3⟩ ; rw [← hd2] at v3 ; have up3 := up2.trans v3)
                    | (refine Does.mono (PNS G3 d2 d3 false hs2 up3.arr up3.wf hd3) ?_ ; rintro _ G6 ⟨rfl, v6⟩ ; have up6 := up3.trans v6)
                    | (refine ⟨_, up6.arr.cellI (i := a - 1) (by omega) (by omega), ?_⟩)
                    | (refine ⟨_, up6.arr.cellI (i := q) (by omega) (by omega), ?_⟩)
                    | (refine Does.mono (less_any _ _ _) ?_ ; rintro _ _ ⟨rfl, rfl⟩ ; first | rw [l'])
                    | (refine Need.intro (draw_mix ⟨lookMix_same, True.intro⟩) ?_)
                    | (refine Need.intro (DrawP.intro (by kernel_rfl)) ?_)
                    | (refine Gives.intro ⟨_, quoN (x := b - a) (y := 8) (by omega) (by omega) (by omega), ?_⟩)
                    | (refine Does.mono (PRT G6 d3 d4 q mid ap _ (by omega) hs3 up6.arr up6.wf (by omega) (by omega) hpe) ?_ ; rintro _ G4 ⟨rfl, u4⟩)
                    | (refine Does.mono (REC G4 d4 (mid + 1) b limit _ (by omega) hs4 u4.arr u4.wf (by omega) (by omega) hbn (by omega)) ?_ ; rintro _ G5 ⟨rfl, u5⟩)
                    | fail)
                  all_goals (conv => whnf)
                  exact ⟨(a, mid, limit, true, ap, Go.Sort.pdq ltN d4 (mid + 1) b limit true true), ⟨rfl, rfl, rfl, rfl, rfl, rfl, trivial⟩, ⟨(up6.trans u4).trans u5, hsz5.trans hs4, r1, by dsimp only; omega, by dsimp only; omega, by dsimp only; omega, hT⟩, by dsimp only; omega⟩
              · rw [decide_eq_false hbal] at hT
                rcases Nat.eq_zero_or_pos a with ha0' | ha0'
                · skip
                  repeat' ((conv => whnf); first
                    | (refine Both.intro ?_ ?_ <;> intro _ <;> try (exfalso; omega))
                    | (refine Need.intro (by omega) ?_)
                    | (refine Does.mono (PIV H1 d1 p .decreasing 2 rfl hs up.arr up.wf hcp) ?_ ; rintro _ G2 ⟨rfl, v2⟩ ; have up2 := up.trans v2)
                    | (refine Does.mono (reverse_any G2 up2.wf blk e c st d1 n hs.symm up2.arr hc (by omega) a b (by omega) hbn) ?_ ; rintro _ G3 ⟨rfl, v3⟩ ; rw [← hd2] at v3 ; have up3 := up2.trans v3)
                    | (refine Does.mono (PNS G3 d2 d3 false hs2 up3.arr up3.wf hd3) ?_ ; rintro _ G6 ⟨rfl, v6⟩ ; have up6 := up3.trans v6)
                    | (refine Need.intro (DrawP.intro (by kernel_rfl)) ?_)
                    | (refine Gives.intro ⟨_, quoN (x := b - a) (y := 8) (by omega) (by omega) (by omega), ?_⟩)
                    | (refine Does.mono (PRT G6 d3 d4 q mid ap _ (by omega) hs3 up6.arr up6.wf (by omega) (by omega) hpe) ?_ ; rintro _ G4 ⟨rfl, u4⟩)
                    | (refine Does.mono (REC G4 d4 (mid + 1) b limit _ (by omega) hs4 u4.arr u4.wf (by omega) (by omega) hbn (by omega)) ?_ ; rintro _ G5 ⟨rfl, u5⟩)
                    | fail)
                  all_goals (conv => whnf)
                  exact ⟨(a, mid, limit, false, ap, Go.Sort.pdq ltN d4 (mid + 1) b limit true true), ⟨rfl, rfl, rfl, rfl, rfl, rfl, trivial⟩, ⟨(up6.trans u4).trans u5, hsz5.trans hs4, r1, by dsimp only; omega, by dsimp only; omega, by dsimp only; omega, hT⟩, by dsimp only; omega⟩
                · have l' : ltN d3[a - 1]! d3[q]! = true := by
                    cases hx : ltN d3[a - 1]! d3[q]! with
                    | true => rfl
                    | false => exact absurd ⟨ha0', hx⟩ hE
                  repeat' ((conv => whnf); first
                    | (refine Both.intro ?_ ?_ <;> intro _ <;> try (exfalso; omega))
                    | (refine Need.intro (by omega) ?_)
                    | (refine Does.mono (PIV H1 d1 p .decreasing 2 rfl hs up.arr up.wf hcp) ?_ ; rintro _ G2 ⟨rfl, v2⟩ ; have up2 := up.trans v2)
                    | (refine Does.mono (reverse_any G2 up2.wf blk e c st d1 n hs.symm up2.arr hc (by omega) a b (by omega) hbn) ?_ ; rintro _ G3 ⟨rfl, v3⟩ ; rw [← hd2] at v3 ; have up3 := up2.trans v3)
                    | (refine Does.mono (PNS G3 d2 d3 false hs2 up3.arr up3.wf hd3) ?_ ; rintro _ G6 ⟨rfl, v6⟩ ; have up6 := up3.trans v6)
                    | (refine ⟨_, up6.arr.cellI (i := a - 1) (by omega) (by omega), ?_⟩)
                    | (refine ⟨_, up6.arr.cellI (i := q) (by omega) (by omega), ?_⟩)
                    | (refine Does.mono (less_any _ _ _) ?_ ; rintro _ _ ⟨rfl, rfl⟩ ; first | rw [l'])
                    | (refine Need.intro (draw_mix ⟨lookMix_same, True.intro⟩) ?_)
                    | (refine Need.intro (DrawP.intro (by kernel_rfl)) ?_)
                    | (refine Gives.intro ⟨_, quoN (x := b - a) (y := 8) (by omega) (by omega) (by omega), ?_⟩)
                    | (refine Does.mono (PRT G6 d3 d4 q mid ap _ (by omega) hs3 up6.arr up6.wf (by omega) (by omega) hpe) ?_ ; rintro _ G4 ⟨rfl, u4⟩)
                    | (refine Does.mono (REC G4 d4 (mid + 1) b limit _ (by omega) hs4 u4.arr u4.wf (by omega) (by omega) hbn (by omega)) ?_ ; rintro _ G5 ⟨rfl, u5⟩)
                    | fail)
                  all_goals (conv => whnf)
                  exact ⟨(a, mid, limit, false, ap, Go.Sort.pdq ltN d4 (mid + 1) b limit true true), ⟨rfl, rfl, rfl, rfl, rfl, rfl, trivial⟩, ⟨(up6.trans u4).trans u5, hsz5.trans hs4, r1, by dsimp only; omega, by dsimp only; omega, by dsimp only; omega, hT⟩, by dsimp only; omega⟩
      | increasing =>
        obtain ⟨d3, hd3⟩ : ∃ y, Go.Sort.partialInsertionSort ltN d1 a b = y := ⟨_, rfl⟩
        obtain ⟨d3, f⟩ := d3
        have hs3 : d3.size = n := by have := pis_size d1 a b; rw [hd3] at this; exact this.trans hs
        rw [pdq_step (d := d1) (wb := true) (wp := true) h12 hlz d1 (rfl) limit (rfl) (p, .increasing) hcp d1 (by rw [if_neg (fun h => by cases h)]) p (by rw [if_neg (fun h => by cases h)]) .increasing (by rw [if_neg (fun h => by cases h)]) (d3, f) (by rw [hd3]; rfl)] at hT
        cases f with
        | true =>
          change d3 = _ at hT
          repeat' ((conv => whnf); first
            | (refine Both.intro ?_ ?_ <;> intro _ <;> try (exfalso; omega))
            | (refine Need.intro (by omega) ?_)
            | (refine Does.mono (PIV H1 d1 p .increasing 1 rfl hs up.arr up.wf hcp) ?_ ; rintro _ G2 ⟨rfl, v2⟩ ; have up2 := up.trans v2)
            | (refine Does.mono (PNS G2 d1 d3 true hs up2.arr up2.wf hd3) ?_ ; rintro _ G6 ⟨rfl, v6⟩ ; have up6 := up2.trans v6)
            | fail)
          all_goals (conv => whnf)
          exact ⟨rfl, hT ▸ up6⟩
        | false =>
          change tailF d3 a b limit true true p = _ at hT
          by_cases hE : a > 0 ∧ ltN d3[a - 1]! d3[p]! = false
          · obtain ⟨h0, l⟩ := hE
            obtain ⟨mid, d4⟩ : ∃ m y, Go.Sort.partitionEqual ltN d3 a b p = (m, y) := ⟨_, _, rfl⟩
            obtain ⟨d4, hpe⟩ := d4
            have hr := parteq_rng d3 a b p (by omega)
            rw [hpe] at hr
            rw [tail_eq h0 l hpe ⟨hr.1, hr.2.1⟩] at hT
            repeat' ((conv => whnf); first
              | (refine Both.intro ?_ ?_ <;> intro _ <;> try (exfalso; omega))
              | (refine Need.intro (by omega) ?_)
              | (refine Does.mono (PIV H1 d1 p .increasing 1 rfl hs up.arr up.wf hcp) ?_ ; rintro _ G2 ⟨rfl, v2⟩ ; have up2 := up.trans v2)
              | (refine Does.mono (PNS G2 d1 d3 false hs up2.arr up2.wf hd3) ?_ ; rintro _ G6 ⟨rfl, v6⟩ ; have up6 := up2.trans v6)
              | (refine ⟨_, up6.arr.cellI (i := a - 1) (by omega) (by omega), ?_⟩)
              | (refine ⟨_, up6.arr.cellI (i := p) (by omega) (by omega), ?_⟩)
              | (refine Does.mono (less_any _ _ _) ?_ ; rintro _ _ ⟨rfl, rfl⟩ ; first | rw [l])
              | (refine Need.intro (draw_mix ⟨lookMix_same, True.intro⟩) ?_)
              | (refine Need.intro (DrawP.intro (by kernel_rfl)) ?_)
              | (refine Does.mono (PEQ G6 d3 d4 p mid _ (by omega) hs3 up6.arr up6.wf (by omega) (by omega) hpe) ?_ ; rintro _ G4 ⟨rfl, u4⟩)
              | fail)
            all_goals (conv => whnf)
            exact ⟨(mid, b, limit, true, true, d4), ⟨rfl, rfl, rfl, rfl, rfl, rfl, trivial⟩, ⟨up6.trans u4, hr.2.2.trans hs3, hr.2.1, hbn, by dsimp only; omega, by dsimp only; omega, hT⟩, by dsimp only; omega⟩
          · obtain ⟨mid, d4⟩ : ∃ m y, Go.Sort.partition ltN d3 a b p = (m, y) := ⟨_, _, rfl⟩
            obtain ⟨⟨ap, d4⟩, hpe⟩ := d4
            obtain ⟨r1, r2, r3, -⟩ := Go.Sort.partition_holds ltN swoN d3 a b p (by omega) (by omega) (by rw [hs3]; exact hbn)
            rw [hpe] at r1 r2 r3
            dsimp only at r1 r2 r3
            have hs4 : d4.size = n := r3.1.trans hs3
            by_cases hlt : mid - a < b - mid
            · rw [tail_l hE hpe ⟨r1, r2⟩ hlt] at hT
              have hsz5 := pdq_size _ d4 a mid limit true true (Nat.le_refl _) r1 (by omega)
              by_cases hbal : mid - a ≥ (b - a) / 8
              · rw [decide_eq_true hbal] at hT
                rcases Nat.eq_zero_or_pos a with ha0' | ha0'
                · skip
                  repeat' ((conv => whnf); first
                    | (refine Both.intro ?_ ?_ <;> intro _ <;> try (exfalso; omega))
                    | (refine Need.intro (by omega) ?_)
                    | (refine Does.mono (PIV H1 d1 p .increasing 1 rfl hs up.arr up.wf hcp) ?_ ; rintro _ G2 ⟨rfl, v2⟩ ; have up2 := up.trans v2)
                    | (refine Does.mono (PNS G2 d1 d3 false hs up2.arr up2.wf hd3) ?_ ; rintro _ G6 ⟨rfl, v6⟩ ; have up6 := up2.trans v6)
                    | (refine Need.intro (DrawP.intro (by kernel_rfl)) ?_)
                    | (refine Gives.intro ⟨_, quoN (x := b - a) (y := 8) (by omega) (by omega) (by omega), ?_⟩)
                    | (refine Does.mono (PRT G6 d3 d4 p mid ap _ (by omega) hs3 up6.arr up6.wf (by omega) (by omega) hpe) ?_ ; rintro _ G4 ⟨rfl, u4⟩)
                    | (refine Does.mono (REC G4 d4 a mid limit _ (by omega) hs4 u4.arr u4.wf (by omega) r1 (by omega) (by omega)) ?_ ; rintro _ G5 ⟨rfl, u5⟩)
                    | fail)
                  all_goals (conv => whnf)
                  exact ⟨(mid + 1, b, limit, true, ap, Go.Sort.pdq ltN d4 a mid limit true true), ⟨rfl, rfl, rfl, rfl, rfl, rfl, trivial⟩, ⟨(up6.trans u4).trans u5, hsz5.trans hs4, by dsimp only; omega, hbn, by dsimp only; omega, by dsimp only; omega, hT⟩, by dsimp only; omega⟩
                · have l' : ltN d3[a - 1]! d3[p]! = true := by
                    cases hx : ltN d3[a - 1]! d3[p]! with
                    | true => rfl
                    | false => exact absurd ⟨ha0', hx⟩ hE
                  repeat' ((conv => whnf); first
                    | (refine Both.intro ?_ ?_ <;> intro _ <;> try (exfalso; omega))
                    | (refine Need.intro (by omega) ?_)
                    | (refine Does.mono (PIV H1 d1 p .increasing 1 rfl hs up.arr up.wf hcp) ?_ ; rintro _ G2 ⟨rfl, v2⟩ ; have up2 := up.trans v2)
                    | (refine Does.mono (PNS G2 d1 d3 false hs up2.arr up2.wf hd3) ?_ ; rintro _ G6 ⟨rfl, v6⟩ ; have up6 := up2.trans v6)
                    | (refine ⟨_, up6.arr.cellI (i := a - 1) (by omega) (by omega), ?_⟩)
                    | (refine ⟨_, up6.arr.cellI (i := p) (by omega) (by omega), ?_⟩)
                    | (refine Does.mono (less_any _ _ _) ?_ ; rintro _ _ ⟨rfl, rfl⟩ ; first | rw [l'])
                    | (refine Need.intro (draw_mix ⟨lookMix_same, True.intro⟩) ?_)
                    | (refine Need.intro (DrawP.intro (by kernel_rfl)) ?_)
                    | (refine Gives.intro ⟨_, quoN (x := b - a) (y := 8) (by omega) (by omega) (by omega), ?_⟩)
                    | (refine Does.mono (PRT G6 d3 d4 p mid ap _ (by omega) hs3 up6.arr up6.wf (by omega) (by omega) hpe) ?_ ; rintro _ G4 ⟨rfl, u4⟩)
                    | (refine Does.mono (REC G4 d4 a mid limit _ (by omega) hs4 u4.arr u4.wf (by omega) r1 (by omega) (by omega)) ?_ ; rintro _ G5 ⟨rfl, u5⟩)
                    | fail)
                  all_goals (conv => whnf)
                  exact ⟨(mid + 1, b, limit, true, ap, Go.Sort.pdq ltN d4 a mid limit true true), ⟨rfl, rfl, rfl, rfl, rfl, rfl, trivial⟩, ⟨(up6.trans u4).trans u5, hsz5.trans hs4, by dsimp only; omega, hbn, by dsimp only; omega, by dsimp only; omega, hT⟩, by dsimp only; omega⟩
              · rw [decide_eq_false hbal] at hT
                rcases Nat.eq_zero_or_pos a with ha0' | ha0'
                · skip
                  repeat' ((conv => whnf); first
                    | (refine Both.intro ?_ ?_ <;> intro _ <;> try (exfalso; omega))
                    | (refine Need.intro (by omega) ?_)
                    | (refine Does.mono (PIV H1 d1 p .increasing 1 rfl hs up.arr up.wf hcp) ?_ ; rintro _ G2 ⟨rfl, v2⟩ ; have up2 := up.trans v2)
                    | (refine Does.mono (PNS G2 d1 d3 false hs up2.arr up2.wf hd3) ?_ ; rintro _ G6 ⟨rfl, v6⟩ ; have up6 := up2.trans v6)
                    | (refine Need.intro (DrawP.intro (by kernel_rfl)) ?_)
                    | (refine Gives.intro ⟨_, quoN (x := b - a) (y := 8) (by omega) (by omega) (by omega), ?_⟩)
                    | (refine Does.mono (PRT G6 d3 d4 p mid ap _ (by omega) hs3 up6.arr up6.wf (by omega) (by omega) hpe) ?_ ; rintro _ G4 ⟨rfl, u4⟩)
                    | (refine Does.mono (REC G4 d4 a mid limit _ (by omega) hs4 u4.arr u4.wf (by omega) r1 (by omega) (by omega)) ?_ ; rintro _ G5 ⟨rfl, u5⟩)
                    | fail)
                  all_goals (conv => whnf)
                  exact ⟨(mid + 1, b, limit, false, ap, Go.Sort.pdq ltN d4 a mid limit true true), ⟨rfl, rfl, rfl, rfl, rfl, rfl, trivial⟩, ⟨(up6.trans u4).trans u5, hsz5.trans hs4, by dsimp only; omega, hbn, by dsimp only; omega, by dsimp only; omega, hT⟩, by dsimp only; omega⟩
                · have l' : ltN d3[a - 1]! d3[p]! = true := by
                    cases hx : ltN d3[a - 1]! d3[p]! with
                    | true => rfl
                    | false => exact absurd ⟨ha0', hx⟩ hE
                  repeat' ((conv => whnf); first
                    | (refine Both.intro ?_ ?_ <;> intro _ <;> try (exfalso; omega))
                    | (refine Need.intro (by omega) ?_)
                    | (refine Does.mono (PIV H1 d1 p .increasing 1 rfl hs up.arr up.wf hcp) ?_ ; rintro _ G2 ⟨rfl, v2⟩ ; have up2 := up.trans v2)
                    | (refine Does.mono (PNS G2 d1 d3 false hs up2.arr up2.wf hd3) ?_ ; rintro _ G6 ⟨rfl, v6⟩ ; have up6 := up2.trans v6)
                    | (refine ⟨_, up6.arr.cellI (i := a - 1) (by omega) (by omega), ?_⟩)
                    | (refine ⟨_, up6.arr.cellI (i := p) (by omega) (by omega), ?_⟩)
                    | (refine Does.mono (less_any _ _ _) ?_ ; rintro _ _ ⟨rfl, rfl⟩ ; first | rw [l'])
                    | (refine Need.intro (draw_mix ⟨lookMix_same, True.intro⟩) ?_)
                    | (refine Need.intro (DrawP.intro (by kernel_rfl)) ?_)
                    | (refine Gives.intro ⟨_, quoN (x := b - a) (y := 8) (by omega) (by omega) (by omega), ?_⟩)
                    | (refine Does.mono (PRT G6 d3 d4 p mid ap _ (by omega) hs3 up6.arr up6.wf (by omega) (by omega) hpe) ?_ ; rintro _ G4 ⟨rfl, u4⟩)
                    | (refine Does.mono (REC G4 d4 a mid limit _ (by omega) hs4 u4.arr u4.wf (by omega) r1 (by omega) (by omega)) ?_ ; rintro _ G5 ⟨rfl, u5⟩)
                    | fail)
                  all_goals (conv => whnf)
                  exact ⟨(mid + 1, b, limit, false, ap, Go.Sort.pdq ltN d4 a mid limit true true), ⟨rfl, rfl, rfl, rfl, rfl, rfl, trivial⟩, ⟨(up6.trans u4).trans u5, hsz5.trans hs4, by dsimp only; omega, hbn, by dsimp only; omega, by dsimp only; omega, hT⟩, by dsimp only; omega⟩
            · rw [tail_r hE hpe ⟨r1, r2⟩ hlt] at hT
              have hsz5 := pdq_size _ d4 (mid + 1) b limit true true (Nat.le_refl _) (by omega) (by omega)
              by_cases hbal : b - mid ≥ (b - a) / 8
              · rw [decide_eq_true hbal] at hT
                rcases Nat.eq_zero_or_pos a with ha0' | ha0'
                · skip
                  repeat' ((conv => whnf); first
                    | (refine Both.intro ?_ ?_ <;> intro _ <;> try (exfalso; omega))
                    | (refine Need.intro (by omega) ?_)
                    | (refine Does.mono (PIV H1 d1 p .increasing 1 rfl hs up.arr up.wf hcp) ?_ ; rintro _ G2 ⟨rfl, v2⟩ ; have up2 := up.trans v2)
                    | (refine Does.mono (PNS G2 d1 d3 false hs up2.arr up2.wf hd3) ?_ ; rintro _ G6 ⟨rfl, v6⟩ ; have up6 := up2.trans v6)
                    | (refine Need.intro (DrawP.intro (by kernel_rfl)) ?_)
                    | (refine Gives.intro ⟨_, quoN (x := b - a) (y := 8) (by omega) (by omega) (by omega), ?_⟩)
                    | (refine Does.mono (PRT G6 d3 d4 p mid ap _ (by omega) hs3 up6.arr up6.wf (by omega) (by omega) hpe) ?_ ; rintro _ G4 ⟨rfl, u4⟩)
                    | (refine Does.mono (REC G4 d4 (mid + 1) b limit _ (by omega) hs4 u4.arr u4.wf (by omega) (by omega) hbn (by omega)) ?_ ; rintro _ G5 ⟨rfl, u5⟩)
                    | fail)
                  all_goals (conv => whnf)
                  exact ⟨(a, mid, limit, true, ap, Go.Sort.pdq ltN d4 (mid + 1) b limit true true), ⟨rfl, rfl, rfl, rfl, rfl, rfl, trivial⟩, ⟨(up6.trans u4).trans u5, hsz5.trans hs4, r1, by dsimp only; omega, by dsimp only; omega, by dsimp only; omega, hT⟩, by dsimp only; omega⟩
                · have l' : ltN d3[a - 1]! d3[p]! = true := by
                    cases hx : ltN d3[a - 1]! d3[p]! with
                    | true => rfl
                    | false => exact absurd ⟨ha0', hx⟩ hE
                  repeat' ((conv => whnf); first
                    | (refine Both.intro ?_ ?_ <;> intro _ <;> try (exfalso; omega))
                    | (refine Need.intro (by omega) ?_)
                    | (refine Does.mono (PIV H1 d1 p .increasing 1 rfl hs up.arr up.wf hcp) ?_ ; rintro _ G2 ⟨rfl, v2⟩ ; have up2 := up.trans v2)
                    | (refine Does.mono (PNS G2 d1 d3 false hs up2.arr up2.wf hd3) ?_ ; rintro _ G6 ⟨rfl, v6⟩ ; have up6 := up2.trans v6)
                    | (refine ⟨_, up6.arr.cellI (i := a - 1) (by omega) (by omega), ?_⟩)
                    | (refine ⟨_, up6.arr.cellI (i := p) (by omega) (by omega), ?_⟩)
                    | (refine Does.mono (less_any _ _ _) ?_ ; rintro _ _ ⟨rfl, rfl⟩ ; first | rw [l'])
                    | (refine Need.intro (draw_mix ⟨lookMix_same, True.intro⟩) ?_)
                    | (refine Need.intro (DrawP.intro (by kernel_rfl)) ?_)
                    | (refine Gives.intro ⟨_, quoN (x := b - a) (y := 8) (by omega) (by omega) (by omega), ?_⟩)
                    | (refine Does.mono (PRT G6 d3 d4 p mid ap _ (by omega) hs3 up6.arr up6.wf (by omega) (by omega) hpe) ?_ ; rintro _ G4 ⟨rfl, u4⟩)
                    | (refine Does.mono (REC G4 d4 (mid + 1) b limit _ (by omega) hs4 u4.arr u4.wf (by omega) (by omega) hbn (by omega)) ?_ ; rintro _ G5 ⟨rfl, u5⟩)
                    | fail)
                  all_goals (conv => whnf)
                  exact ⟨(a, mid, limit, true, ap, Go.Sort.pdq ltN d4 (mid + 1) b limit true true), ⟨rfl, rfl, rfl, rfl, rfl, rfl, trivial⟩, ⟨(up6.trans u4).trans u5, hsz5.trans hs4, r1, by dsimp only; omega, by dsimp only; omega, by dsimp only; omega, hT⟩, by dsimp only; omega⟩
              · rw [decide_eq_false hbal] at hT
                rcases Nat.eq_zero_or_pos a with ha0' | ha0'
                · skip
                  repeat' ((conv => whnf); first
                    | (refine Both.intro ?_ ?_ <;> intro _ <;> try (exfalso; omega))
                    | (refine Need.intro (by omega) ?_)
                    | (refine Does.mono (PIV H1 d1 p .increasing 1 rfl hs up.arr up.wf hcp) ?_ ; rintro _ G2 ⟨rfl, v2⟩ ; have up2 := up.trans v2)
                    | (refine Does.mono (PNS G2 d1 d3 false hs up2.arr up2.wf hd3) ?_ ; rintro _ G6 ⟨rfl, v6⟩ ; have up6 := up2.trans v6)
                    | (refine Need.intro (DrawP.intro (by kernel_rfl)) ?_)
                    | (refine Gives.intro ⟨_, quoN (x := b - a) (y := 8) (by omega) (by omega) (by omega), ?_⟩)
                    | (refine Does.mono (PRT G6 d3 d4 p mid ap _ (by omega) hs3 up6.arr up6.wf (by omega) (by omega) hpe) ?_ ; rintro _ G4 ⟨rfl, u4⟩)
                    | (refine Does.mono (REC G4 d4 (mid + 1) b limit _ (by omega) hs4 u4.arr u4.wf (by omega) (by omega) hbn (by omega)) ?_ ; rintro _ G5 ⟨rfl, u5⟩)
                    | fail)
                  all_goals (conv => whnf)
                  exact ⟨(a, mid, limit, false, ap, Go.Sort.pdq ltN d4 (mid + 1) b limit true true), ⟨rfl, rfl, rfl, rfl, rfl, rfl, trivial⟩, ⟨(up6.trans u4).trans u5, hsz5.trans hs4, r1, by dsimp only; omega, by dsimp only; omega, by dsimp only; omega, hT⟩, by dsimp only; omega⟩
                · have l' : ltN d3[a - 1]! d3[p]! = true := by
                    cases hx : ltN d3[a - 1]! d3[p]! with
                    | true => rfl
                    | false => exact absurd ⟨ha0', hx⟩ hE
                  repeat' ((conv => whnf); first
                    | (refine Both.intro ?_ ?_ <;> intro _ <;> try (exfalso; omega))
                    | (refine Need.intro (by omega) ?_)
                    | (refine Does.mono (PIV H1 d1 p .increasing 1 rfl hs up.arr up.wf hcp) ?_ ; rintro _ G2 ⟨rfl, v2⟩ ; have up2 := up.trans v2)
                    | (refine Does.mono (PNS G2 d1 d3 false hs up2.arr up2.wf hd3) ?_ ; rintro _ G6 ⟨rfl, v6⟩ ; have up6 := up2.trans v6)
                    | (refine ⟨_, up6.arr.cellI (i := a - 1) (by omega) (by omega), ?_⟩)
                    | (refine ⟨_, up6.arr.cellI (i := p) (by omega) (by omega), ?_⟩)
                    | (refine Does.mono (less_any _ _ _) ?_ ; rintro _ _ ⟨rfl, rfl⟩ ; first | rw [l'])
                    | (refine Need.intro (draw_mix ⟨lookMix_same, True.intro⟩) ?_)
                    | (refine Need.intro (DrawP.intro (by kernel_rfl)) ?_)
                    | (refine Gives.intro ⟨_, quoN (x := b - a) (y := 8) (by omega) (by omega) (by omega), ?_⟩)
                    | (refine Does.mono (PRT G6 d3 d4 p mid ap _ (by omega) hs3 up6.arr up6.wf (by omega) (by omega) hpe) ?_ ; rintro _ G4 ⟨rfl, u4⟩)
                    | (refine Does.mono (REC G4 d4 (mid + 1) b limit _ (by omega) hs4 u4.arr u4.wf (by omega) (by omega) hbn (by omega)) ?_ ; rintro _ G5 ⟨rfl, u5⟩)
                    | fail)
                  all_goals (conv => whnf)
                  exact ⟨(a, mid, limit, false, ap, Go.Sort.pdq ltN d4 (mid + 1) b limit true true), ⟨rfl, rfl, rfl, rfl, rfl, rfl, trivial⟩, ⟨(up6.trans u4).trans u5, hsz5.trans hs4, r1, by dsimp only; omega, by dsimp only; omega, by dsimp only; omega, hT⟩, by dsimp only; omega⟩
      | unknown =>
        rw [pdq_step (d := d1) (wb := true) (wp := true) h12 hlz d1 (rfl) limit (rfl) (p, .unknown) hcp d1 (by rw [if_neg (fun h => by cases h)]) p (by rw [if_neg (fun h => by cases h)]) .unknown (by rw [if_neg (fun h => by cases h)]) (d1, false) (rfl)] at hT
        change tailF d1 a b limit true true p = _ at hT
        by_cases hE : a > 0 ∧ ltN d1[a - 1]! d1[p]! = false
        · obtain ⟨h0, l⟩ := hE
          obtain ⟨mid, d4⟩ : ∃ m y, Go.Sort.partitionEqual ltN d1 a b p = (m, y) := ⟨_, _, rfl⟩
          obtain ⟨d4, hpe⟩ := d4
          have hr := parteq_rng d1 a b p (by omega)
          rw [hpe] at hr
          rw [tail_eq h0 l hpe ⟨hr.1, hr.2.1⟩] at hT
          repeat' ((conv => whnf); first
            | (refine Both.intro ?_ ?_ <;> intro _ <;> try (exfalso; omega))
            | (refine Need.intro (by omega) ?_)
            | (refine Does.mono (PIV H1 d1 p .unknown 0 rfl hs up.arr up.wf hcp) ?_ ; rintro _ G2 ⟨rfl, v2⟩ ; have up2 := up.trans v2)
            | (refine ⟨_, up2.arr.cellI (i := a - 1) (by omega) (by omega), ?_⟩)
            | (refine ⟨_, up2.arr.cellI (i := p) (by omega) (by omega), ?_⟩)
            | (refine Does.mono (less_any _ _ _) ?_ ; rintro _ _ ⟨rfl, rfl⟩ ; first | rw [l])
            | (refine Need.intro (draw_mix ⟨lookMix_same, True.intro⟩) ?_)
            | (refine Need.intro (DrawP.intro (by kernel_rfl)) ?_)
            | (refine Does.mono (PEQ G2 d1 d4 p mid _ (by omega) hs up2.arr up2.wf (by omega) (by omega) hpe) ?_ ; rintro _ G4 ⟨rfl, u4⟩)
            | fail)
          all_goals (conv => whnf)
          exact ⟨(mid, b, limit, true, true, d4), ⟨rfl, rfl, rfl, rfl, rfl, rfl, trivial⟩, ⟨up2.trans u4, hr.2.2.trans hs, hr.2.1, hbn, by dsimp only; omega, by dsimp only; omega, hT⟩, by dsimp only; omega⟩
        · obtain ⟨mid, d4⟩ : ∃ m y, Go.Sort.partition ltN d1 a b p = (m, y) := ⟨_, _, rfl⟩
          obtain ⟨⟨ap, d4⟩, hpe⟩ := d4
          obtain ⟨r1, r2, r3, -⟩ := Go.Sort.partition_holds ltN swoN d1 a b p (by omega) (by omega) (by rw [hs]; exact hbn)
          rw [hpe] at r1 r2 r3
          dsimp only at r1 r2 r3
          have hs4 : d4.size = n := r3.1.trans hs
          by_cases hlt : mid - a < b - mid
          · rw [tail_l hE hpe ⟨r1, r2⟩ hlt] at hT
            have hsz5 := pdq_size _ d4 a mid limit true true (Nat.le_refl _) r1 (by omega)
            by_cases hbal : mid - a ≥ (b - a) / 8
            · rw [decide_eq_true hbal] at hT
              rcases Nat.eq_zero_or_pos a with ha0' | ha0'
              · skip
                repeat' ((conv => whnf); first
                  | (refine Both.intro ?_ ?_ <;> intro _ <;> try (exfalso; omega))
                  | (refine Need.intro (by omega) ?_)
                  | (refine Does.mono (PIV H1 d1 p .unknown 0 rfl hs up.arr up.wf hcp) ?_ ; rintro _ G2 ⟨rfl, v2⟩ ; have up2 := up.trans v2)
                  | (refine Need.intro (DrawP.intro (by kernel_rfl)) ?_)
                  | (refine Gives.intro ⟨_, quoN (x := b - a) (y := 8) (by omega) (by omega) (by omega), ?_⟩)
                  | (refine Does.mono (PRT G2 d1 d4 p mid ap _ (by omega) hs up2.arr up2.wf (by omega) (by omega) hpe) ?_ ; rintro _ G4 ⟨rfl, u4⟩)
                  | (refine Does.mono (REC G4 d4 a mid limit _ (by omega) hs4 u4.arr u4.wf (by omega) r1 (by omega) (by omega)) ?_ ; rintro _ G5 ⟨rfl, u5⟩)
                  | fail)
                all_goals (conv => whnf)
                exact ⟨(mid + 1, b, limit, true, ap, Go.Sort.pdq ltN d4 a mid limit true true), ⟨rfl, rfl, rfl, rfl, rfl, rfl, trivial⟩, ⟨(up2.trans u4).trans u5, hsz5.trans hs4, by dsimp only; omega, hbn, by dsimp only; omega, by dsimp only; omega, hT⟩, by dsimp only; omega⟩
              · have l' : ltN d1[a - 1]! d1[p]! = true := by
                  cases hx : ltN d1[a - 1]! d1[p]! with
                  | true => rfl
                  | false => exact absurd ⟨ha0', hx⟩ hE
                repeat' ((conv => whnf); first
                  | (refine Both.intro ?_ ?_ <;> intro _ <;> try (exfalso; omega))
                  | (refine Need.intro (by omega) ?_)
                  | (refine Does.mono (PIV H1 d1 p .unknown 0 rfl hs up.arr up.wf hcp) ?_ ; rintro _ G2 ⟨rfl, v2⟩ ; have up2 := up.trans v2)
                  | (refine ⟨_, up2.arr.cellI (i := a - 1) (by omega) (by omega), ?_⟩)
                  | (refine ⟨_, up2.arr.cellI (i := p) (by omega) (by omega), ?_⟩)
                  | (refine Does.mono (less_any _ _ _) ?_ ; rintro _ _ ⟨rfl, rfl⟩ ; first | rw [l'])
                  | (refine Need.intro (draw_mix ⟨lookMix_same, True.intro⟩) ?_)
                  | (refine Need.intro (DrawP.intro (by kernel_rfl)) ?_)
                  | (refine Gives.intro ⟨_, quoN (x := b - a) (y := 8) (by omega) (by omega) (by omega), ?_⟩)
                  | (refine Does.mono (PRT G2 d1 d4 p mid ap _ (by omega) hs up2.arr up2.wf (by omega) (by omega) hpe) ?_ ; rintro _ G4 ⟨rfl, u4⟩)
                  | (refine Does.mono (REC G4 d4 a mid limit _ (by omega) hs4 u4.arr u4.wf (by omega) r1 (by omega) (by omega)) ?_ ; rintro _ G5 ⟨rfl, u5⟩)
                  | fail)
                all_goals (conv => whnf)
                exact ⟨(mid + 1, b, limit, true, ap, Go.Sort.pdq ltN d4 a mid limit true true), ⟨rfl, rfl, rfl, rfl, rfl, rfl, trivial⟩, ⟨(up2.trans u4).trans u5, hsz5.trans hs4, by dsimp only; omega, hbn, by dsimp only; omega, by dsimp only; omega, hT⟩, by dsimp only; omega⟩
            · rw [decide_eq_false hbal] at hT
              rcases Nat.eq_zero_or_pos a with ha0' | ha0'
              · skip
                repeat' ((conv => whnf); first
                  | (refine Both.intro ?_ ?_ <;> intro _ <;> try (exfalso; omega))
                  | (refine Need.intro (by omega) ?_)
                  | (refine Does.mono (PIV H1 d1 p .unknown 0 rfl hs up.arr up.wf hcp) ?_ ; rintro _ G2 ⟨rfl, v2⟩ ; have up2 := up.trans v2)
                  | (refine Need.intro (DrawP.intro (by kernel_rfl)) ?_)
                  | (refine Gives.intro ⟨_, quoN (x := b - a) (y := 8) (by omega) (by omega) (by omega), ?_⟩)
                  | (refine Does.mono (PRT G2 d1 d4 p mid ap _ (by omega) hs up2.arr up2.wf (by omega) (by omega) hpe) ?_ ; rintro _ G4 ⟨rfl, u4⟩)
                  | (refine Does.mono (REC G4 d4 a mid limit _ (by omega) hs4 u4.arr u4.wf (by omega) r1 (by omega) (by omega)) ?_ ; rintro _ G5 ⟨rfl, u5⟩)
                  | fail)
                all_goals (conv => whnf)
                exact ⟨(mid + 1, b, limit, false, ap, Go.Sort.pdq ltN d4 a mid limit true true), ⟨rfl, rfl, rfl, rfl, rfl, rfl, trivial⟩, ⟨(up2.trans u4).trans u5, hsz5.trans hs4, by dsimp only; omega, hbn, by dsimp only; omega, by dsimp only; omega, hT⟩, by dsimp only; omega⟩
              · have l' : ltN d1[a - 1]! d1[p]! = true := by
                  cases hx : ltN d1[a - 1]! d1[p]! with
                  | true => rfl
                  | false => exact absurd ⟨ha0', hx⟩ hE
                repeat' ((conv => whnf); first
                  | (refine Both.intro ?_ ?_ <;> intro _ <;> try (exfalso; omega))
                  | (refine Need.intro (by omega) ?_)
                  | (refine Does.mono (PIV H1 d1 p .unknown 0 rfl hs up.arr up.wf hcp) ?_ ; rintro _ G2 ⟨rfl, v2⟩ ; have up2 := up.trans v2)
                  | (refine ⟨_, up2.arr.cellI (i := a - 1) (by omega) (by omega), ?_⟩)
                  | (refine ⟨_, up2.arr.cellI (i := p) (by omega) (by omega), ?_⟩)
                  | (refine Does.mono (less_any _ _ _) ?_ ; rintro _ _ ⟨rfl, rfl⟩ ; first | rw [l'])
                  | (refine Need.intro (draw_mix ⟨lookMix_same, True.intro⟩) ?_)
                  | (refine Need.intro (DrawP.intro (by kernel_rfl)) ?_)
                  | (refine Gives.intro ⟨_, quoN (x := b - a) (y := 8) (by omega) (by omega) (by omega), ?_⟩)
                  | (refine Does.mono (PRT G2 d1 d4 p mid ap _ (by omega) hs up2.arr up2.wf (by omega) (by omega) hpe) ?_ ; rintro _ G4 ⟨rfl, u4⟩)
                  | (refine Does.mono (REC G4 d4 a mid limit _ (by omega) hs4 u4.arr u4.wf (by omega) r1 (by omega) (by omega)) ?_ ; rintro _ G5 ⟨rfl, u5⟩)
                  | fail)
                all_goals (conv => whnf)
                exact ⟨(mid + 1, b, limit, false, ap, Go.Sort.pdq ltN d4 a mid limit true true), ⟨rfl, rfl, rfl, rfl, rfl, rfl, trivial⟩, ⟨(up2.trans u4).trans u5, hsz5.trans hs4, by dsimp only; omega, hbn, by dsimp only; omega, by dsimp only; omega, hT⟩, by dsimp only; omega⟩
          · rw [tail_r hE hpe ⟨r1, r2⟩ hlt] at hT
            have hsz5 := pdq_size _ d4 (mid + 1) b limit true true (Nat.le_refl _) (by omega) (by omega)
            by_cases hbal : b - mid ≥ (b - a) / 8
            · rw [decide_eq_true hbal] at hT
              rcases Nat.eq_zero_or_pos a with ha0' | ha0'
              · skip
                repeat' ((conv => whnf); first
                  | (refine Both.intro ?_ ?_ <;> intro _ <;> try (exfalso; omega))
                  | (refine Need.intro (by omega) ?_)
                  | (refine Does.mono (PIV H1 d1 p .unknown 0 rfl hs up.arr up.wf hcp) ?_ ; rintro _ G2 ⟨rfl, v2⟩ ; have up2 := up.trans v2)
                  | (refine Need.intro (DrawP.intro (by kernel_rfl)) ?_)
                  | (refine Gives.intro ⟨_, quoN (x := b - a) (y := 8) (by omega) (by omega) (by omega), ?_⟩)
                  | (refine Does.mono (PRT G2 d1 d4 p mid ap _ (by omega) hs up2.arr up2.wf (by omega) (by omega) hpe) ?_ ; rintro _ G4 ⟨rfl, u4⟩)
                  | (refine Does.mono (REC G4 d4 (mid + 1) b limit _ (by omega) hs4 u4.arr u4.wf (by omega) (by omega) hbn (by omega)) ?_ ; rintro _ G5 ⟨rfl, u5⟩)
                  | fail)
                all_goals (conv => whnf)
                exact ⟨(a, mid, limit, true, ap, Go.Sort.pdq ltN d4 (mid + 1) b limit true true), ⟨rfl, rfl, rfl, rfl, rfl, rfl, trivial⟩, ⟨(up2.trans u4).trans u5, hsz5.trans hs4, r1, by dsimp only; omega, by dsimp only; omega, by dsimp only; omega, hT⟩, by dsimp only; omega⟩
              · have l' : ltN d1[a - 1]! d1[p]! = true := by
                  cases hx : ltN d1[a - 1]! d1[p]! with
                  | true => rfl
                  | false => exact absurd ⟨ha0', hx⟩ hE
                repeat' ((conv => whnf); first
                  | (refine Both.intro ?_ ?_ <;> intro _ <;> try (exfalso; omega))
                  | (refine Need.intro (by omega) ?_)
                  | (refine Does.mono (PIV H1 d1 p .unknown 0 rfl hs up.arr up.wf hcp) ?_ ; rintro _ G2 ⟨rfl, v2⟩ ; have up2 := up.trans v2)
                  | (refine ⟨_, up2.arr.cellI (i := a - 1) (by omega) (by omega), ?_⟩)
                  | (refine ⟨_, up2.arr.cellI (i := p) (by omega) (by omega), ?_⟩)
                  | (refine Does.mono (less_any _ _ _) ?_ ; rintro _ _ ⟨rfl, rfl⟩ ; first | rw [l'])
                  | (refine Need.intro (draw_mix ⟨lookMix_same, True.intro⟩) ?_)
                  | (refine Need.intro (DrawP.intro (by kernel_rfl)) ?_)
                  | (refine Gives.intro ⟨_, quoN (x := b - a) (y := 8) (by omega) (by omega) (by omega), ?_⟩)
                  | (refine Does.mono (PRT G2 d1 d4 p mid ap _ (by omega) hs up2.arr up2.wf (by omega) (by omega) hpe) ?_ ; rintro _ G4 ⟨rfl, u4⟩)
                  | (refine Does.mono (REC G4 d4 (mid + 1) b limit _ (by omega) hs4 u4.arr u4.wf (by omega) (by omega) hbn (by omega)) ?_ ; rintro _ G5 ⟨rfl, u5⟩)
                  | fail)
                all_goals (conv => whnf)
                exact ⟨(a, mid, limit, true, ap, Go.Sort.pdq ltN d4 (mid + 1) b limit true true), ⟨rfl, rfl, rfl, rfl, rfl, rfl, trivial⟩, ⟨(up2.trans u4).trans u5, hsz5.trans hs4, r1, by dsimp only; omega, by dsimp only; omega, by dsimp only; omega, hT⟩, by dsimp only; omega⟩
            · rw [decide_eq_false hbal] at hT
              rcases Nat.eq_zero_or_pos a with ha0' | ha0'
              · skip
                repeat' ((conv => whnf); first
                  | (refine Both.intro ?_ ?_ <;> intro _ <;> try (exfalso; omega))
                  | (refine Need.intro (by omega) ?_)
                  | (refine Does.mono (PIV H1 d1 p .unknown 0 rfl hs up.arr up.wf hcp) ?_ ; rintro _ G2 ⟨rfl, v2⟩ ; have up2 := up.trans v2)
                  | (refine Need.intro (DrawP.intro (by kernel_rfl)) ?_)
                  | (refine Gives.intro ⟨_, quoN (x := b - a) (y := 8) (by omega) (by omega) (by omega), ?_⟩)
                  | (refine Does.mono (PRT G2 d1 d4 p mid ap _ (by omega) hs up2.arr up2.wf (by omega) (by omega) hpe) ?_ ; rintro _ G4 ⟨rfl, u4⟩)
                  | (refine Does.mono (REC G4 d4 (mid + 1) b limit _ (by omega) hs4 u4.arr u4.wf (by omega) (by omega) hbn (by omega)) ?_ ; rintro _ G5 ⟨rfl, u5⟩)
                  | fail)
                all_goals (conv => whnf)
                exact ⟨(a, mid, limit, false, ap, Go.Sort.pdq ltN d4 (mid + 1) b limit true true), ⟨rfl, rfl, rfl, rfl, rfl, rfl, trivial⟩, ⟨(up2.trans u4).trans u5, hsz5.trans hs4, r1, by dsimp only; omega, by dsimp only; omega, by dsimp only; omega, hT⟩, by dsimp only; omega⟩
              · have l' : ltN d1[a - 1]! d1[p]! = true := by
                  cases hx : ltN d1[a - 1]! d1[p]! with
                  | true => rfl
                  | false => exact absurd ⟨ha0', hx⟩ hE
                repeat' ((conv => whnf); first
                  | (refine Both.intro ?_ ?_ <;> intro _ <;> try (exfalso; omega))
                  | (refine Need.intro (by omega) ?_)
                  | (refine Does.mono (PIV H1 d1 p .unknown 0 rfl hs up.arr up.wf hcp) ?_ ; rintro _ G2 ⟨rfl, v2⟩ ; have up2 := up.trans v2)
                  | (refine ⟨_, up2.arr.cellI (i := a - 1) (by omega) (by omega), ?_⟩)
                  | (refine ⟨_, up2.arr.cellI (i := p) (by omega) (by omega), ?_⟩)
                  | (refine Does.mono (less_any _ _ _) ?_ ; rintro _ _ ⟨rfl, rfl⟩ ; first | rw [l'])
                  | (refine Need.intro (draw_mix ⟨lookMix_same, True.intro⟩) ?_)
                  | (refine Need.intro (DrawP.intro (by kernel_rfl)) ?_)
                  | (refine Gives.intro ⟨_, quoN (x := b - a) (y := 8) (by omega) (by omega) (by omega), ?_⟩)
                  | (refine Does.mono (PRT G2 d1 d4 p mid ap _ (by omega) hs up2.arr up2.wf (by omega) (by omega) hpe) ?_ ; rintro _ G4 ⟨rfl, u4⟩)
                  | (refine Does.mono (REC G4 d4 (mid + 1) b limit _ (by omega) hs4 u4.arr u4.wf (by omega) (by omega) hbn (by omega)) ?_ ; rintro _ G5 ⟨rfl, u5⟩)
                  | fail)
                all_goals (conv => whnf)
                exact ⟨(a, mid, limit, false, ap, Go.Sort.pdq ltN d4 (mid + 1) b limit true true), ⟨rfl, rfl, rfl, rfl, rfl, rfl, trivial⟩, ⟨(up2.trans u4).trans u5, hsz5.trans hs4, r1, by dsimp only; omega, by dsimp only; omega, by dsimp only; omega, hT⟩, by dsimp only; omega⟩
end Go.AX.Try
