/- slices.Sort at uint64: order2Ordered, medianOrdered, medianAdjacentOrdered, choosePivotOrdered. -/
import Derived.Test.YtffnjihgboeonaaLSrtC
namespace Go.AX.Try
open Go Go.AX Go.AX.Lw Go.Proofs
set_option linter.unusedVariables false
set_option linter.unusedSimpArgs false
set_option maxRecDepth 100000
/-- A call that turned one counter alone. -/
structure Cnt (v ev : Nat) (H H' : AHeap) (k : Nat) : Prop where
  get : H'.get v = some (.cells [.int .i64 k] ev true)
  wf : Wf H'
  next : H.next ≤ H'.next
  old : ∀ c, c ≠ v → H'.get c = H.get c
theorem Cnt.refl {v ev : Nat} {H : AHeap} {k : Nat} (h : H.get v = some (.cells [.int .i64 k] ev true)) (hw : Wf H) : Cnt v ev H H k := ⟨h, hw, Nat.le_refl _, fun _ _ => rfl⟩
theorem Cnt.trans {v ev : Nat} {H H1 H2 : AHeap} {k k' : Nat} (h : Cnt v ev H H1 k) (h' : Cnt v ev H1 H2 k') : Cnt v ev H H2 k' :=
  ⟨h'.get, h'.wf, Nat.le_trans h.next h'.next, fun c hc => (h'.old c hc).trans (h.old c hc)⟩
theorem Cnt.arr {v ev : Nat} {H H' : AHeap} {k : Nat} (h : Cnt v ev H H' k) {b e : Nat} {d : Array Nat} (ha : Arr H b e d) (hne : b ≠ v) : Arr H' b e d := (h.old b hne).trans ha
theorem cntStore {H : AHeap} {v ev : Nat} {x : Value} (z : Int) (hv : H.get v = some (.cells [x] ev true)) : aStore Try.prog H 3 (.pointer (some ⟨v, 0, none⟩)) (.int .i64 z) = some (.val undef (H.set v (.cells [.int .i64 z] ev true)) (.eff H (H.set v (.cells [.int .i64 z] ev true)))) :=
  store_ok (P := Try.prog) (t := 3) (H := H) (b := v) (o := 0) (v := .int .i64 z) (cs := [x]) (by kernel_rfl) rfl rfl hv (by simp)
theorem Cnt.set {v ev : Nat} {H H1 : AHeap} {k : Nat} (h : Cnt v ev H H1 k) (k' : Nat) : Cnt v ev H (H1.set v (.cells [.int .i64 k'] ev true)) k' :=
  ⟨by rw [AHeap.get_set, if_pos rfl], h.wf.set h.get _, by simpa using h.next, fun c hc => by rw [AHeap.get_set, if_neg hc]; exact h.old c hc⟩
theorem order2_any (H : AHeap) (hw : Wf H) (blk e c : Nat) (st : Option Nat) (d : Array Nat) (n : Nat) (hn : n = d.size) (hd : Arr H blk e d) (hc : n ≤ c) (hsz : n ≤ 2 ^ 40) (a b : Nat) (ha : a < n) (hb : b < n) (v ev k : Nat) (hv : H.get v = some (.cells [.int .i64 k] ev true)) (hk : k ≤ 2 ^ 40) :
    Does Try.prog orc 47 [DV blk n c st, .int .i64 a, .int .i64 b, .pointer (some ⟨v, 0, none⟩)] H fun r H' => r = .ret (.tuple #[.int .i64 (Go.Sort.order2 ltN d a b k).1, .int .i64 (Go.Sort.order2 ltN d a b k).2.1]) ∧ Cnt v ev H H' (Go.Sort.order2 ltN d a b k).2.2 := by
  refine Does.of Try.func47 (fun _ _ => rfl) rfl ?_
  have up := Upd.refl hd hw
  unfold Go.Sort.order2
  have hcv : cellAt H v 0 = some (.int .i64 k) := cellAt_of hv (o := 0) rfl
  by_cases l : ltN d[b]! d[a]! = true
  · rw [if_pos l]
    repeat' ((conv => whnf); first
      | (refine Both.intro ?_ ?_ <;> intro _ <;> try (exfalso; omega))
      | (refine Need.intro (by omega) ?_)
      | (refine ⟨_, up.arr.cellI (i := b) (by omega) (by omega), ?_⟩)
      | (refine ⟨_, up.arr.cellI (i := a) (by omega) (by omega), ?_⟩)
      | (refine Does.mono (less_any _ _ _) ?_ ; rintro _ _ ⟨rfl, rfl⟩ ; first | rw [l])
      | (refine Need.intro (draw_mix ⟨lookMix_same, True.intro⟩) ?_)
      | (refine ⟨_, hcv, ?_⟩)
      | (refine Outs.intro ⟨_, _, _, cntStore _ hv, ?_⟩)
      | (refine Need.intro (DrawP.intro (by kernel_rfl)) ?_)
      | fail)
    all_goals (conv => whnf)
    exact ⟨rfl, (Cnt.refl hv hw).set (k + 1)⟩
  · have l' : ltN d[b]! d[a]! = false := by simpa using l
    rw [if_neg l]
    repeat' ((conv => whnf); first
      | (refine Both.intro ?_ ?_ <;> intro _ <;> try (exfalso; omega))
      | (refine Need.intro (by omega) ?_)
      | (refine ⟨_, up.arr.cellI (i := b) (by omega) (by omega), ?_⟩)
      | (refine ⟨_, up.arr.cellI (i := a) (by omega) (by omega), ?_⟩)
      | (refine Does.mono (less_any _ _ _) ?_ ; rintro _ _ ⟨rfl, rfl⟩ ; first | rw [l'])
      | (refine Need.intro (draw_mix ⟨lookMix_same, True.intro⟩) ?_)
      | fail)
    all_goals (conv => whnf)
    exact ⟨rfl, Cnt.refl hv hw⟩
theorem order2_mem (d : Array Nat) (a b k : Nat) : ((Go.Sort.order2 ltN d a b k).1 = a ∧ (Go.Sort.order2 ltN d a b k).2.1 = b ∨ (Go.Sort.order2 ltN d a b k).1 = b ∧ (Go.Sort.order2 ltN d a b k).2.1 = a) ∧ (Go.Sort.order2 ltN d a b k).2.2 ≤ k + 1 := by
  unfold Go.Sort.order2
  split
  · exact ⟨.inr ⟨rfl, rfl⟩, Nat.le_refl _⟩
  · exact ⟨.inl ⟨rfl, rfl⟩, Nat.le_succ _⟩
theorem median_any (H : AHeap) (hw : Wf H) (blk e c : Nat) (st : Option Nat) (d : Array Nat) (n : Nat) (hn : n = d.size) (hd : Arr H blk e d) (hc : n ≤ c) (hsz : n ≤ 2 ^ 40) (a b x : Nat) (ha : a < n) (hb : b < n) (hx : x < n) (v ev k : Nat) (hne : blk ≠ v) (hv : H.get v = some (.cells [.int .i64 k] ev true)) (hk : k ≤ 2 ^ 30) :
    Does Try.prog orc 45 [DV blk n c st, .int .i64 a, .int .i64 b, .int .i64 x, .pointer (some ⟨v, 0, none⟩)] H fun r H' => r = .ret (.int .i64 (Go.Sort.median ltN d a b x k).1) ∧ Cnt v ev H H' (Go.Sort.median ltN d a b x k).2 ∧ (Go.Sort.median ltN d a b x k).1 < n ∧ (Go.Sort.median ltN d a b x k).2 ≤ k + 3 := by
  refine Does.of Try.func45 (fun _ _ => rfl) rfl ?_
  obtain ⟨r1, h1⟩ : ∃ r, r = Go.Sort.order2 ltN d a b k := ⟨_, rfl⟩
  obtain ⟨r2, h2⟩ : ∃ r, r = Go.Sort.order2 ltN d r1.2.1 x r1.2.2 := ⟨_, rfl⟩
  obtain ⟨r3, h3⟩ : ∃ r, r = Go.Sort.order2 ltN d r1.1 r2.1 r2.2.2 := ⟨_, rfl⟩
  have hm : Go.Sort.median ltN d a b x k = (r3.2.1, r3.2.2) := by
    unfold Go.Sort.median
    dsimp only
    rw [← h1, ← h2, ← h3]
  rw [hm]
  have m1 := order2_mem d a b k
  have m2 := order2_mem d r1.2.1 x r1.2.2
  have m3 := order2_mem d r1.1 r2.1 r2.2.2
  rw [← h1] at m1
  rw [← h2] at m2
  rw [← h3] at m3
  have q1 : r1.1 < n ∧ r1.2.1 < n := by omega
  have q2 : r2.1 < n ∧ r2.2.1 < n := by omega
  have q3 : r3.1 < n ∧ r3.2.1 < n := by omega
  have o1 := order2_any H hw blk e c st d n hn hd hc hsz a b ha hb v ev k hv (by omega)
  rw [← h1] at o1
  repeat' ((conv => whnf); first
    | (refine Both.intro ?_ ?_ <;> intro _ <;> try (exfalso; omega))
    | (refine Need.intro (by omega) ?_)
    | (refine Does.mono o1 ?_ ; rintro _ H1 ⟨rfl, c1⟩ ; have o2 := order2_any H1 c1.wf blk e c st d n hn (c1.arr hd hne) hc hsz r1.2.1 x q1.2 hx v ev r1.2.2 c1.get (by omega) ; rw [← h2] at o2)
    | (refine Does.mono o2 ?_ ; rintro _ H2 ⟨rfl, c2⟩ ; have o3 := order2_any H2 c2.wf blk e c st d n hn ((c1.trans c2).arr hd hne) hc hsz r1.1 r2.1 q1.1 q2.1 v ev r2.2.2 c2.get (by omega) ; rw [← h3] at o3)
    | (refine Does.mono o3 ?_ ; rintro _ H3 ⟨rfl, c3⟩)
    | (refine Need.intro (DrawP.intro (by kernel_rfl)) ?_)
    | fail)
  all_goals (conv => whnf)
  exact ⟨rfl, (c1.trans c2).trans c3, q3.2, by dsimp only; omega⟩
theorem medadj_any (H : AHeap) (hw : Wf H) (blk e c : Nat) (st : Option Nat) (d : Array Nat) (n : Nat) (hn : n = d.size) (hd : Arr H blk e d) (hc : n ≤ c) (hsz : n ≤ 2 ^ 40) (a : Nat) (ha : 1 ≤ a ∧ a + 1 < n) (v ev k : Nat) (hne : blk ≠ v) (hv : H.get v = some (.cells [.int .i64 k] ev true)) (hk : k ≤ 2 ^ 30) :
    Does Try.prog orc 44 [DV blk n c st, .int .i64 a, .pointer (some ⟨v, 0, none⟩)] H fun r H' => r = .ret (.int .i64 (Go.Sort.medianAdjacent ltN d a k).1) ∧ Cnt v ev H H' (Go.Sort.medianAdjacent ltN d a k).2 ∧ (Go.Sort.medianAdjacent ltN d a k).1 < n ∧ (Go.Sort.medianAdjacent ltN d a k).2 ≤ k + 3 := by
  refine Does.of Try.func44 (fun _ _ => rfl) rfl ?_
  have hm := median_any H hw blk e c st d n hn hd hc hsz (a - 1) a (a + 1) (by omega) (by omega) (by omega) v ev k hne hv hk
  rw [show ((a - 1 : Nat) : Int) = (a : Int) - 1 by omega] at hm
  repeat' ((conv => whnf); first
    | (refine Both.intro ?_ ?_ <;> intro _ <;> try (exfalso; omega))
    | (refine Need.intro (by omega) ?_)
    | (refine Does.mono hm ?_ ; rintro _ H1 ⟨rfl, c1, q1, q2⟩)
    | fail)
  all_goals (conv => whnf)
  exact ⟨rfl, c1, q1, q2⟩
def hintN : Go.Sort.Hint → Nat
  | .unknown => 0
  | .increasing => 1
  | .decreasing => 2
theorem pivot_any (H : AHeap) (hw : Wf H) (blk e c : Nat) (st : Option Nat) (d : Array Nat) (n : Nat) (hn : n = d.size) (hd : Arr H blk e d) (hc : n ≤ c) (hsz : n ≤ 2 ^ 40) (a b : Nat) (ha : a + 12 < b) (hb : b ≤ n) :
    Does Try.prog orc 33 [DV blk n c st, .int .i64 a, .int .i64 b] H fun r H' => r = .ret (.tuple #[.int .i64 (Go.Sort.choosePivot ltN d a b).1, .int .i64 (hintN (Go.Sort.choosePivot ltN d a b).2)]) ∧ Upd blk e H H' d := by
  refine Does.of Try.func33 (fun _ _ => rfl) rfl ?_
  have hz0 : zeroOf Try.prog 3 = some (.int .i64 0) := by kernel_rfl
  obtain ⟨q, hq⟩ : ∃ q, q = (b - a) / 4 := ⟨_, rfl⟩
  have hq4 : 4 * q ≤ b - a := by omega
  have hq1 : 3 ≤ q := by omega
  have hquo : ∀ z : Int, z = ((b - a : Nat) : Int) → aInt .quo .i64 z 4 = some (.int .i64 (q : Int)) := fun z hz => by rw [hq]; exact quoN (y := 4) hz (by omega) (by omega)
  have hblk : blk < H.next := hw.lt hd
  have g0 := get_new H (.cells [.int .i64 ((0 : Nat) : Int)] (typedV 3) true)
  have d0 : Arr (H.push (.cells [.int .i64 ((0 : Nat) : Int)] (typedV 3) true)) blk e d := by unfold Arr; rw [AHeap.get_push, if_neg (by omega)]; exact hd
  have w0 := hw.push (.cells [.int .i64 ((0 : Nat) : Int)] (typedV 3) true)
  obtain ⟨Z, hZ⟩ : ∃ Z, Z = H.push (.cells [.int .i64 ((0 : Nat) : Int)] (typedV 3) true) := ⟨_, rfl⟩
  have nZ : Z.next = H.next + 1 := by rw [hZ]; simp
  have oZ : ∀ x, x < H.next → Z.get x = H.get x := fun x hx => by rw [hZ, AHeap.get_push, if_neg (by omega)]
  rw [← hZ] at g0 d0 w0
  have fin : ∀ H' k, Cnt H.next (typedV 3) Z H' k → Upd blk e H H' d := fun H' k cn => ⟨cn.arr d0 (by omega), cn.wf, by have := cn.next; omega, fun x hx hne => by rw [cn.old x (by omega), oZ x hx]⟩
  have hne : blk ≠ H.next := by omega
  unfold Go.Sort.choosePivot
  dsimp only
  rw [← hq, if_pos (show b - a ≥ 8 by omega)]
  by_cases h50 : b - a ≥ 50
  · rw [if_pos h50]
    have a1 := medadj_any Z w0 blk e c st d n hn d0 hc hsz (a + q * 1) (by omega) H.next _ 0 hne g0 (by omega)
    obtain ⟨ri, hri⟩ : ∃ r, r = Go.Sort.medianAdjacent ltN d (a + q * 1) 0 := ⟨_, rfl⟩
    obtain ⟨rj, hrj⟩ : ∃ r, r = Go.Sort.medianAdjacent ltN d (a + q * 2) ri.2 := ⟨_, rfl⟩
    obtain ⟨rk, hrk⟩ : ∃ r, r = Go.Sort.medianAdjacent ltN d (a + q * 3) rj.2 := ⟨_, rfl⟩
    rw [← hri] at a1 ⊢
    rw [← hrj, ← hrk]
    have a2 : ∀ H1, Cnt H.next (typedV 3) Z H1 ri.2 → ri.2 ≤ 0 + 3 → _ := fun H1 c1 p2 => medadj_any H1 c1.wf blk e c st d n hn (c1.arr d0 hne) hc hsz (a + q * 2) (by omega) H.next _ ri.2 hne c1.get (by omega)
    have a3 : ∀ H1, Cnt H.next (typedV 3) Z H1 rj.2 → rj.2 ≤ 6 → _ := fun H1 c1 p2 => medadj_any H1 c1.wf blk e c st d n hn (c1.arr d0 hne) hc hsz (a + q * 3) (by omega) H.next _ rj.2 hne c1.get (by omega)
    rw [← hrj] at a2
    rw [← hrk] at a3
    have a4 : ∀ H1, Cnt H.next (typedV 3) Z H1 rk.2 → ri.1 < n → rj.1 < n → rk.1 < n → rk.2 ≤ 9 → _ := fun H1 c1 p1 p2 p3 p4 => median_any H1 c1.wf blk e c st d n hn (c1.arr d0 hne) hc hsz ri.1 rj.1 rk.1 p1 p2 p3 H.next _ rk.2 hne c1.get (by omega)
    obtain ⟨rm, hrm⟩ : ∃ r, r = Go.Sort.median ltN d ri.1 rj.1 rk.1 rk.2 := ⟨_, rfl⟩
    rw [← hrm] at a4 ⊢
    repeat' ((conv => whnf); first
      | (refine Both.intro ?_ ?_ <;> intro _ <;> try (exfalso; omega))
      | (refine Need.intro (by omega) ?_)
      | (refine Gives.intro ⟨_, hquo _ (by omega), ?_⟩)
      | (refine Gives.intro ⟨_, hz0, ?_⟩)
      | (refine Gives.intro ⟨_, mulN q 1 rfl rfl (by omega), ?_⟩)
      | (refine Gives.intro ⟨_, mulN q 2 rfl rfl (by omega), ?_⟩)
      | (refine Gives.intro ⟨_, mulN q 3 rfl rfl (by omega), ?_⟩)
      | (refine Does.mono (hZ ▸ a1) ?_ ; rintro _ H1 ⟨rfl, c1, p1, p2⟩ ; rw [← hZ] at c1)
      | (refine Does.mono (a2 H1 c1 p2) ?_ ; rintro _ H2 ⟨rfl, c2, p3, p4⟩)
      | (refine Does.mono (a3 H2 (c1.trans c2) (by omega)) ?_ ; rintro _ H3 ⟨rfl, c3, p5, p6⟩)
      | (refine Does.mono (a4 H3 ((c1.trans c2).trans c3) p1 p3 p5 (by omega)) ?_ ; rintro _ H4 ⟨rfl, c4, p7, p8⟩)
      | (refine Need.intro (DrawP.intro (by kernel_rfl)) ?_)
      | fail)
    all_goals (conv => whnf)
    have c5 := ((c1.trans c2).trans c3).trans c4
    have hcv : cellAt H4 H.next 0 = some (.int .i64 (rm.2 : Nat)) := cellAt_of c5.get (o := 0) rfl
    by_cases k0 : rm.2 = 0
    · rw [if_pos k0]
      repeat' ((conv => whnf); first
        | (refine Both.intro ?_ ?_ <;> intro _ <;> try (exfalso; omega))
        | (refine Need.intro (by omega) ?_)
        | (refine ⟨_, hcv, ?_⟩)
        | (refine Need.intro (DrawP.intro (by kernel_rfl)) ?_)
        | fail)
      all_goals (conv => whnf)
      exact ⟨rfl, fin _ _ c5⟩
    · rw [if_neg k0]
      by_cases k12 : rm.2 = 12
      · rw [if_pos k12]
        repeat' ((conv => whnf); first
          | (refine Both.intro ?_ ?_ <;> intro _ <;> try (exfalso; omega))
          | (refine Need.intro (by omega) ?_)
          | (refine ⟨_, hcv, ?_⟩)
          | (refine Need.intro (DrawP.intro (by kernel_rfl)) ?_)
          | fail)
        all_goals (conv => whnf)
        exact ⟨rfl, fin _ _ c5⟩
      · rw [if_neg k12]
        repeat' ((conv => whnf); first
          | (refine Both.intro ?_ ?_ <;> intro _ <;> try (exfalso; omega))
          | (refine Need.intro (by omega) ?_)
          | (refine ⟨_, hcv, ?_⟩)
          | (refine Need.intro (DrawP.intro (by kernel_rfl)) ?_)
          | fail)
        all_goals (conv => whnf)
        exact ⟨rfl, fin _ _ c5⟩
  · rw [if_neg h50]
    have a1 := median_any Z w0 blk e c st d n hn d0 hc hsz (a + q * 1) (a + q * 2) (a + q * 3) (by omega) (by omega) (by omega) H.next _ 0 hne g0 (by omega)
    obtain ⟨ri, hri⟩ : ∃ r, r = Go.Sort.median ltN d (a + q * 1) (a + q * 2) (a + q * 3) 0 := ⟨_, rfl⟩
    rw [← hri] at a1 ⊢
    repeat' ((conv => whnf); first
      | (refine Both.intro ?_ ?_ <;> intro _ <;> try (exfalso; omega))
      | (refine Need.intro (by omega) ?_)
      | (refine Gives.intro ⟨_, hquo _ (by omega), ?_⟩)
      | (refine Gives.intro ⟨_, hz0, ?_⟩)
      | (refine Gives.intro ⟨_, mulN q 1 rfl rfl (by omega), ?_⟩)
      | (refine Gives.intro ⟨_, mulN q 2 rfl rfl (by omega), ?_⟩)
      | (refine Gives.intro ⟨_, mulN q 3 rfl rfl (by omega), ?_⟩)
      | (refine Does.mono (hZ ▸ a1) ?_ ; rintro _ H1 ⟨rfl, c1, p1, p2⟩ ; rw [← hZ] at c1)
      | fail)
    all_goals (conv => whnf)
    have hcv : cellAt H1 H.next 0 = some (.int .i64 (ri.2 : Nat)) := cellAt_of c1.get (o := 0) rfl
    by_cases k0 : ri.2 = 0
    · rw [if_pos k0]
      repeat' ((conv => whnf); first
        | (refine Both.intro ?_ ?_ <;> intro _ <;> try (exfalso; omega))
        | (refine Need.intro (by omega) ?_)
        | (refine ⟨_, hcv, ?_⟩)
        | (refine Need.intro (DrawP.intro (by kernel_rfl)) ?_)
        | fail)
      all_goals (conv => whnf)
      exact ⟨rfl, fin _ _ c1⟩
    · rw [if_neg k0]
      by_cases k12 : ri.2 = 12
      · exact absurd k12 (by omega)
      · rw [if_neg k12]
        repeat' ((conv => whnf); first
          | (refine Both.intro ?_ ?_ <;> intro _ <;> try (exfalso; omega))
          | (refine Need.intro (by omega) ?_)
          | (refine ⟨_, hcv, ?_⟩)
          | (refine Need.intro (DrawP.intro (by kernel_rfl)) ?_)
          | fail)
        all_goals (conv => whnf)
        exact ⟨rfl, fin _ _ c1⟩
end Go.AX.Try
