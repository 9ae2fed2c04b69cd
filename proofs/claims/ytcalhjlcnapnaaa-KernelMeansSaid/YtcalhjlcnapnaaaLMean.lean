/- mean's tokens: leaf, one, two, not. -/
import Derived.Test.YtcalhjlcnapnaaaLPl
namespace Go.AX.Try
open Go Go.AX Go.AX.Lw Go.Proofs
set_option linter.unusedVariables false
set_option maxRecDepth 100000
/-- What a token of one formula makes of its places. -/
def oneF (n op : Nat) (f : Nat → Bool) : Nat → Bool :=
  if op = 7 then fun i => decide (i + 1 < n) && f (i + 1) else
  if op = 8 then fun i => decide (n ≤ i + 1) || f (i + 1) else
  if op = 9 then frF n false fun i b => f i || b else
  if op = 10 then frF n true fun i b => f i && b else fun i => !f i
def twoF (n op : Nat) (f g : Nat → Bool) : Nat → Bool :=
  if op = 15 then frF n false fun i b => g i || (f i && b) else
  if op = 16 then frF n true fun i b => g i && (f i || b) else
  if op = 11 then fun i => f i && g i else if op = 12 then fun i => f i || g i else if op = 13 then fun i => !f i || g i else fun i => f i == g i
/-- A variable that holds one value. -/
abbrev Box (H : AHeap) (b : Nat) (v : Value) : Prop := cellAt H b 0 = some v
theorem one1_any (H : AHeap) {i n c bn ba : Nat} {a : Option Addr} {f : Nat → Bool} (hi : i < n + 1) (h1 : Box H bn (.int .i64 n)) (h2 : Box H ba (.slice a (n + 1) c)) (hf : BRow H a (n + 1) c f) (hn : n ≤ 2 ^ 30) :
    Does Try.prog orc 126 [.int .i64 i, .pointer (some ⟨bn, 0, none⟩), .pointer (some ⟨ba, 0, none⟩)] H fun r H' => r = .ret (.bool (decide (i + 1 < n) && f (i + 1))) ∧ H = H' := by
  refine Does.of Try.func126 (fun _ _ => rfl) rfl ?_
  have hcap := hf.cap
  by_cases h : i + 1 < n
  · obtain ⟨b, o, s, rfl, hc⟩ := hf.at (i := i + 1) (by omega)
    cases hfk : f (i + 1) <;> rw [hfk] at hc
    all_goals
      repeat' ((conv => whnf); first
        | (refine Both.intro ?_ ?_ <;> intro _ <;> try (exfalso; omega))
        | (refine Need.intro (by omega) ?_)
        | (refine ⟨_, h1, ?_⟩)
        | (refine ⟨_, h2, ?_⟩)
        | (refine ⟨_, hc, ?_⟩)
        | fail)
      all_goals (conv => whnf)
      exact ⟨by simp [h]; rfl, rfl⟩
  · skip
    repeat' ((conv => whnf); first
      | (refine Both.intro ?_ ?_ <;> intro _ <;> try (exfalso; omega))
      | (refine Need.intro (by omega) ?_)
      | (refine ⟨_, h1, ?_⟩)
      | fail)
    all_goals (conv => whnf)
    exact ⟨by simp [h]; rfl, rfl⟩
theorem one2_any (H : AHeap) {i n c bn ba : Nat} {a : Option Addr} {f : Nat → Bool} (hi : i < n + 1) (h1 : Box H bn (.int .i64 n)) (h2 : Box H ba (.slice a (n + 1) c)) (hf : BRow H a (n + 1) c f) (hn : n ≤ 2 ^ 30) :
    Does Try.prog orc 127 [.int .i64 i, .pointer (some ⟨bn, 0, none⟩), .pointer (some ⟨ba, 0, none⟩)] H fun r H' => r = .ret (.bool (decide (n ≤ i + 1) || f (i + 1))) ∧ H = H' := by
  refine Does.of Try.func127 (fun _ _ => rfl) rfl ?_
  have hcap := hf.cap
  by_cases h : n ≤ i + 1
  · skip
    repeat' ((conv => whnf); first
      | (refine Both.intro ?_ ?_ <;> intro _ <;> try (exfalso; omega))
      | (refine Need.intro (by omega) ?_)
      | (refine ⟨_, h1, ?_⟩)
      | fail)
    all_goals (conv => whnf)
    exact ⟨by simp [h]; rfl, rfl⟩
  · obtain ⟨b, o, s, rfl, hc⟩ := hf.at (i := i + 1) (by omega)
    cases hfk : f (i + 1) <;> rw [hfk] at hc
    all_goals
      repeat' ((conv => whnf); first
        | (refine Both.intro ?_ ?_ <;> intro _ <;> try (exfalso; omega))
        | (refine Need.intro (by omega) ?_)
        | (refine ⟨_, h1, ?_⟩)
        | (refine ⟨_, h2, ?_⟩)
        | (refine ⟨_, hc, ?_⟩)
        | fail)
      all_goals (conv => whnf)
      exact ⟨by simp [h]; rfl, rfl⟩
theorem one3_any (H : AHeap) {i n c ba : Nat} {a : Option Addr} {f : Nat → Bool} (b : Bool) (hi : i < n + 1) (h2 : Box H ba (.slice a (n + 1) c)) (hf : BRow H a (n + 1) c f) :
    Does Try.prog orc 129 [.int .i64 i, .bool b, .pointer (some ⟨ba, 0, none⟩)] H fun r H' => r = .ret (.bool (f i || b)) ∧ H = H' := by
  refine Does.of Try.func129 (fun _ _ => rfl) rfl ?_
  have hcap := hf.cap
  obtain ⟨b', o, s, rfl, hc⟩ := hf.at hi
  cases hfk : f i <;> rw [hfk] at hc <;> cases b
  all_goals
    repeat' ((conv => whnf); first
      | (refine Both.intro ?_ ?_ <;> intro _ <;> try (exfalso; omega))
      | (refine Need.intro (by omega) ?_)
      | (refine ⟨_, h2, ?_⟩)
      | (refine ⟨_, hc, ?_⟩)
      | fail)
    all_goals (conv => whnf)
    exact ⟨rfl, rfl⟩
theorem one4_any (H : AHeap) {i n c ba : Nat} {a : Option Addr} {f : Nat → Bool} (b : Bool) (hi : i < n + 1) (h2 : Box H ba (.slice a (n + 1) c)) (hf : BRow H a (n + 1) c f) :
    Does Try.prog orc 130 [.int .i64 i, .bool b, .pointer (some ⟨ba, 0, none⟩)] H fun r H' => r = .ret (.bool (f i && b)) ∧ H = H' := by
  refine Does.of Try.func130 (fun _ _ => rfl) rfl ?_
  have hcap := hf.cap
  obtain ⟨b', o, s, rfl, hc⟩ := hf.at hi
  cases hfk : f i <;> rw [hfk] at hc <;> cases b
  all_goals
    repeat' ((conv => whnf); first
      | (refine Both.intro ?_ ?_ <;> intro _ <;> try (exfalso; omega))
      | (refine Need.intro (by omega) ?_)
      | (refine ⟨_, h2, ?_⟩)
      | (refine ⟨_, hc, ?_⟩)
      | fail)
    all_goals (conv => whnf)
    exact ⟨rfl, rfl⟩
theorem one5_any (H : AHeap) {i n c ba : Nat} {a : Option Addr} {f : Nat → Bool} (hi : i < n + 1) (h2 : Box H ba (.slice a (n + 1) c)) (hf : BRow H a (n + 1) c f) :
    Does Try.prog orc 131 [.int .i64 i, .pointer (some ⟨ba, 0, none⟩)] H fun r H' => r = .ret (.bool (!f i)) ∧ H = H' := by
  refine Does.of Try.func131 (fun _ _ => rfl) rfl ?_
  have hcap := hf.cap
  obtain ⟨b', o, s, rfl, hc⟩ := hf.at hi
  cases hfk : f i <;> rw [hfk] at hc
  all_goals
    repeat' ((conv => whnf); first
      | (refine Both.intro ?_ ?_ <;> intro _ <;> try (exfalso; omega))
      | (refine Need.intro (by omega) ?_)
      | (refine ⟨_, h2, ?_⟩)
      | (refine ⟨_, hc, ?_⟩)
      | fail)
    all_goals (conv => whnf)
    exact ⟨rfl, rfl⟩
/-- New places. -/
def PNew (n : Nat) (f : Nat → Bool) (H : AHeap) (r : CRes) (H' : AHeap) : Prop :=
  ∃ b, r = .ret (.slice (some ⟨b, 0, none⟩) (n + 1) (n + 1)) ∧ BRow H' (some ⟨b, 0, none⟩) (n + 1) (n + 1) f ∧ H.next ≤ b ∧ Ext H H' ∧ Wf H'
theorem PNew.res {n : Nat} {f : Nat → Bool} {H H' : AHeap} {r : CRes} (h : PNew n f H r H') (a : Option Addr) : PRes n a f H r H' := by
  obtain ⟨b, h1, h2, h3, h4, h5⟩ := h
  exact ⟨_, _, h1, h2, fun _ _ _ e => by cases e; exact .inl h3, h4, h5⟩
theorem PNew.of {n : Nat} {f g : Nat → Bool} {H0 H H' : AHeap} {r : CRes} (h : PNew n f H r H') (e : Ext H0 H) (hfg : ∀ i, i < n + 1 → f i = g i) : PNew n g H0 r H' := by
  obtain ⟨b, h1, h2, h3, h4, h5⟩ := h
  exact ⟨b, h1, by rw [BRow, ← bl_congr hfg]; exact h2, Nat.le_trans e.next h3, e.trans h4, h5⟩
theorem box_new (H : AHeap) (v : Value) (e : Nat) : Box (H.push (.cells [v] e true)) H.next v := by
  unfold Box cellAt; rw [get_new]; rfl
theorem box_set {H : AHeap} {b : Nat} (v : Value) (e : Nat) : Box (H.set b (.cells [v] e true)) b v := by
  unfold Box cellAt; rw [AHeap.get_set, if_pos rfl]; rfl
theorem zInt : zeroOf Try.prog 3 = some (.int .i64 0) := by kernel_rfl
theorem one_any (H : AHeap) (hw : Wf H) (ta : Option Addr) (n tc op : Nat) (a : Option Addr) (c : Nat) (f : Nat → Bool) (hf : BRow H a (n + 1) c f) (hn : n ≤ 2 ^ 30) :
    Does Try.prog orc 87 [.slice ta n tc, .int .u8 op, .slice a (n + 1) c] H (PNew n (oneF n op f) H) := by
  refine Does.of Try.func87 (fun _ _ => rfl) rfl ?_
  have e1 := Ext.push H (.cells [.slice a (n + 1) c] 0 true)
  have w1 := hw.push (.cells [.slice a (n + 1) c] 0 true)
  have b1 := box_new H (.slice a (n + 1) c) 0
  have w2 := w1.push (.cells [.int .i64 0] (typedV 3) true)
  have w3 := w2.set (get_new _ _) (.cells [.int .i64 n] (typedV 3) true)
  have e3 := (e1.trans (Ext.push _ (.cells [.int .i64 0] (typedV 3) true))).set (b := H.next + 1) (by omega) (.cells [.int .i64 n] (typedV 3) true)
  have e13 := ((Ext.refl _).trans (Ext.push (H.push (.cells [.slice a (n + 1) c] 0 true)) (.cells [.int .i64 0] (typedV 3) true))).set (b := H.next + 1) (Nat.le_refl _) (.cells [.int .i64 n] (typedV 3) true)
  have b3 := cellAt_ext w1 e13 b1
  have n3 := box_set (H := (H.push (.cells [.slice a (n + 1) c] 0 true)).push (.cells [.int .i64 0] (typedV 3) true)) (b := H.next + 1) (.int .i64 n) (typedV 3)
  have f3 := hf.ext hw e3
  repeat' ((conv => whnf); first
    | (refine Both.intro ?_ ?_ <;> intro _ <;> try (exfalso; omega))
    | (refine Need.intro (by omega) ?_)
    | (refine Gives.intro ⟨_, zInt, ?_⟩)
    | (refine Outs.intro ⟨_, _, _, store_ok (by kernel_rfl) rfl rfl (get_new _ _) Nat.zero_lt_one, ?_⟩)
    | fail)
  all_goals (conv => whnf)
  · refine Does.mono (all_any _ w3 ta n tc _ (fun i => decide (i + 1 < n) && f (i + 1)) ⟨_, _, _, rfl, fun H' e w i hi => Does.mono (one1_any H' hi (cellAt_ext w3 e n3) (cellAt_ext w3 e b3) (f3.ext w3 e) hn) ?_⟩ hn) ?_
    · rintro _ _ ⟨rfl, rfl⟩; exact ⟨rfl, Ext.refl _, w⟩
    · rintro _ H' ⟨b, rfl, h1, h2, h3, h4⟩
      repeat' ((conv => whnf); first
        | (refine Both.intro ?_ ?_ <;> intro _ <;> try (exfalso; omega))
        | (refine Need.intro (by omega) ?_)
        | fail)
      all_goals (conv => whnf)
      exact PNew.of ⟨b, rfl, h1, h2, h3, h4⟩ e3 fun i hi => by rw [oneF, if_pos (by omega)]
  · refine Does.mono (all_any _ w3 ta n tc _ (fun i => decide (n ≤ i + 1) || f (i + 1)) ⟨_, _, _, rfl, fun H' e w i hi => Does.mono (one2_any H' hi (cellAt_ext w3 e n3) (cellAt_ext w3 e b3) (f3.ext w3 e) hn) ?_⟩ hn) ?_
    · rintro _ _ ⟨rfl, rfl⟩; exact ⟨rfl, Ext.refl _, w⟩
    · rintro _ H' ⟨b, rfl, h1, h2, h3, h4⟩
      repeat' ((conv => whnf); first
        | (refine Both.intro ?_ ?_ <;> intro _ <;> try (exfalso; omega))
        | (refine Need.intro (by omega) ?_)
        | fail)
      all_goals (conv => whnf)
      exact PNew.of ⟨b, rfl, h1, h2, h3, h4⟩ e3 fun i hi => by rw [oneF, if_neg (by omega), if_pos (by omega)]
  · refine Does.mono (from_any _ w3 ta n tc false _ (fun i b => f i || b) ⟨_, _, _, rfl, fun H' e w i b hi => Does.mono (one3_any H' b (by omega) (cellAt_ext w3 e b3) (f3.ext w3 e)) ?_⟩ hn) ?_
    · rintro _ _ ⟨rfl, rfl⟩; exact ⟨rfl, Ext.refl _, w⟩
    · rintro _ H' ⟨b, rfl, h1, h2, h3, h4⟩
      repeat' ((conv => whnf); first
        | (refine Both.intro ?_ ?_ <;> intro _ <;> try (exfalso; omega))
        | (refine Need.intro (by omega) ?_)
        | fail)
      all_goals (conv => whnf)
      exact PNew.of ⟨b, rfl, h1, h2, h3, h4⟩ e3 fun i hi => by rw [oneF, if_neg (by omega), if_neg (by omega), if_pos (by omega)]
  · refine Does.mono (from_any _ w3 ta n tc true _ (fun i b => f i && b) ⟨_, _, _, rfl, fun H' e w i b hi => Does.mono (one4_any H' b (by omega) (cellAt_ext w3 e b3) (f3.ext w3 e)) ?_⟩ hn) ?_
    · rintro _ _ ⟨rfl, rfl⟩; exact ⟨rfl, Ext.refl _, w⟩
    · rintro _ H' ⟨b, rfl, h1, h2, h3, h4⟩
      repeat' ((conv => whnf); first
        | (refine Both.intro ?_ ?_ <;> intro _ <;> try (exfalso; omega))
        | (refine Need.intro (by omega) ?_)
        | fail)
      all_goals (conv => whnf)
      exact PNew.of ⟨b, rfl, h1, h2, h3, h4⟩ e3 fun i hi => by rw [oneF, if_neg (by omega), if_neg (by omega), if_neg (by omega), if_pos (by omega)]
  · refine Does.mono (all_any _ w3 ta n tc _ (fun i => !f i) ⟨_, _, _, rfl, fun H' e w i hi => Does.mono (one5_any H' hi (cellAt_ext w3 e b3) (f3.ext w3 e)) ?_⟩ hn) ?_
    · rintro _ _ ⟨rfl, rfl⟩; exact ⟨rfl, Ext.refl _, w⟩
    · rintro _ H' ⟨b, rfl, h1, h2, h3, h4⟩
      repeat' ((conv => whnf); first
        | (refine Both.intro ?_ ?_ <;> intro _ <;> try (exfalso; omega))
        | (refine Need.intro (by omega) ?_)
        | fail)
      all_goals (conv => whnf)
      exact PNew.of ⟨b, rfl, h1, h2, h3, h4⟩ e3 fun i hi => by rw [oneF, if_neg (by omega), if_neg (by omega), if_neg (by omega), if_neg (by omega)]
theorem not_any (H : AHeap) (hw : Wf H) (ta : Option Addr) (n tc : Nat) (a : Option Addr) (c : Nat) (f : Nat → Bool) (hf : BRow H a (n + 1) c f) (hn : n ≤ 2 ^ 30) :
    Does Try.prog orc 86 [.slice ta n tc, .slice a (n + 1) c] H (PNew n (fun i => !f i) H) := by
  refine Does.of Try.func86 (fun _ _ => rfl) rfl ?_
  repeat' ((conv => whnf); first
    | (refine Both.intro ?_ ?_ <;> intro _ <;> try (exfalso; omega))
    | (refine Need.intro (by omega) ?_)
    | (refine Does.mono (one_any H hw ta n tc 6 a c f hf hn) ?_ ; rintro _ H' ⟨b, rfl, h1, h2, h3, h4⟩)
    | fail)
  all_goals (conv => whnf)
  exact ⟨b, rfl, h1, h2, h3, h4⟩
theorem two1_any (H : AHeap) {i n c c' ba bb : Nat} {a a' : Option Addr} {f g : Nat → Bool} (b : Bool) (hi : i < n + 1) (h1 : Box H bb (.slice a' (n + 1) c')) (h2 : Box H ba (.slice a (n + 1) c)) (hf : BRow H a (n + 1) c f) (hg : BRow H a' (n + 1) c' g) :
    Does Try.prog orc 132 [.int .i64 i, .bool b, .pointer (some ⟨bb, 0, none⟩), .pointer (some ⟨ba, 0, none⟩)] H fun r H' => r = .ret (.bool (g i || (f i && b))) ∧ H = H' := by
  refine Does.of Try.func132 (fun _ _ => rfl) rfl ?_
  have hcap := hf.cap
  have hcap' := hg.cap
  obtain ⟨x, o, s, rfl, hc⟩ := hf.at hi
  obtain ⟨x', o', s', rfl, hc'⟩ := hg.at hi
  cases hfk : f i <;> rw [hfk] at hc <;> cases hgk : g i <;> rw [hgk] at hc' <;> cases b
  all_goals
    repeat' ((conv => whnf); first
      | (refine Both.intro ?_ ?_ <;> intro _ <;> try (exfalso; omega))
      | (refine Need.intro (by omega) ?_)
      | (refine ⟨_, h1, ?_⟩)
      | (refine ⟨_, h2, ?_⟩)
      | (refine ⟨_, hc, ?_⟩)
      | (refine ⟨_, hc', ?_⟩)
      | fail)
    all_goals (conv => whnf)
    exact ⟨rfl, rfl⟩
theorem two2_any (H : AHeap) {i n c c' ba bb : Nat} {a a' : Option Addr} {f g : Nat → Bool} (b : Bool) (hi : i < n + 1) (h1 : Box H bb (.slice a' (n + 1) c')) (h2 : Box H ba (.slice a (n + 1) c)) (hf : BRow H a (n + 1) c f) (hg : BRow H a' (n + 1) c' g) :
    Does Try.prog orc 133 [.int .i64 i, .bool b, .pointer (some ⟨bb, 0, none⟩), .pointer (some ⟨ba, 0, none⟩)] H fun r H' => r = .ret (.bool (g i && (f i || b))) ∧ H = H' := by
  refine Does.of Try.func133 (fun _ _ => rfl) rfl ?_
  have hcap := hf.cap
  have hcap' := hg.cap
  obtain ⟨x, o, s, rfl, hc⟩ := hf.at hi
  obtain ⟨x', o', s', rfl, hc'⟩ := hg.at hi
  cases hfk : f i <;> rw [hfk] at hc <;> cases hgk : g i <;> rw [hgk] at hc' <;> cases b
  all_goals
    repeat' ((conv => whnf); first
      | (refine Both.intro ?_ ?_ <;> intro _ <;> try (exfalso; omega))
      | (refine Need.intro (by omega) ?_)
      | (refine ⟨_, h1, ?_⟩)
      | (refine ⟨_, h2, ?_⟩)
      | (refine ⟨_, hc, ?_⟩)
      | (refine ⟨_, hc', ?_⟩)
      | fail)
    all_goals (conv => whnf)
    exact ⟨rfl, rfl⟩
def twoP (op : Nat) (x y : Bool) : Bool := if op = 11 then x && y else if op = 12 then x || y else if op = 13 then !x || y else x == y
theorem two3_any (H : AHeap) {i n c c' bo ba bb op : Nat} {a a' : Option Addr} {f g : Nat → Bool} (hi : i < n + 1) (h0 : Box H bo (.int .u8 op)) (h1 : Box H bb (.slice a' (n + 1) c')) (h2 : Box H ba (.slice a (n + 1) c)) (hf : BRow H a (n + 1) c f) (hg : BRow H a' (n + 1) c' g) :
    Does Try.prog orc 134 [.int .i64 i, .pointer (some ⟨bo, 0, none⟩), .pointer (some ⟨ba, 0, none⟩), .pointer (some ⟨bb, 0, none⟩)] H fun r H' => r = .ret (.bool (twoP op (f i) (g i))) ∧ H = H' := by
  refine Does.of Try.func134 (fun _ _ => rfl) rfl ?_
  have hcap := hf.cap
  have hcap' := hg.cap
  obtain ⟨x, o, s, rfl, hc⟩ := hf.at hi
  obtain ⟨x', o', s', rfl, hc'⟩ := hg.at hi
  cases hfk : f i <;> rw [hfk] at hc <;> cases hgk : g i <;> rw [hgk] at hc'
  all_goals
    repeat' ((conv => whnf); first
      | (refine Both.intro ?_ ?_ <;> intro _ <;> try (exfalso; omega))
      | (refine Need.intro (by omega) ?_)
      | (refine ⟨_, h0, ?_⟩)
      | (refine ⟨_, h1, ?_⟩)
      | (refine ⟨_, h2, ?_⟩)
      | (refine ⟨_, hc, ?_⟩)
      | (refine ⟨_, hc', ?_⟩)
      | (refine Gives.intro ⟨.bool _, rfl, ?_⟩)
      | (refine Need.intro (DrawP.intro (by kernel_rfl)) ?_)
      | fail)
    all_goals (conv => whnf)
    all_goals
      refine ⟨?_, rfl⟩
      unfold twoP
      repeat (first | rw [if_pos (by omega)] | rw [if_neg (by omega)])
      rfl
theorem two_any (H : AHeap) (hw : Wf H) (ta : Option Addr) (n tc op : Nat) (a a' : Option Addr) (c c' : Nat) (f g : Nat → Bool) (hf : BRow H a (n + 1) c f) (hg : BRow H a' (n + 1) c' g) (hn : n ≤ 2 ^ 30) :
    Does Try.prog orc 88 [.slice ta n tc, .int .u8 op, .slice a (n + 1) c, .slice a' (n + 1) c'] H (PNew n (twoF n op f g) H) := by
  refine Does.of Try.func88 (fun _ _ => rfl) rfl ?_
  have e1 := Ext.push H (.cells [.int .u8 op] 0 true)
  have w1 := hw.push (.cells [.int .u8 op] 0 true)
  have b1 := box_new H (.int .u8 op) 0
  have e2 := Ext.push (H.push (.cells [.int .u8 op] 0 true)) (.cells [.slice a (n + 1) c] 0 true)
  have w2 := w1.push (.cells [.slice a (n + 1) c] 0 true)
  have b2 := box_new (H.push (.cells [.int .u8 op] 0 true)) (.slice a (n + 1) c) 0
  have e3 := Ext.push ((H.push (.cells [.int .u8 op] 0 true)).push (.cells [.slice a (n + 1) c] 0 true)) (.cells [.slice a' (n + 1) c'] 0 true)
  have w3 := w2.push (.cells [.slice a' (n + 1) c'] 0 true)
  have b3 := box_new ((H.push (.cells [.int .u8 op] 0 true)).push (.cells [.slice a (n + 1) c] 0 true)) (.slice a' (n + 1) c') 0
  have b1 := cellAt_ext w1 (e2.trans e3) b1
  have b2 := cellAt_ext w2 e3 b2
  have eh := (e1.trans e2).trans e3
  have f3 := hf.ext hw eh
  have g3 := hg.ext hw eh
  repeat' ((conv => whnf); first
    | (refine Both.intro ?_ ?_ <;> intro _ <;> try (exfalso; omega))
    | (refine Need.intro (by omega) ?_)
    | (refine ⟨_, b1, ?_⟩)
    | fail)
  all_goals (conv => whnf)
  · refine Does.mono (from_any _ w3 ta n tc false _ (fun i b => g i || (f i && b)) ⟨_, _, _, rfl, fun H' e w i b hi => Does.mono (two1_any H' b (by omega) (cellAt_ext w3 e b3) (cellAt_ext w3 e b2) (f3.ext w3 e) (g3.ext w3 e)) ?_⟩ hn) ?_
    · rintro _ _ ⟨rfl, rfl⟩; exact ⟨rfl, Ext.refl _, w⟩
    · rintro _ H' ⟨b, rfl, h1, h2, h3, h4⟩
      repeat' ((conv => whnf); first
        | (refine Both.intro ?_ ?_ <;> intro _ <;> try (exfalso; omega))
        | (refine Need.intro (by omega) ?_)
        | fail)
      all_goals (conv => whnf)
      exact PNew.of ⟨b, rfl, h1, h2, h3, h4⟩ eh fun i hi => by rw [twoF, if_pos (by omega)]
  · refine Does.mono (from_any _ w3 ta n tc true _ (fun i b => g i && (f i || b)) ⟨_, _, _, rfl, fun H' e w i b hi => Does.mono (two2_any H' b (by omega) (cellAt_ext w3 e b3) (cellAt_ext w3 e b2) (f3.ext w3 e) (g3.ext w3 e)) ?_⟩ hn) ?_
    · rintro _ _ ⟨rfl, rfl⟩; exact ⟨rfl, Ext.refl _, w⟩
    · rintro _ H' ⟨b, rfl, h1, h2, h3, h4⟩
      repeat' ((conv => whnf); first
        | (refine Both.intro ?_ ?_ <;> intro _ <;> try (exfalso; omega))
        | (refine Need.intro (by omega) ?_)
        | fail)
      all_goals (conv => whnf)
      exact PNew.of ⟨b, rfl, h1, h2, h3, h4⟩ eh fun i hi => by rw [twoF, if_neg (by omega), if_pos (by omega)]
  · refine Does.mono (all_any _ w3 ta n tc _ (fun i => twoP op (f i) (g i)) ⟨_, _, _, rfl, fun H' e w i hi => Does.mono (two3_any H' hi (cellAt_ext w3 e b1) (cellAt_ext w3 e b3) (cellAt_ext w3 e b2) (f3.ext w3 e) (g3.ext w3 e)) ?_⟩ hn) ?_
    · rintro _ _ ⟨rfl, rfl⟩; exact ⟨rfl, Ext.refl _, w⟩
    · rintro _ H' ⟨b, rfl, h1, h2, h3, h4⟩
      repeat' ((conv => whnf); first
        | (refine Both.intro ?_ ?_ <;> intro _ <;> try (exfalso; omega))
        | (refine Need.intro (by omega) ?_)
        | fail)
      all_goals (conv => whnf)
      refine PNew.of ⟨b, rfl, h1, h2, h3, h4⟩ eh fun i hi => ?_
      rw [twoF, if_neg (by omega), if_neg (by omega)]
      unfold twoP
      split <;> (try split) <;> (try split) <;> rfl
abbrev natL (t : List Nat) : List Value := t.map fun x : Nat => .int .u8 (x : Int)
/-- A letter's bit. -/
def bitF (l p : Nat) : Bool := l / 2 ^ p % 2 == 1
def leafF (n : Nat) (t : List Nat) (op p : Nat) (i : Nat) : Bool :=
  if op = 0 then true else if op = 4 then decide (i < n) else if op = 5 then decide (i = n) else if op = 3 then decide (i + 1 = n) else
  if op = 2 then decide (i < n) && bitF ((t[i]?).getD 0) p else false
theorem leaf1_any (H : AHeap) {i n c op p bx bn bt : Nat} {a : Option Addr} {t : List Nat} (hi : i < n + 1) (h0 : cellAt H bx (0 + 0) = some (.int .u8 op)) (hp : cellAt H bx (0 + 1) = some (.int .u8 p)) (h1 : Box H bn (.int .i64 n)) (h2 : Box H bt (.slice a n c)) (ht : Row H a n c (natL t))
    (hp8 : p < 8) (h256 : ∀ x ∈ t, x < 256) (hn : n ≤ 2 ^ 30) :
    Does Try.prog orc 112 [.int .i64 i, .pointer (some ⟨bx, 0, none⟩), .pointer (some ⟨bn, 0, none⟩), .pointer (some ⟨bt, 0, none⟩)] H fun r H' => r = .ret (.bool (leafF n t op p i)) ∧ H = H' := by
  refine Does.of Try.func112 (fun _ _ => rfl) rfl ?_
  have hcap := ht.cap
  have hlen := ht.len; simp at hlen
  by_cases hlt : i < n
  · obtain ⟨x, hx⟩ : ∃ x, t[i]? = some x := ⟨_, List.getElem?_eq_getElem (by omega)⟩
    obtain ⟨b, o, s, rfl, hc⟩ := ht.cell i (.int .u8 x) (by rw [List.getElem?_map, hx]; rfl)
    have hx8 := h256 x (List.mem_of_getElem? hx)
    have hsh : aShift .shr .u8 x p = some (.int .u8 (x / 2 ^ p : Nat)) := by
      rw [shr_ok (by omega)]
      have : min (p : Int).toNat IntKind.u8.bits = p := by simp [IntKind.bits]; omega
      rw [this, Int.fdiv_eq_ediv_of_nonneg _ (Int.le_of_lt (Int.pow_pos (by decide)))]
      simp
    have hand : aInt .and .u8 (x / 2 ^ p : Nat) 1 = some (.int .u8 (x / 2 ^ p % 2 : Nat)) := by
      have hq : x / 2 ^ p < 256 := Nat.lt_of_le_of_lt (Nat.div_le_self _ _) hx8
      obtain ⟨q, hq'⟩ : ∃ q, q = x / 2 ^ p := ⟨_, rfl⟩
      rw [← hq'] at hq ⊢
      simp only [aInt]
      congr 2
      have h1 : (BitVec.ofInt IntKind.u8.bits (q : Int) &&& BitVec.ofInt IntKind.u8.bits 1).toNat = q % 2 := by
        change (BitVec.ofInt 8 (q : Int) &&& BitVec.ofInt 8 1).toNat = q % 2
        rw [show BitVec.ofInt 8 (q : Int) = BitVec.ofNat 8 q from by simp, BitVec.toNat_and, BitVec.toNat_ofNat]
        show q % 256 &&& 1 = q % 2
        rw [Nat.and_one_is_mod]
        omega
      rw [h1]
      have h2 : q % 2 < 2 := Nat.mod_lt _ (by decide)
      obtain ⟨r, hr⟩ : ∃ r, r = q % 2 := ⟨_, rfl⟩
      rw [← hr] at h2 ⊢
      match r, h2 with
      | 0, _ => rfl
      | 1, _ => rfl
    by_cases hb : x / 2 ^ p % 2 = 1
    all_goals
      repeat' ((conv => whnf); first
        | (refine Both.intro ?_ ?_ <;> intro _ <;> try (exfalso; omega))
        | (refine Need.intro (by omega) ?_)
        | (refine ⟨_, h0, ?_⟩)
        | (refine ⟨_, hp, ?_⟩)
        | (refine ⟨_, h1, ?_⟩)
        | (refine ⟨_, h2, ?_⟩)
        | (refine ⟨_, hc, ?_⟩)
        | (refine Gives.intro ⟨_, hsh, ?_⟩)
        | (refine Gives.intro ⟨_, hand, ?_⟩)
        | (refine Need.intro (DrawP.intro (by kernel_rfl)) ?_)
        | fail)
      all_goals (conv => whnf)
      all_goals
        refine ⟨?_, rfl⟩
        unfold leafF
        repeat (first | rw [if_pos (by omega)] | rw [if_neg (by omega)])
        first
        | rfl
        | (show CRes.ret (.bool _) = CRes.ret (.bool _); rw [hx, decide_eq_true hlt]; simp [bitF, hb]; done)
        | (show CRes.ret (.bool _) = CRes.ret (.bool _); rw [decide_eq_true (by omega)]; done)
        | (show CRes.ret (.bool _) = CRes.ret (.bool _); rw [decide_eq_false (by omega)]; done)
  · skip
    repeat' ((conv => whnf); first
      | (refine Both.intro ?_ ?_ <;> intro _ <;> try (exfalso; omega))
      | (refine Need.intro (by omega) ?_)
      | (refine ⟨_, h0, ?_⟩)
      | (refine ⟨_, hp, ?_⟩)
      | (refine ⟨_, h1, ?_⟩)
      | (refine ⟨_, h2, ?_⟩)
      | (refine Need.intro (DrawP.intro (by kernel_rfl)) ?_)
      | fail)
    all_goals (conv => whnf)
    all_goals
      refine ⟨?_, rfl⟩
      unfold leafF
      repeat (first | rw [if_pos (by omega)] | rw [if_neg (by omega)])
      first
      | rfl
      | (show CRes.ret (.bool _) = CRes.ret (.bool _); rw [decide_eq_true (by omega)]; done)
      | (show CRes.ret (.bool _) = CRes.ret (.bool _); rw [decide_eq_false (by omega)]; done)
      | (show CRes.ret (.bool _) = CRes.ret (.bool _); rw [decide_eq_false (by omega)]; rfl)
end Go.AX.Try
