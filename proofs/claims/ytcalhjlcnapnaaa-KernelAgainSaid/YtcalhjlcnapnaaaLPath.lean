/- mean's leaf; the functions of paths. -/
import Derived.Test.YtcalhjlcnapnaaaLMean
namespace Go.AX.Lw
open Go Go.AX
theorem look_ext {H H' : AHeap} (e : Ext H H') {b o n : Nat} (hb : b < H.next) : cellsAt H b o n = cellsAt H' b o n := by
  unfold cellsAt; rw [e.get b hb]
end Go.AX.Lw
namespace Go.AX.Try
open Go Go.AX Go.AX.Lw Go.Proofs
set_option linter.unusedVariables false
set_option linter.unusedSimpArgs false
set_option maxRecDepth 100000
theorem leaf_any (H : AHeap) (hw : Wf H) {n c op p : Nat} {a : Option Addr} {t : List Nat} (ht : Row H a n c (natL t)) (hp8 : p < 8) (h256 : ∀ x ∈ t, x < 256) (hn : n ≤ 2 ^ 30) :
    Does Try.prog orc 84 [.slice a n c, .agg #[.int .u8 op, .int .u8 p]] H (PNew n (leafF n t op p) H) := by
  refine Does.of Try.func84 (fun _ _ => rfl) rfl ?_
  have b1 := box_new H (.slice a n c) 0
  have e2 := Ext.push (H.push (.cells [.slice a n c] 0 true)) (.cells [.int .u8 op, .int .u8 p] 0 true)
  have w1 := hw.push (.cells [.slice a n c] 0 true)
  have b2 := cellAt_ext w1 e2 b1
  obtain ⟨H4, hH4⟩ : ∃ H4, H4 = (((H.push (.cells [.slice a n c] 0 true)).push (.cells [.int .u8 op, .int .u8 p] 0 true)).push (.cells [.int .i64 0] (typedV 3) true)).set (H.next + 2) (.cells [.int .i64 n] (typedV 3) true) := ⟨_, rfl⟩
  have e4 : Ext H H4 := by rw [hH4]; exact (⟨by first | (simp; done) | (simp; omega), fun b hb => by (simp only [AHeap.get_push, AHeap.get_set, AHeap.next_push, AHeap.next_set]; repeat rw [if_neg (by omega)])⟩)
  have w4 : Wf H4 := by rw [hH4]; exact (fun b hb => by (simp only [AHeap.get_push, AHeap.get_set, AHeap.next_push, AHeap.next_set] at hb ⊢; repeat rw [if_neg (by omega)]); first | exact hw b (by omega))
  have g0 : H4.get H.next = some (.cells [.slice a n c] 0 true) := by rw [hH4]; exact (by (simp only [AHeap.get_push, AHeap.get_set, AHeap.next_push, AHeap.next_set, if_true]); repeat (first | rw [if_pos rfl] | rw [if_neg (by omega)]))
  have g1 : H4.get (H.next + 1) = some (.cells [.int .u8 op, .int .u8 p] 0 true) := by rw [hH4]; exact (by (simp only [AHeap.get_push, AHeap.get_set, AHeap.next_push, AHeap.next_set, if_true]); repeat (first | rw [if_pos rfl] | rw [if_neg (by omega)]))
  have g2 : H4.get (H.next + 2) = some (.cells [.int .i64 n] (typedV 3) true) := by rw [hH4]; exact (by (simp only [AHeap.get_push, AHeap.get_set, AHeap.next_push, AHeap.next_set, if_true]); repeat (first | rw [if_pos rfl] | rw [if_neg (by omega)]))
  have q0 := cellAt_of g0 (o := 0) rfl
  have qn := cellAt_of g2 (o := 0) rfl
  have q1 := cellAt_of g1 (o := 0) rfl
  have q2 := cellAt_of g1 (o := 1) rfl
  repeat' ((conv => whnf); first
    | (refine Both.intro ?_ ?_ <;> intro _ <;> try (exfalso; omega))
    | (refine Need.intro (by omega) ?_)
    | (refine ⟨_, b2, ?_⟩)
    | (refine Gives.intro ⟨_, zInt, ?_⟩)
    | (refine Outs.intro ⟨_, _, _, store_ok (by kernel_rfl) rfl rfl (get_new _ _) Nat.zero_lt_one, ?_⟩)
    | (refine ⟨_, (show cellAt _ _ _ = some (.slice a n c) from hH4 ▸ q0), ?_⟩)
    | fail)
  all_goals (conv => whnf)
  refine Does.mono (all_any _ (hH4 ▸ w4) a n c _ (leafF n t op p) ⟨_, _, _, rfl, fun H' e w i hi => Does.mono (leaf1_any H' hi (cellAt_ext w4 (hH4 ▸ e) q1) (cellAt_ext w4 (hH4 ▸ e) q2) (cellAt_ext w4 (hH4 ▸ e) qn) (cellAt_ext w4 (hH4 ▸ e) q0) ((ht.ext hw e4).ext w4 (hH4 ▸ e)) hp8 h256 hn) ?_⟩ hn) ?_
  · rintro _ _ ⟨rfl, rfl⟩; exact ⟨rfl, Ext.refl _, w⟩
  · rintro _ H' ⟨b, rfl, h1, h2, h3, h4⟩
    repeat' ((conv => whnf); first
      | (refine Both.intro ?_ ?_ <;> intro _ <;> try (exfalso; omega))
      | (refine Need.intro (by omega) ?_)
      | fail)
    all_goals (conv => whnf)
    exact PNew.of ⟨b, rfl, h1, h2, h3, h4⟩ (hH4 ▸ e4) fun _ _ => rfl
/-! ### the functions -/
def stepB (n : Nat) (g s : Nat → Bool) : Nat → Bool := fun i => decide (i < n) && g i && s (i + 1)
def stepO (g s : Nat → Bool) : Nat → Bool := fun i => decide (0 < i) && g (i - 1) && s (i - 1)
theorem path11_any (H : AHeap) {i n c gc bn bg bs : Nat} {a ga : Option Addr} {g s : Nat → Bool} (hi : i < n + 1) (h1 : Box H bn (.int .i64 n)) (h2 : Box H bg (.slice ga (n + 1) gc)) (h3 : Box H bs (.slice a (n + 1) c)) (hg : BRow H ga (n + 1) gc g) (hs : BRow H a (n + 1) c s) (hn : n ≤ 2 ^ 30) :
    Does Try.prog orc 114 [.int .i64 i, .pointer (some ⟨bn, 0, none⟩), .pointer (some ⟨bg, 0, none⟩), .pointer (some ⟨bs, 0, none⟩)] H fun r H' => r = .ret (.bool (stepB n g s i)) ∧ H = H' := by
  refine Does.of Try.func114 (fun _ _ => rfl) rfl ?_
  have c1 := hg.cap
  have c2 := hs.cap
  obtain ⟨b, o, st, rfl, hc⟩ := hg.at hi
  by_cases h : i < n
  · obtain ⟨b', o', st', rfl, hc'⟩ := hs.at (i := i + 1) (by omega)
    cases hgk : g i <;> rw [hgk] at hc <;> cases hsk : s (i + 1) <;> rw [hsk] at hc'
    all_goals
      repeat' ((conv => whnf); first
        | (refine Both.intro ?_ ?_ <;> intro _ <;> try (exfalso; omega))
        | (refine Need.intro (by omega) ?_)
        | (refine ⟨_, h1, ?_⟩)
        | (refine ⟨_, h2, ?_⟩)
        | (refine ⟨_, hc, ?_⟩)
        | (refine ⟨_, h3, ?_⟩)
        | (refine ⟨_, hc', ?_⟩)
        | fail)
      all_goals (conv => whnf)
      exact ⟨by simp [stepB, h, hgk, hsk]; rfl, rfl⟩
  · skip
    repeat' ((conv => whnf); first
      | (refine Both.intro ?_ ?_ <;> intro _ <;> try (exfalso; omega))
      | (refine Need.intro (by omega) ?_)
      | (refine ⟨_, h1, ?_⟩)
      | fail)
    all_goals (conv => whnf)
    exact ⟨by simp [stepB, h]; rfl, rfl⟩
theorem path21_any (H : AHeap) {i n c gc bg bs : Nat} {a ga : Option Addr} {g s : Nat → Bool} (hi : i < n + 1) (h2 : Box H bg (.slice ga (n + 1) gc)) (h3 : Box H bs (.slice a (n + 1) c)) (hg : BRow H ga (n + 1) gc g) (hs : BRow H a (n + 1) c s) (hn : n ≤ 2 ^ 30) :
    Does Try.prog orc 116 [.int .i64 i, .pointer (some ⟨bg, 0, none⟩), .pointer (some ⟨bs, 0, none⟩)] H fun r H' => r = .ret (.bool (stepO g s i)) ∧ H = H' := by
  refine Does.of Try.func116 (fun _ _ => rfl) rfl ?_
  have c1 := hg.cap
  have c2 := hs.cap
  by_cases h : 0 < i
  · obtain ⟨j, rfl⟩ : ∃ j, i = j + 1 := ⟨i - 1, by omega⟩
    obtain ⟨b, o, st, rfl, hc⟩ := hg.at (i := j) (by omega)
    obtain ⟨b', o', st', rfl, hc'⟩ := hs.at (i := j) (by omega)
    have hj : (((j + 1 : Nat) : Int) - 1) = (j : Int) := by omega
    have hc : ∀ x, x = (((j + 1 : Nat) : Int) - 1).toNat → cellAt H b (o + x) = some (.bool (g j)) := fun x hx => by rw [hx, hj]; exact hc
    have hc' : ∀ x, x = (((j + 1 : Nat) : Int) - 1).toNat → cellAt H b' (o' + x) = some (.bool (s j)) := fun x hx => by rw [hx, hj]; exact hc'
    cases hgk : g j <;> rw [hgk] at hc <;> cases hsk : s j <;> rw [hsk] at hc'
    all_goals
      repeat' ((conv => whnf); first
        | (refine Both.intro ?_ ?_ <;> intro _ <;> try (exfalso; omega))
        | (refine Need.intro (by omega) ?_)
        | (refine ⟨_, h2, ?_⟩)
        | (refine ⟨_, hc _ rfl, ?_⟩)
        | (refine ⟨_, h3, ?_⟩)
        | (refine ⟨_, hc' _ rfl, ?_⟩)
        | fail)
      all_goals (conv => whnf)
      exact ⟨by simp [stepO, hgk, hsk]; rfl, rfl⟩
  · skip
    repeat' ((conv => whnf); first
      | (refine Both.intro ?_ ?_ <;> intro _ <;> try (exfalso; omega))
      | (refine Need.intro (by omega) ?_)
      | fail)
    all_goals (conv => whnf)
    exact ⟨by simp [stepO, h]; rfl, rfl⟩
theorem path1_any (H : AHeap) (hw : Wf H) {n c gc tc bt bn bg : Nat} {a ga ta : Option Addr} {g s : Nat → Bool} (h0 : Box H bt (.slice ta n tc)) (h1 : Box H bn (.int .i64 n)) (h2 : Box H bg (.slice ga (n + 1) gc)) (hg : BRow H ga (n + 1) gc g) (hs : BRow H a (n + 1) c s) (hn : n ≤ 2 ^ 30) :
    Does Try.prog orc 113 [.slice a (n + 1) c, .pointer (some ⟨bt, 0, none⟩), .pointer (some ⟨bn, 0, none⟩), .pointer (some ⟨bg, 0, none⟩)] H (PNew n (stepB n g s) H) := by
  refine Does.of Try.func113 (fun _ _ => rfl) rfl ?_
  have e1 := Ext.push H (.cells [.slice a (n + 1) c] 0 true)
  have w1 := hw.push (.cells [.slice a (n + 1) c] 0 true)
  have b1 := box_new H (.slice a (n + 1) c) 0
  have h0 := cellAt_ext hw e1 h0
  have h1 := cellAt_ext hw e1 h1
  have h2 := cellAt_ext hw e1 h2
  have hg1 := hg.ext hw e1
  have hs1 := hs.ext hw e1
  repeat' ((conv => whnf); first
    | (refine Both.intro ?_ ?_ <;> intro _ <;> try (exfalso; omega))
    | (refine Need.intro (by omega) ?_)
    | (refine ⟨_, h0, ?_⟩)
    | (refine Does.mono (all_any _ w1 ta n tc _ (stepB n g s) ⟨_, _, _, rfl, fun H' e w i hi => Does.mono (path11_any H' hi (cellAt_ext w1 e h1) (cellAt_ext w1 e h2) (cellAt_ext w1 e b1) (hg1.ext w1 e) (hs1.ext w1 e) hn) (by rintro _ _ ⟨rfl, rfl⟩; exact ⟨rfl, Ext.refl _, w⟩)⟩ hn) ?_ ; rintro _ H' ⟨b, rfl, k1, k2, k3, k4⟩)
    | fail)
  all_goals (conv => whnf)
  exact PNew.of ⟨b, rfl, k1, k2, k3, k4⟩ e1 fun _ _ => rfl
theorem path2_any (H : AHeap) (hw : Wf H) {n c gc tc bt bg : Nat} {a ga ta : Option Addr} {g s : Nat → Bool} (h0 : Box H bt (.slice ta n tc)) (h2 : Box H bg (.slice ga (n + 1) gc)) (hg : BRow H ga (n + 1) gc g) (hs : BRow H a (n + 1) c s) (hn : n ≤ 2 ^ 30) :
    Does Try.prog orc 115 [.slice a (n + 1) c, .pointer (some ⟨bt, 0, none⟩), .pointer (some ⟨bg, 0, none⟩)] H (PNew n (stepO g s) H) := by
  refine Does.of Try.func115 (fun _ _ => rfl) rfl ?_
  have e1 := Ext.push H (.cells [.slice a (n + 1) c] 0 true)
  have w1 := hw.push (.cells [.slice a (n + 1) c] 0 true)
  have b1 := box_new H (.slice a (n + 1) c) 0
  have h0 := cellAt_ext hw e1 h0
  have h2 := cellAt_ext hw e1 h2
  have hg1 := hg.ext hw e1
  have hs1 := hs.ext hw e1
  repeat' ((conv => whnf); first
    | (refine Both.intro ?_ ?_ <;> intro _ <;> try (exfalso; omega))
    | (refine Need.intro (by omega) ?_)
    | (refine ⟨_, h0, ?_⟩)
    | (refine Does.mono (all_any _ w1 ta n tc _ (stepO g s) ⟨_, _, _, rfl, fun H' e w i hi => Does.mono (path21_any H' hi (cellAt_ext w1 e h2) (cellAt_ext w1 e b1) (hg1.ext w1 e) (hs1.ext w1 e) hn) (by rintro _ _ ⟨rfl, rfl⟩; exact ⟨rfl, Ext.refl _, w⟩)⟩ hn) ?_ ; rintro _ H' ⟨b, rfl, k1, k2, k3, k4⟩)
    | fail)
  all_goals (conv => whnf)
  exact PNew.of ⟨b, rfl, k1, k2, k3, k4⟩ e1 fun _ _ => rfl
theorem path3_any (H : AHeap) (hw : Wf H) {n c gc tc vn vc' bt ba vb vo : Nat} {vs : Option Nat} {a ga ta : Option Addr} {g s : Nat → Bool} (h0 : Box H bt (.slice ta n tc)) (h2 : Box H ba (.slice (some ⟨vb, vo, vs⟩) vn vc')) (hvn : 0 < vn ∧ vn ≤ vc') (h3 : cellAt H vb (vo + 0) = some (.slice ga (n + 1) gc)) (hg : BRow H ga (n + 1) gc g) (hs : BRow H a (n + 1) c s) (hn : n ≤ 2 ^ 30) :
    Does Try.prog orc 117 [.slice a (n + 1) c, .pointer (some ⟨bt, 0, none⟩), .pointer (some ⟨ba, 0, none⟩)] H (PNew n (twoF n 11 g s) H) := by
  refine Does.of Try.func117 (fun _ _ => rfl) rfl ?_
  repeat' ((conv => whnf); first
    | (refine Both.intro ?_ ?_ <;> intro _ <;> try (exfalso; omega))
    | (refine Need.intro (by omega) ?_)
    | (refine ⟨_, h0, ?_⟩)
    | (refine ⟨_, h2, ?_⟩)
    | (refine ⟨_, h3, ?_⟩)
    | (refine Does.mono (two_any H hw ta n tc 11 ga a gc c g s hg hs hn) ?_ ; rintro _ H' ⟨b, rfl, k1, k2, k3, k4⟩)
    | (refine Need.intro (draw_of (by simp only [effAll, lookAll, and_true]; exact ⟨look_ext k3 (cellAt_lt hw h3), look_ext k3 (cellAt_lt hw h2), look_ext k3 (cellAt_lt hw h0)⟩)) ?_)
    | fail)
  all_goals (conv => whnf)
  exact ⟨b, rfl, k1, k2, k3, k4⟩
theorem path4_any (S : Nat → Prop) (H0 H : AHeap) (hw : Wf H) {n c bp bq : Nat} {a : Option Addr} {s : Nat → Bool} {v1 v2 : Value} {f1 f2 : (Nat → Bool) → Nat → Bool} (hk : SKeep S H0 H) (h1 : cellAt H bp (0 + 1) = some v1) (h2 : cellAt H bq (0 + 1) = some v2) (k1 : FnV S n H0 v1 f1) (k2 : FnV S n H0 v2 f2) (hs : BRow H a (n + 1) c s) (hn : n ≤ 2 ^ 30) :
    Does Try.prog orc 118 [.slice a (n + 1) c, .pointer (some ⟨bp, 0, none⟩), .pointer (some ⟨bq, 0, none⟩)] H (PRes n a (orF (f1 s) (f2 s)) H) := by
  obtain ⟨g1, fi1, ca1, rfl, r1⟩ := k1.run
  obtain ⟨g2, fi2, ca2, rfl, r2⟩ := k2.run
  refine Does.of Try.func118 (fun _ _ => rfl) rfl ?_
  repeat' ((conv => whnf); first
    | (refine Both.intro ?_ ?_ <;> intro _ <;> try (exfalso; omega))
    | (refine Need.intro (by omega) ?_)
    | (refine ⟨_, h1, ?_⟩)
    | (refine Does.mono (r1 H hk hw a c s hs) ?_ ; rintro _ H1 ⟨a1, c1, rfl, b1, -, e1, w1⟩)
    | (refine ⟨_, cellAt_ext hw e1 h2, ?_⟩)
    | (refine Does.mono (r2 H1 (hk.ext k1.lt e1) w1 a c s (hs.ext hw e1)) ?_ ; rintro _ H2 ⟨a2, c2, rfl, b2, -, e2, w2⟩)
    | (refine Does.mono (either_any H2 w2 a1 a2 (n + 1) c1 c2 _ _ (b1.ext w1 e2) b2 (by omega)) ?_ ; rintro _ H3 ⟨b, rfl, b3, hb3, e3, w3⟩)
    | (refine Need.intro ?_ ?_)
    | fail)
  all_goals (conv => whnf)
  · refine draw_of ?_
    simp only [effAll, lookAll, and_true]
    have l1 := cellAt_lt hw h1
    have l2 := cellAt_lt hw h2
    have n1 := e1.next
    have n2 := e2.next
    refine ⟨⟨?_, ?_⟩, ⟨?_, ?_⟩, ?_, ?_⟩ <;> first | exact look_ext e1 (by omega) | exact look_ext e2 (by omega) | exact look_ext e3 (by omega)
  · exact PNew.res (PNew.of ⟨b, rfl, b3, hb3, e3, w3⟩ (e1.trans e2) fun _ _ => rfl) a
theorem path5_any (S : Nat → Prop) (H0 H : AHeap) (hw : Wf H) {n c bp bq : Nat} {a : Option Addr} {s : Nat → Bool} {v1 v2 : Value} {f1 f2 : (Nat → Bool) → Nat → Bool} (hk : SKeep S H0 H) (h1 : cellAt H bp (0 + 2) = some v1) (h2 : cellAt H bq (0 + 2) = some v2) (k1 : FnV S n H0 v1 f1) (k2 : FnV S n H0 v2 f2) (hs : BRow H a (n + 1) c s) (hn : n ≤ 2 ^ 30) :
    Does Try.prog orc 120 [.slice a (n + 1) c, .pointer (some ⟨bp, 0, none⟩), .pointer (some ⟨bq, 0, none⟩)] H (PRes n a (orF (f1 s) (f2 s)) H) := by
  obtain ⟨g1, fi1, ca1, rfl, r1⟩ := k1.run
  obtain ⟨g2, fi2, ca2, rfl, r2⟩ := k2.run
  refine Does.of Try.func120 (fun _ _ => rfl) rfl ?_
  repeat' ((conv => whnf); first
    | (refine Both.intro ?_ ?_ <;> intro _ <;> try (exfalso; omega))
    | (refine Need.intro (by omega) ?_)
    | (refine ⟨_, h1, ?_⟩)
    | (refine Does.mono (r1 H hk hw a c s hs) ?_ ; rintro _ H1 ⟨a1, c1, rfl, b1, -, e1, w1⟩)
    | (refine ⟨_, cellAt_ext hw e1 h2, ?_⟩)
    | (refine Does.mono (r2 H1 (hk.ext k1.lt e1) w1 a c s (hs.ext hw e1)) ?_ ; rintro _ H2 ⟨a2, c2, rfl, b2, -, e2, w2⟩)
    | (refine Does.mono (either_any H2 w2 a1 a2 (n + 1) c1 c2 _ _ (b1.ext w1 e2) b2 (by omega)) ?_ ; rintro _ H3 ⟨b, rfl, b3, hb3, e3, w3⟩)
    | (refine Need.intro ?_ ?_)
    | fail)
  all_goals (conv => whnf)
  · refine draw_of ?_
    simp only [effAll, lookAll, and_true]
    have l1 := cellAt_lt hw h1
    have l2 := cellAt_lt hw h2
    have n1 := e1.next
    have n2 := e2.next
    refine ⟨⟨?_, ?_⟩, ⟨?_, ?_⟩, ?_, ?_⟩ <;> first | exact look_ext e1 (by omega) | exact look_ext e2 (by omega) | exact look_ext e3 (by omega)
  · exact PNew.res (PNew.of ⟨b, rfl, b3, hb3, e3, w3⟩ (e1.trans e2) fun _ _ => rfl) a
theorem path6_any (S : Nat → Prop) (H0 H : AHeap) (hw : Wf H) {n c bp bq : Nat} {a : Option Addr} {s : Nat → Bool} {v1 v2 : Value} {f1 f2 : (Nat → Bool) → Nat → Bool} (hk : SKeep S H0 H) (h1 : cellAt H bp (0 + 1) = some v1) (h2 : cellAt H bq (0 + 1) = some v2) (k1 : FnV S n H0 v1 f1) (k2 : FnV S n H0 v2 f2) (hs : BRow H a (n + 1) c s) :
    Does Try.prog orc 121 [.slice a (n + 1) c, .pointer (some ⟨bp, 0, none⟩), .pointer (some ⟨bq, 0, none⟩)] H (PRes n a (f1 (f2 s)) H) := by
  obtain ⟨g1, fi1, ca1, rfl, r1⟩ := k1.run
  obtain ⟨g2, fi2, ca2, rfl, r2⟩ := k2.run
  refine Does.of Try.func121 (fun _ _ => rfl) rfl ?_
  repeat' ((conv => whnf); first
    | (refine Both.intro ?_ ?_ <;> intro _ <;> try (exfalso; omega))
    | (refine Need.intro (by omega) ?_)
    | (refine ⟨_, h1, ?_⟩)
    | (refine ⟨_, h2, ?_⟩)
    | (refine Does.mono (r2 H hk hw a c s hs) ?_ ; rintro _ H1 ⟨a1, c1, rfl, b1, o1, e1, w1⟩)
    | (refine Does.mono (r1 H1 (hk.ext k1.lt e1) w1 a1 c1 _ b1) ?_ ; rintro _ H2 ⟨a2, c2, rfl, b2, o2, e2, w2⟩)
    | (refine Need.intro ?_ ?_)
    | fail)
  all_goals (conv => whnf)
  · refine draw_of ?_
    simp only [effAll, lookAll, and_true]
    have l1 := cellAt_lt hw h1
    have l2 := cellAt_lt hw h2
    have n1 := e1.next
    have n2 := e2.next
    refine ⟨⟨?_, ?_⟩, ?_, ?_⟩ <;> first | exact look_ext e1 (by omega) | exact look_ext e2 (by omega)
  · refine ⟨a2, c2, rfl, b2, fun b o st h => ?_, e1.trans e2, w2⟩
    have n1 := e1.next
    rcases o2 b o st h with h' | ⟨o', s', h'⟩
    · exact .inl (by omega)
    · exact o1 b o' s' h'
theorem path7_any (S : Nat → Prop) (H0 H : AHeap) (hw : Wf H) {n c bp bq : Nat} {a : Option Addr} {s : Nat → Bool} {v1 v2 : Value} {f1 f2 : (Nat → Bool) → Nat → Bool} (hk : SKeep S H0 H) (h1 : cellAt H bp (0 + 2) = some v1) (h2 : cellAt H bq (0 + 2) = some v2) (k1 : FnV S n H0 v1 f1) (k2 : FnV S n H0 v2 f2) (hs : BRow H a (n + 1) c s) :
    Does Try.prog orc 122 [.slice a (n + 1) c, .pointer (some ⟨bp, 0, none⟩), .pointer (some ⟨bq, 0, none⟩)] H (PRes n a (f1 (f2 s)) H) := by
  obtain ⟨g1, fi1, ca1, rfl, r1⟩ := k1.run
  obtain ⟨g2, fi2, ca2, rfl, r2⟩ := k2.run
  refine Does.of Try.func122 (fun _ _ => rfl) rfl ?_
  repeat' ((conv => whnf); first
    | (refine Both.intro ?_ ?_ <;> intro _ <;> try (exfalso; omega))
    | (refine Need.intro (by omega) ?_)
    | (refine ⟨_, h1, ?_⟩)
    | (refine ⟨_, h2, ?_⟩)
    | (refine Does.mono (r2 H hk hw a c s hs) ?_ ; rintro _ H1 ⟨a1, c1, rfl, b1, o1, e1, w1⟩)
    | (refine Does.mono (r1 H1 (hk.ext k1.lt e1) w1 a1 c1 _ b1) ?_ ; rintro _ H2 ⟨a2, c2, rfl, b2, o2, e2, w2⟩)
    | (refine Need.intro ?_ ?_)
    | fail)
  all_goals (conv => whnf)
  · refine draw_of ?_
    simp only [effAll, lookAll, and_true]
    have l1 := cellAt_lt hw h1
    have l2 := cellAt_lt hw h2
    have n1 := e1.next
    have n2 := e2.next
    refine ⟨⟨?_, ?_⟩, ?_, ?_⟩ <;> first | exact look_ext e1 (by omega) | exact look_ext e2 (by omega)
  · refine ⟨a2, c2, rfl, b2, fun b o st h => ?_, e1.trans e2, w2⟩
    have n1 := e1.next
    rcases o2 b o st h with h' | ⟨o', s', h'⟩
    · exact .inl (by omega)
    · exact o1 b o' s' h'
theorem path8_any (S : Nat → Prop) (H0 H : AHeap) (hw : Wf H) {n c bp : Nat} {a : Option Addr} {s : Nat → Bool} {v1 : Value} {f1 : (Nat → Bool) → Nat → Bool} (hk : SKeep S H0 H) (h1 : cellAt H bp (0 + 1) = some v1) (k1 : FnV S n H0 v1 f1) (hs : BRow H a (n + 1) c s) (hn : n ≤ 2 ^ 30) :
    Does Try.prog orc 123 [.slice a (n + 1) c, .pointer (some ⟨bp, 0, none⟩)] H (PRes n a (grF (n + 1) f1 (n + 2) s) H) := by
  refine Does.of Try.func123 (fun _ _ => rfl) rfl ?_
  repeat' ((conv => whnf); first
    | (refine Both.intro ?_ ?_ <;> intro _ <;> try (exfalso; omega))
    | (refine Need.intro (by omega) ?_)
    | (refine ⟨_, h1, ?_⟩)
    | (refine Does.mono (grow_any S H0 H hw n v1 f1 k1 hk a c s hs hn) ?_ ; rintro _ H1 ⟨a1, c1, rfl, b1, o1, e1, w1⟩)
    | fail)
  all_goals (conv => whnf)
  exact ⟨a1, c1, rfl, b1, o1, e1, w1⟩
theorem path9_any (S : Nat → Prop) (H0 H : AHeap) (hw : Wf H) {n c bp : Nat} {a : Option Addr} {s : Nat → Bool} {v1 : Value} {f1 : (Nat → Bool) → Nat → Bool} (hk : SKeep S H0 H) (h1 : cellAt H bp (0 + 2) = some v1) (k1 : FnV S n H0 v1 f1) (hs : BRow H a (n + 1) c s) (hn : n ≤ 2 ^ 30) :
    Does Try.prog orc 125 [.slice a (n + 1) c, .pointer (some ⟨bp, 0, none⟩)] H (PRes n a (grF (n + 1) f1 (n + 2) s) H) := by
  refine Does.of Try.func125 (fun _ _ => rfl) rfl ?_
  repeat' ((conv => whnf); first
    | (refine Both.intro ?_ ?_ <;> intro _ <;> try (exfalso; omega))
    | (refine Need.intro (by omega) ?_)
    | (refine ⟨_, h1, ?_⟩)
    | (refine Does.mono (grow_any S H0 H hw n v1 f1 k1 hk a c s hs hn) ?_ ; rintro _ H1 ⟨a1, c1, rfl, b1, o1, e1, w1⟩)
    | fail)
  all_goals (conv => whnf)
  exact ⟨a1, c1, rfl, b1, o1, e1, w1⟩
end Go.AX.Try
