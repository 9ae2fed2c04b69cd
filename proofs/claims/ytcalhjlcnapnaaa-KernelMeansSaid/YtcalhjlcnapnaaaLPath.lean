/- mean's leaf; the functions of paths. -/
import Derived.Test.YtcalhjlcnapnaaaLMean
namespace Go.AX.Lw
open Go Go.AX
theorem look_ext {H H' : AHeap} (e : Ext H H') {b o n : Nat} (hb : b < H.next) : cellsAt H b o n = cellsAt H' b o n := by
  unfold cellsAt; rw [e.get b hb]
end Go.AX.Lw
namespace Go.AX.Try
open Go Go.AX Go.AX.Lw Go.Proofs
set_option linter.unusedVariables false
set_option linter.unusedSimpArgs false
set_option maxRecDepth 100000
theorem leaf_any (H : AHeap) (hw : Wf H) {n c op p : Nat} {a : Option Addr} {t : List Nat} (ht : Row H a n c (natL t)) (hp8 : p < 8) (h256 : ∀ x ∈ t, x < 256) (hn : n ≤ 2 ^ 30) :
    Does Try.prog orc 84 [.slice a n c, .agg #[.int .u8 op, .int .u8 p]] H (PNew n (leafF n t op p) H) := by
  refine Does.of Try.func84 (fun _ _ => rfl) rfl ?_
  have b1 := box_new H (.slice a n c) 0
  have e2 := Ext.push (H.push (.cells [.slice a n c] 0 true)) (.cells [.int .u8 op, .int .u8 p] 0 true)
  have w1 := hw.push (.cells [.slice a n c] 0 true)
  have b2 := cellAt_ext w1 e2 b1
  obtain ⟨H4, hH4⟩ : ∃ H4, H4 = (((H.push (.cells [.slice a n c] 0 true)).push (.cells [.int .u8 op, .int .u8 p] 0 true)).push (.cells [.int .i64 0] (typedV 3) true)).set (H.next + 2) (.cells [.int .i64 n] (typedV 3) true) := ⟨_, rfl⟩
  have e4 : Ext H H4 := by rw [hH4]; exact (⟨by first | (simp; done) | (simp; omega), fun b hb => by (simp only [AHeap.get_push, AHeap.get_set, AHeap.next_push, AHeap.next_set]; repeat rw [if_neg (by omega)])⟩)
  have w4 : Wf H4 := by rw [hH4]; exact (fun b hb => by (simp only [AHeap.get_push, AHeap.get_set, AHeap.next_push, AHeap.next_set] at hb ⊢; repeat rw [if_neg (by omega)]); first | exact hw b (by omega))
  have g0 : H4.get H.next = some (.cells [.slice a n c] 0 true) := by rw [hH4]; exact (by (simp only [AHeap.get_push, AHeap.get_set, AHeap.next_push, AHeap.next_set, if_true]); repeat (first | rw [if_pos rfl] | rw [if_neg (by omega)]))
  have g1 : H4.get (H.next + 1) = some (.cells [.int .u8 op, .int .u8 p] 0 true) := by rw [hH4]; exact (by (simp only [AHeap.get_push, AHeap.get_set, AHeap.next_push, AHeap.next_set, if_true]); repeat (first | rw [if_pos rfl] | rw [if_neg (by omega)]))
  have g2 : H4.get (H.next + 2) = some (.cells [.int .i64 n] (typedV 3) true) := by rw [hH4]; exact (by (simp only [AHeap.get_push, AHeap.get_set, AHeap.next_push, AHeap.next_set, if_true]); repeat (first | rw [if_pos rfl] | rw [if_neg (by omega)]))
  have q0 := cellAt_of g0 (o := 0) rfl
  have qn := cellAt_of g2 (o := 0) rfl
  have q1 := cellAt_of g1 (o := 0) rfl
  have q2 := cellAt_of g1 (o := 1) rfl
  repeat' ((conv => whnf); first
    | (refine Both.intro ?_ ?_ <;> intro _ <;> try (exfalso; omega))
    | (refine Need.intro (by omega) ?_)
    | (refine ⟨_, b2, ?_⟩)
    | (refine Gives.intro ⟨_, zInt, ?_⟩)
    | (refine Outs.intro ⟨_, _, _, store_ok (by kernel_rfl) rfl rfl (get_new _ _) Nat.zero_lt_one, ?_⟩)
    | (refine ⟨_, (show cellAt _ _ _ = some (.slice a n c) from hH4 ▸ q0), ?_⟩)
    | fail)
  all_goals (conv => whnf)
  refine Does.mono (all_any _ (hH4 ▸ w4) a n c _ (leafF n t op p) ⟨_, _, _, rfl, fun H' e w i hi => Does.mono (leaf1_any H' hi (cellAt_ext w4 (hH4 ▸ e) q1) (cellAt_ext w4 (hH4 ▸ e) q2) (cellAt_ext w4 (hH4 ▸ e) qn) (cellAt_ext w4 (hH4 ▸ e) q0) ((ht.ext hw e4).ext w4 (hH4 ▸ e)) hp8 h256 hn) ?_⟩ hn) ?_
  · rintro _ _ ⟨rfl, rfl⟩; exact ⟨rfl, Ext.refl _, w⟩
  · rintro _ H' ⟨b, rfl, h1, h2, h3, h4⟩
    repeat' ((conv => whnf); first
      | (refine Both.intro ?_ ?_ <;> intro _ <;> try (exfalso; omega))
      | (refine Need.intro (by omega) ?_)
      | fail)
    all_goals (conv => whnf)
    exact PNew.of ⟨b, rfl, h1, h2, h3, h4⟩ (hH4 ▸ e4) fun _ _ => rfl
/-! ### the functions -/
def stepB (n : Nat) (g s : Nat → Bool) : Nat → Bool := fun i => decide (i < n) && g i && s (i + 1)
def stepO (g s : Nat → Bool) : Nat → Bool := fun i => decide (0 < i) && g (i - 1) && s (i - 1)
theorem path11_any (H : AHeap) {i n c gc bn bg bs : Nat} {a ga : Option Addr} {g s : Nat → Bool} (hi : i < n + 1) (h1 : Box H bn (.int .i64 n)) (h2 : Box H bg (.slice ga (n + 1) gc)) (h3 : Box H bs (.slice a (n + 1) c)) (hg : BRow H ga (n + 1) gc g) (hs : BRow H a (n + 1) c s) (hn : n ≤ 2 ^ 30) :
    Does Try.prog orc 114 [.int .i64 i, .pointer (some ⟨bn, 0, none⟩), .pointer (some ⟨bg, 0, none⟩), .pointer (some ⟨bs, 0, none⟩)] H fun r H' => r = .ret (.bool (stepB n g s i)) ∧ H = H' := by
  refine Does.of Try.func114 (fun _ _ => rfl) rfl ?_
  have c1 := hg.cap
  have c2 := hs.cap
  obtain ⟨b, o, st, rfl, hc⟩ := hg.at hi
  by_cases h : i < n
  · obtain ⟨b', o', st', rfl, hc'⟩ := hs.at (i := i + 1) (by omega)
    cases hgk : g i <;> rw [hgk] at hc <;> cases hsk : s (i + 1) <;> rw [hsk] at hc'
    all_goals
      repeat' ((conv => whnf); first
        | (refine Both.intro ?_ ?_ <;> intro _ <;> try (exfalso; omega))
        | (refine Need.intro (by omega) ?_)
        | (refine ⟨_, h1, ?_⟩)
        | (refine ⟨_, h2, ?_⟩)
        | (refine ⟨_, hc, ?_⟩)
        | (refine ⟨_, h3, ?_⟩)
        | (refine ⟨_, hc', ?_⟩)
        | fail)
      all_goals (conv => whnf)
      exact ⟨by simp [stepB, h, hgk, hsk]; rfl, rfl⟩
  · skip
    repeat' ((conv => whnf); first
      | (refine Both.intro ?_ ?_ <;> intro _ <;> try (exfalso; omega))
      | (refine Need.intro (by omega) ?_)
      | (refine ⟨_, h1, ?_⟩)
      | fail)
    all_goals (conv => whnf)
    exact ⟨by simp [stepB, h]; rfl, rfl⟩
theorem path21_any (H : AHeap) {i n c gc bg bs : Nat} {a ga : Option Addr} {g s : Nat → Bool} (hi : i < n + 1) (h2 : Box H bg (.slice ga (n + 1) gc)) (h3 : Box H bs (.slice a (n + 1) c)) (hg : BRow H ga (n + 1) gc g) (hs : BRow H a (n + 1) c s) (hn : n ≤ 2 ^ 30) :
    Does Try.prog orc 116 [.int .i64 i, .pointer (some ⟨bg, 0, none⟩), .pointer (some ⟨bs, 0, none⟩)] H fun r H' => r = .ret (.bool (stepO g s i)) ∧ H = H' := by
  refine Does.of Try.func116 (fun _ _ => rfl) rfl ?_
  have c1 := hg.cap
  have c2 := hs.cap
  by_cases h : 0 < i
  · obtain ⟨j, rfl⟩ : ∃ j, i = j + 1 := ⟨i - 1, by omega⟩
    obtain ⟨b, o, st, rfl, hc⟩ := hg.at (i := j) (by omega)
    obtain ⟨b', o', st', rfl, hc'⟩ := hs.at (i := j) (by omega)
    have hj : (((j + 1 : Nat) : Int) - 1) = (j : Int) := by omega
    have hc : ∀ x, x = (((j + 1 : Nat) : Int) - 1).toNat → cellAt H b (o + x) = some (.bool (g j)) := fun x hx => by rw [hx, hj]; exact hc
    have hc' : ∀ x, x = (((j + 1 : Nat) : Int) - 1).toNat → cellAt H b' (o' + x) = some (.bool (s j)) := fun x hx => by rw [hx, hj]; exact hc'
    cases hgk : g j <;> rw [hgk] at hc <;> cases hsk : s j <;> rw [hsk] at hc'
    all_goals
      repeat' ((conv => whnf); first
        | (refine Both.intro ?_ ?_ <;> intro _ <;> try (exfalso; omega))
        | (refine Need.intro (by omega) ?_)
        | (refine ⟨_, h2, ?_⟩)
        | (refine ⟨_, hc _ rfl, ?_⟩)
        | (refine ⟨_, h3, ?_⟩)
        | (refine ⟨_, hc' _ rfl, ?_⟩)
        | fail)
      all_goals (conv => whnf)
      exact ⟨by simp [stepO, hgk, hsk]; rfl, rfl⟩
  · skip
    repeat' ((conv => whnf); first
      | (refine Both.intro ?_ ?_ <;> intro _ <;> try (exfalso; omega))
      | (refine Need.intro (by omega) ?_)
      | fail)
    all_goals (conv => whnf)
    exact ⟨by simp [stepO, h]; rfl, rfl⟩
theorem path1_any (H : AHeap) (hw : Wf H) {n c gc tc bt bn bg : Nat} {a ga ta : Option Addr} {g s : Nat → Bool} (h0 : Box H bt (.slice ta n tc)) (h1 : Box H bn (.int .i64 n)) (h2 : Box H bg (.slice ga (n + 1) gc)) (hg : BRow H ga (n + 1) gc g) (hs : BRow H a (n + 1) c s) (hn : n ≤ 2 ^ 30) :
    Does Try.prog orc 113 [.slice a (n + 1) c, .pointer (some ⟨bt, 0, none⟩), .pointer (some ⟨bn, 0, none⟩), .pointer (some ⟨bg, 0, none⟩)] H (PNew n (stepB n g s) H) := by
  refine Does.of Try.func113 (fun _ _ => rfl) rfl ?_
  have e1 := Ext.push H (.cells [.slice a (n + 1) c] 0 true)
  have w1 := hw.push (.cells [.slice a (n + 1) c] 0 true)
  have b1 := box_new H (.slice a (n + 1) c) 0
  have h0 := cellAt_ext hw e1 h0
  have h1 := cellAt_ext hw e1 h1
  have h2 := cellAt_ext hw e1 h2
  have hg1 := hg.ext hw e1
  have hs1 := hs.ext hw e1
  repeat' ((conv => whnf); first
    | (refine Both.intro ?_ ?_ <;> intro _ <;> try (exfalso; omega))
    | (refine Need.intro (by omega) ?_)
    | (refine ⟨_, h0, ?_⟩)
    | (refine Does.mono (all_any _ w1 ta n tc _ (stepB n g s) ⟨_, _, _, rfl, fun H' e w i hi => Does.mono (path11_any H' hi (cellAt_ext w1 e h1) (cellAt_ext w1 e h2) (cellAt_ext w1 e b1) (hg1.ext w1 e) (hs1.ext w1 e) hn) (by rintro _ _ ⟨rfl, rfl⟩; exact ⟨rfl, Ext.refl _, w⟩)⟩ hn) ?_ ; rintro _ H' ⟨b, rfl, k1, k2, k3, k4⟩)
    | fail)
  all_goals (conv => whnf)
  exact PNew.of ⟨b, rfl, k1, k2, k3, k4⟩ e1 fun _ _ => rfl
theorem path2_any (H : AHeap) (hw : Wf H) {n c gc tc bt bg : Nat} {a ga ta : Option Addr} {g s : Nat → Bool} (h0 : Box H bt (.slice ta n tc)) (h2 : Box H bg (.slice ga (n + 1) gc)) (hg : BRow H ga (n + 1) gc g) (hs : BRow H a (n + 1) c s) (hn : n ≤ 2 ^ 30) :
    Does Try.prog orc 115 [.slice a (n + 1) c, .pointer (some ⟨bt, 0, none⟩), .pointer (some ⟨bg, 0, none⟩)] H (PNew n (stepO g s) H) := by
  refine Does.of Try.func115 (fun _ _ => rfl) rfl ?_
  have e1 := Ext.push H (.cells [.slice a (n + 1) c] 0 true)
  have w1 := hw.push (.cells [.slice a (n + 1) c] 0 true)
  have b1 := box_new H (.slice a (n + 1) c) 0
  have h0 := cellAt_ext hw e1 h0
  have h2 := cellAt_ext hw e1 h2
  have hg1 := hg.ext hw e1
  have hs1 := hs.ext hw e1
  repeat' ((conv => whnf); first
    | (refine Both.intro ?_ ?_ <;> intro _ <;> try (exfalso; omega))
    | (refine Need.intro (by omega) ?_)
    | (refine ⟨_, h0, ?_⟩)
    | (refine Does.mono (all_any _ w1 ta n tc _ (stepO g s) ⟨_, _, _, rfl, fun H' e w i hi => Does.mono (path21_any H' hi (cellAt_ext w1 e h2) (cellAt_ext w1 e b1) (hg1.ext w1 e) (hs1.ext w1 e) hn) (by rintro _ _ ⟨rfl, rfl⟩; exact ⟨rfl, Ext.refl _, w⟩)⟩ hn) ?_ ; rintro _ H' ⟨b, rfl, k1, k2, k3, k4⟩)
    | fail)
  all_goals (conv => whnf)
  exact PNew.of ⟨b, rfl, k1, k2, k3, k4⟩ e1 fun _ _ => rfl
theorem path3_any (H : AHeap) (hw : Wf H) {n c gc tc vn vc' bt ba vb vo : Nat} {vs : Option Nat} {a ga ta : Option Addr} {g s : Nat → Bool} (h0 : Box H bt (.slice ta n tc)) (h2 : Box H ba (.slice (some ⟨vb, vo, vs⟩) vn vc')) (hvn : 0 < vn ∧ vn ≤ vc') (h3 : cellAt H vb (vo + 0) = some (.slice ga (n + 1) gc)) (hg : BRow H ga (n + 1) gc g) (hs : BRow H a (n + 1) c s) (hn : n ≤ 2 ^ 30) :
    Does Try.prog orc 117 [.slice a (n + 1) c, .pointer (some ⟨bt, 0, none⟩), .pointer (some ⟨ba, 0, none⟩)] H (PNew n (twoF n 11 g s) H) := by
  refine Does.of Try.func117 (fun _ _ => rfl) rfl ?_
  repeat' ((conv => whnf); first
    | (refine Both.intro ?_ ?_ <;> intro _ <;> try (exfalso; omega))
    | (refine Need.intro (by omega) ?_)
    | (refine ⟨_, h0, ?_⟩)
    | (refine ⟨_, h2, ?_⟩)
    | (refine ⟨_, h3, ?_⟩)
    | (refine Does.mono (two_any H hw ta n tc 11 ga a gc c g s hg hs hn) ?_ ; rintro _ H' ⟨b, rfl, k1, k2, k3, k4⟩)
    | (refine Need.intro (draw_of (by simp only [effAll, lookAll, and_true]; exact ⟨look_ext k3 (cellAt_lt hw h3), look_ext k3 (cellAt_lt hw h2), look_ext k3 (cellAt_lt hw h0)⟩)) ?_)
    | fail)
  all_goals (conv => whnf)
  exact ⟨b, rfl, k1, k2, k3, k4⟩
theorem path4_any (S : Nat → Prop) (H0 H : AHeap) (hw : Wf H) {n c bp bq : Nat} {a : Option Addr} {s : Nat → Bool} {v1 v2 : Value} {f1 f2 : (Nat → Bool) → Nat → Bool} (hk : SKeep S H0 H) (h1 : cellAt H bp (0 + 1) = some v1) (h2 : cellAt H bq (0 + 1) = some v2) (k1 : FnV S n H0 v1 f1) (k2 : FnV S n H0 v2 f2) (hs : BRow H a (n + 1) c s) (hn : n ≤ 2 ^ 30) :
    Does Try.prog orc 118 [.slice a (n + 1) c, .pointer (some ⟨bp, 0, none⟩), .pointer (some ⟨bq, 0, none⟩)] H (PRes n a (orF (f1 s) (f2 s)) H) := by
  obtain ⟨g1, fi1, ca1, rfl, r1⟩ := k1.run
  obtain ⟨g2, fi2, ca2, rfl, r2⟩ := k2.run
  refine Does.of Try.func118 (fun _ _ => rfl) rfl ?_
  repeat' ((conv => whnf); first
    | (refine Both.intro ?_ ?_ <;> intro _ <;> try (exfalso; omega))
    | (refine Need.intro (by omega) ?_)
    | (refine ⟨_, h1, ?_⟩)
    | (refine Does.mono (r1 H hk hw a c s hs) ?_ ; rintro _ H1 ⟨a1, c1, rfl, b1, -, e1, w1⟩)
    | (refine ⟨_, cellAt_ext hw e1 h2, ?_⟩)
    | (refine Does.mono (r2 H1 (hk.ext k1.lt e1) w1 a c s (hs.ext hw e1)) ?_ ; rintro _ H2 ⟨a2, c2, rfl, b2, -, e2, w2⟩)
    | (refine Does.mono (either_any H2 w2 a1 a2 (n + 1) c1 c2 _ _ (b1.ext w1 e2) b2 (by omega)) ?_ ; rintro _ H3 ⟨b, rfl, b3, hb3, e3, w3⟩)
    | (refine Need.intro ?_ ?_)
    | fail)
  all_goals (conv => whnf)
  · refine draw_of ?_
    simp only [effAll, lookAll, and_true]
    have l1 := cellAt_lt hw h1
    have l2 := cellAt_lt hw h2
    have n1 := e1.next
    have n2 := e2.next
    refine ⟨⟨?_, ?_⟩, ⟨?_, ?_⟩, ?_, ?_⟩ <;> first | exact look_ext e1 (by omega) | exact look_ext e2 (by omega) | exact look_ext e3 (by omega)
  · exact PNew.res (PNew.of ⟨b, rfl, b3, hb3, e3, w3⟩ (e1.trans e2) fun _ _ => rfl) a
theorem path5_any (S : Nat → Prop) (H0 H : AHeap) (hw : Wf H) {n c bp bq : Nat} {a : Option Addr} {s : Nat → Bool} {v1 v2 : Value} {f1 f2 : (Nat → Bool) → Nat → Bool} (hk : SKeep S H0 H) (h1 : cellAt H bp (0 + 2) = some v1) (h2 : cellAt H bq (0 + 2) = some v2) (k1 : FnV S n H0 v1 f1) (k2 : FnV S n H0 v2 f2) (hs : BRow H a (n + 1) c s) (hn : n ≤ 2 ^ 30) :
    Does Try.prog orc 120 [.slice a (n + 1) c, .pointer (some ⟨bp, 0, none⟩), .pointer (some ⟨bq, 0, none⟩)] H (PRes n a (orF (f1 s) (f2 s)) H) := by
  obtain ⟨g1, fi1, ca1, rfl, r1⟩ := k1.run
  obtain ⟨g2, fi2, ca2, rfl, r2⟩ := k2.run
  refine Does.of Try.func120 (fun _ _ => rfl) rfl ?_
  repeat' ((conv => whnf); first
    | (refine Both.intro ?_ ?_ <;> intro _ <;> try (exfalso; omega))
    | (refine Need.intro (by omega) ?_)
    | (refine ⟨_, h1, ?_⟩)
    | (refine Does.mono (r1 H hk hw a c s hs) ?_ ; rintro _ H1 ⟨a1, c1, rfl, b1, -, e1, w1⟩)
    | (refine ⟨_, cellAt_ext hw e1 h2, ?_⟩)
    | (refine Does.mono (r2 H1 (hk.ext k1.lt e1) w1 a c s (hs.ext hw e1)) ?_ ; rintro _ H2 ⟨a2, c2, rfl, b2, -, e2, w2⟩)
    | (refine Does.mono (either_any H2 w2 a1 a2 (n + 1) c1 c2 _ _ (b1.ext w1 e2) b2 (by omega)) ?_ ; rintro _ H3 ⟨b, rfl, b3, hb3, e3, w3⟩)
    | (refine Need.intro ?_ ?_)
    | fail)
  all_goals (conv => whnf)
  · refine draw_of ?_
    simp only [effAll, lookAll, and_true]
    have l1 := cellAt_lt hw h1
    have l2 := cellAt_lt hw h2
    have n1 := e1.next
    have n2 := e2.next
    refine ⟨⟨?_, ?_⟩, ⟨?_, ?_⟩, ?_, ?_⟩ <;> first | exact look_ext e1 (by omega) | exact look_ext e2 (by omega) | exact look_ext e3 (by omega)
  · exact PNew.res (PNew.of ⟨b, rfl, b3, hb3, e3, w3⟩ (e1.trans e2) fun _ _ => rfl) a
theorem path6_any (S : Nat → Prop) (H0 H : AHeap) (hw : Wf H) {n c bp bq : Nat} {a : Option Addr} {s : Nat → Bool} {v1 v2 : Value} {f1 f2 : (Nat → Bool) → Nat → Bool} (hk : SKeep S H0 H) (h1 : cellAt H bp (0 + 1) = some v1) (h2 : cellAt H bq (0 + 1) = some v2) (k1 : FnV S n H0 v1 f1) (k2 : FnV S n H0 v2 f2) (hs : BRow H a (n + 1) c s) :
    Does Try.prog orc 121 [.slice a (n + 1) c, .pointer (some ⟨bp, 0, none⟩), .pointer (some ⟨bq, 0, none⟩)] H (PRes n a (f1 (f2 s)) H) := by
  obtain ⟨g1, fi1, ca1, rfl, r1⟩ := k1.run
  obtain ⟨g2, fi2, ca2, rfl, r2⟩ := k2.run
  refine Does.of Try.func121 (fun _ _ => rfl) rfl ?_
  repeat' ((conv => whnf); first
    | (refine Both.intro ?_ ?_ <;> intro _ <;> try (exfalso; omega))
    | (refine Need.intro (by omega) ?_)
    | (refine ⟨_, h1, ?_⟩)
    | (refine ⟨_, h2, ?_⟩)
    | (refine Does.mono (r2 H hk hw a c s hs) ?_ ; rintro _ H1 ⟨a1, c1, rfl, b1, o1, e1, w1⟩)
    | (refine Does.mono (r1 H1 (hk.ext k1.lt e1) w1 a1 c1 _ b1) ?_ ; rintro _ H2 ⟨a2, c2, rfl, b2, o2, e2, w2⟩)
    | (refine Need.intro ?_ ?_)
    | fail)
  all_goals (conv => whnf)
  · refine draw_of ?_
    simp only [effAll, lookAll, and_true]
    have l1 := cellAt_lt hw h1
    have l2 := cellAt_lt hw h2
    have n1 := e1.next
    have n2 := e2.next
    refine ⟨⟨?_, ?_⟩, ?_, ?_⟩ <;> first | exact look_ext e1 (by omega) | exact look_ext e2 (by omega)
  · refine ⟨a2, c2, rfl, b2, fun b o st h => ?_, e1.trans e2, w2⟩
    have n1 := e1.next
    rcases o2 b o st h with h' | ⟨o', s', h'⟩
    · exact .inl (by omega)
    · exact o1 b o' s' h'
theorem path7_any (S : Nat → Prop) (H0 H : AHeap) (hw : Wf H) {n c bp bq : Nat} {a : Option Addr} {s : Nat → Bool} {v1 v2 : Value} {f1 f2 : (Nat → Bool) → Nat → Bool} (hk : SKeep S H0 H) (h1 : cellAt H bp (0 + 2) = some v1) (h2 : cellAt H bq (0 + 2) = some v2) (k1 : FnV S n H0 v1 f1) (k2 : FnV S n H0 v2 f2) (hs : BRow H a (n + 1) c s) :
    Does Try.prog orc 122 [.slice a (n + 1) c, .pointer (some ⟨bp, 0, none⟩), .pointer (some ⟨bq, 0, none⟩)] H (PRes n a (f1 (f2 s)) H) := by
  obtain ⟨g1, fi1, ca1, rfl, r1⟩ := k1.run
  obtain ⟨g2, fi2, ca2, rfl, r2⟩ := k2.run
  refine Does.of Try.func122 (fun _ _ => rfl) rfl ?_
  repeat' ((conv => whnf); first
    | (refine Both.intro ?_ ?_ <;> intro _ <;> try (exfalso; omega))
    | (refine Need.intro (by omega) ?_)
    | (refine ⟨_, h1, ?_⟩)
    | (refine ⟨_, h2, ?_⟩)
    | (refine Does.mono (r2 H hk hw a c s hs) ?_ ; rintro _ H1 ⟨a1, c1, rfl, b1, o1, e1, w1⟩)
    | (refine Does.mono (r1 H1 (hk.ext k1.lt e1) w1 a1 c1 _ b1) ?_ ; rintro _ H2 ⟨a2, c2, rfl, b2, o2, e2, w2⟩)
    | (refine Need.intro ?_ ?_)
    | fail)
  all_goals (conv => whnf)
  · refine draw_of ?_
    simp only [effAll, lookAll, and_true]
    have l1 := cellAt_lt hw h1
    have l2 := cellAt_lt hw h2
    have n1 := e1.next
    have n2 := e2.next
    refine ⟨⟨?_, ?_⟩, ?_, ?_⟩ <;> first | exact look_ext e1 (by omega) | exact look_ext e2 (by omega)
  · refine ⟨a2, c2, rfl, b2, fun b o st h => ?_, e1.trans e2, w2⟩
    have n1 := e1.next
    rcases o2 b o st h with h' | ⟨o', s', h'⟩
    · exact .inl (by omega)
    · exact o1 b o' s' h'
theorem path8_any (S : Nat → Prop) (H0 H : AHeap) (hw : Wf H) {n c bp : Nat} {a : Option Addr} {s : Nat → Bool} {v1 : Value} {f1 : (Nat → Bool) → Nat → Bool} (hk : SKeep S H0 H) (h1 : cellAt H bp (0 + 1) = some v1) (k1 : FnV S n H0 v1 f1) (hs : BRow H a (n + 1) c s) (hn : n ≤ 2 ^ 30) :
    Does Try.prog orc 123 [.slice a (n + 1) c, .pointer (some ⟨bp, 0, none⟩)] H (PRes n a (grF (n + 1) f1 (n + 2) s) H) := by
  refine Does.of Try.func123 (fun _ _ => rfl) rfl ?_
  repeat' ((conv => whnf); first
    | (refine Both.intro ?_ ?_ <;> intro _ <;> try (exfalso; omega))
    | (refine Need.intro (by omega) ?_)
    | (refine ⟨_, h1, ?_⟩)
    | (refine Does.mono (grow_any S H0 H hw n v1 f1 k1 hk a c s hs hn) ?_ ; rintro _ H1 ⟨a1, c1, rfl, b1, o1, e1, w1⟩)
    | fail)
  all_goals (conv => whnf)
  exact ⟨a1, c1, rfl, b1, o1, e1, w1⟩
theorem path9_any (S : Nat → Prop) (H0 H : AHeap) (hw : Wf H) {n c bp : Nat} {a : Option Addr} {s : Nat → Bool} {v1 : Value} {f1 : (Nat → Bool) → Nat → Bool} (hk : SKeep S H0 H) (h1 : cellAt H bp (0 + 2) = some v1) (k1 : FnV S n H0 v1 f1) (hs : BRow H a (n + 1) c s) (hn : n ≤ 2 ^ 30) :
    Does Try.prog orc 125 [.slice a (n + 1) c, .pointer (some ⟨bp, 0, none⟩)] H (PRes n a (grF (n + 1) f1 (n + 2) s) H) := by
  refine Does.of Try.func125 (fun _ _ => rfl) rfl ?_
  repeat' ((conv => whnf); first
    | (refine Both.intro ?_ ?_ <;> intro _ <;> try (exfalso; omega))
    | (refine Need.intro (by omega) ?_)
    | (refine ⟨_, h1, ?_⟩)
    | (refine Does.mono (grow_any S H0 H hw n v1 f1 k1 hk a c s hs hn) ?_ ; rintro _ H1 ⟨a1, c1, rfl, b1, o1, e1, w1⟩)
    | fail)
  all_goals (conv => whnf)
  exact ⟨a1, c1, rfl, b1, o1, e1, w1⟩
end Go.AX.Try
/- mean's path: what the functions of a path do. -/
namespace Go.AX.Try
open Go Go.AX Go.AX.Lw Go.Proofs
set_option linter.unusedVariables false
set_option linter.unusedSimpArgs false
set_option maxRecDepth 100000
theorem Box.keep {S : Nat → Prop} {H H' : AHeap} {b o : Nat} {v : Value} (h : SKeep S H H') (hb : S b) (hv : cellAt H b o = some v) : cellAt H' b o = some v := by rw [cellAt_same (h.1 b hb)]; exact hv
theorem Row.keep {S : Nat → Prop} {H H' : AHeap} {a : Option Addr} {n c : Nat} {xs : List Value} (h : SKeep S H H') (hr : Row H a n c xs) (hs : ∀ b o s, a = some ⟨b, o, s⟩ → S b) : Row H' a n c xs := hr.same fun b o s e => h.1 b (hs b o s e)
/-- The blocks of S, and the new ones. -/
def SNew (S : Nat → Prop) (H H' : AHeap) : Nat → Prop := fun b => S b ∨ (H.next ≤ b ∧ b < H'.next)
theorem SNew.lt {S : Nat → Prop} {H H' : AHeap} (hS : ∀ b, S b → b < H.next) (e : H.next ≤ H'.next) : ∀ b, SNew S H H' b → b < H'.next := fun b h => by
  rcases h with h | h
  · exact Nat.lt_of_lt_of_le (hS b h) e
  · exact h.2
theorem SNew.old {S : Nat → Prop} {H H' H'' : AHeap} (hS : ∀ b, S b → b < H.next) (e : Ext H H') (h : SKeep (SNew S H H') H' H'') : SKeep S H H'' :=
  ⟨fun b hb => (h.1 b (.inl hb)).trans (e.get b (hS b hb)), Nat.le_trans e.next h.2⟩
theorem FnV.wide {S S' : Nat → Prop} {n : Nat} {H H' : AHeap} {v : Value} {f : (Nat → Bool) → Nat → Bool} (h : FnV S n H v f) (hk : SKeep S H H') (hs : ∀ b, S b → S' b) (hl : ∀ b, S' b → b < H'.next) : FnV S' n H' v f := by
  refine ⟨hl, ?_⟩
  obtain ⟨g, fi, ca, rfl, hr⟩ := h.run
  exact ⟨g, fi, ca, rfl, fun H'' h2 w a c s hb => hr H'' ⟨fun b hb => (h2.1 b (hs b hb)).trans (hk.1 b hb), Nat.le_trans hk.2 h2.2⟩ w a c s hb⟩
/-- What path gives. -/
def PVal (S : Nat → Prop) (n : Nat) (back on : (Nat → Bool) → Nat → Bool) (H : AHeap) (r : CRes) (H' : AHeap) : Prop :=
  ∃ vb vo, r = .ret (.agg #[.slice none 0 0, vb, vo]) ∧ FnV (SNew S H H') n H' vb back ∧ FnV (SNew S H H') n H' vo on ∧ Ext H H' ∧ Wf H'
theorem zVal : zeroOf Try.prog 71 = some (.agg #[.slice none 0 0, .nilFunc, .nilFunc]) := by kernel_rfl
theorem zPl : zeroOf Try.prog 68 = some (.slice none 0 0) := by kernel_rfl
theorem get_push2 (H : AHeap) (x y : AObj) : ((H.push x).push y).get H.next = some x := by rw [AHeap.get_push, if_neg (by simp), get_new]
theorem get_set_ne {H : AHeap} {b c : Nat} {x : AObj} (h : b ≠ c) : H.get b = (H.set c x).get b := by rw [AHeap.get_set, if_neg h]
theorem get_set_new (H : AHeap) (x y z : AObj) : (((H.push x).push y).set H.next z).get (H.push x).next = some y := by rw [AHeap.get_set, if_neg (by simp), get_new]
theorem pstep_any (S : Nat → Prop) (H : AHeap) (hw : Wf H) (hS : ∀ b, S b → b < H.next) {n tc vn vc' vb vo gc : Nat} {vs : Option Nat} {ta ga : Option Addr} {g : Nat → Bool} (hvn : 1 ≤ vn ∧ vn ≤ vc') (h3 : cellAt H vb (vo + 0) = some (.slice ga (n + 1) gc)) (hg : BRow H ga (n + 1) gc g)
    (hgS : ∀ b o s, ga = some ⟨b, o, s⟩ → S b) (hn : n ≤ 2 ^ 30) :
    Does Try.prog orc 85 [.slice ta n tc, .int .u8 19, .slice (some ⟨vb, vo, vs⟩) vn vc'] H (PVal S n (stepB n g) (stepO g) H) := by
  refine Does.of Try.func85 (fun _ _ => rfl) rfl ?_
  obtain ⟨A, h_A⟩ : ∃ X, X = (((H.push (.cells [.slice ta n tc] 0 true)).push (.cells [.slice (some ⟨vb, vo, vs⟩) vn vc'] 0 true)).push (.cells [.slice none 0 0, .nilFunc, .nilFunc] (typedV 71) true)) := ⟨_, rfl⟩
  have n_A : A.next = H.next + 3 := by rw [h_A]; rfl
  have e_A : Ext H A := by rw [h_A]; exact (⟨by first | (simp; done) | (simp; omega), fun b hb => by (simp only [AHeap.get_push, AHeap.get_set, AHeap.next_push, AHeap.next_set]; repeat rw [if_neg (by omega)])⟩)
  have w_A : Wf A := by rw [h_A]; exact (fun b hb => by (simp only [AHeap.get_push, AHeap.get_set, AHeap.next_push, AHeap.next_set] at hb ⊢; repeat rw [if_neg (by omega)]); exact hw b (by omega))
  have g_A_0 : A.get (H.next) = some (.cells [.slice ta n tc] 0 true) := by rw [h_A]; exact (by (simp only [AHeap.get_push, AHeap.get_set, AHeap.next_push, AHeap.next_set, if_true]); repeat (first | rw [if_pos rfl] | rw [if_neg (by omega)]))
  have g_A_1 : A.get (H.next + 1) = some (.cells [.slice (some ⟨vb, vo, vs⟩) vn vc'] 0 true) := by rw [h_A]; exact (by (simp only [AHeap.get_push, AHeap.get_set, AHeap.next_push, AHeap.next_set, if_true]); repeat (first | rw [if_pos rfl] | rw [if_neg (by omega)]))
  have g_A_2 : A.get (H.next + 2) = some (.cells [.slice none 0 0, .nilFunc, .nilFunc] (typedV 71) true) := by rw [h_A]; exact (by (simp only [AHeap.get_push, AHeap.get_set, AHeap.next_push, AHeap.next_set, if_true]); repeat (first | rw [if_pos rfl] | rw [if_neg (by omega)]))
  have o_A : ∀ b, b < H.next → A.get b = H.get b := e_A.get
  have x_A := h_A
  obtain ⟨B, h_B⟩ : ∃ X, X = ((A.push (.cells [.int .i64 0] (typedV 3) true)).set (A.next) (.cells [.int .i64 n] (typedV 3) true)) := ⟨_, rfl⟩
  have n_B : B.next = A.next + 1 := by rw [h_B]; rfl
  have e_B : Ext A B := by rw [h_B]; exact (⟨by first | (simp; done) | (simp; omega), fun b hb => by (simp only [AHeap.get_push, AHeap.get_set, AHeap.next_push, AHeap.next_set]; repeat rw [if_neg (by omega)])⟩)
  have r_B : Ext H B := by rw [h_B]; exact ((e_A.trans (Ext.push _ _)).set (by first | omega | (simp; omega)) _)
  have w_B : Wf B := by rw [h_B]; exact (fun b hb => by (simp only [AHeap.get_push, AHeap.get_set, AHeap.next_push, AHeap.next_set] at hb ⊢; repeat rw [if_neg (by omega)]); exact w_A b (by omega))
  have g_B_0 : B.get (A.next) = some (.cells [.int .i64 n] (typedV 3) true) := by rw [h_B]; exact (by (simp only [AHeap.get_push, AHeap.get_set, AHeap.next_push, AHeap.next_set, if_true]); repeat (first | rw [if_pos rfl] | rw [if_neg (by omega)]))
  have o_B : ∀ b, b < A.next → B.get b = A.get b := e_B.get
  have x_B := h_B
  rw [x_A] at x_B
  obtain ⟨C, h_C⟩ : ∃ X, X = ((B.push (.cells [.slice none 0 0] (typedV 68) true)).set (B.next) (.cells [.slice ga (n + 1) gc] (typedV 68) true)) := ⟨_, rfl⟩
  have n_C : C.next = B.next + 1 := by rw [h_C]; rfl
  have e_C : Ext B C := by rw [h_C]; exact (⟨by first | (simp; done) | (simp; omega), fun b hb => by (simp only [AHeap.get_push, AHeap.get_set, AHeap.next_push, AHeap.next_set]; repeat rw [if_neg (by omega)])⟩)
  have r_C : Ext H C := by rw [h_C]; exact ((r_B.trans (Ext.push _ _)).set (by first | omega | (simp; omega)) _)
  have w_C : Wf C := by rw [h_C]; exact (fun b hb => by (simp only [AHeap.get_push, AHeap.get_set, AHeap.next_push, AHeap.next_set] at hb ⊢; repeat rw [if_neg (by omega)]); exact w_B b (by omega))
  have g_C_0 : C.get (B.next) = some (.cells [.slice ga (n + 1) gc] (typedV 68) true) := by rw [h_C]; exact (by (simp only [AHeap.get_push, AHeap.get_set, AHeap.next_push, AHeap.next_set, if_true]); repeat (first | rw [if_pos rfl] | rw [if_neg (by omega)]))
  have o_C : ∀ b, b < B.next → C.get b = B.get b := e_C.get
  have x_C := h_C
  rw [x_B] at x_C
  obtain ⟨D, h_D⟩ : ∃ X, X = (C.set (H.next + 2) (.cells [.slice none 0 0, .func (.func 113) #[] #[.pointer (some ⟨H.next, 0, none⟩), .pointer (some ⟨H.next + 3, 0, none⟩), .pointer (some ⟨H.next + 4, 0, none⟩)], .func (.func 115) #[] #[.pointer (some ⟨H.next, 0, none⟩), .pointer (some ⟨H.next + 4, 0, none⟩)]] (typedV 71) true)) := ⟨_, rfl⟩
  have n_D : D.next = C.next + 0 := by rw [h_D]; rfl
  have r_D : Ext H D := by rw [h_D]; exact (r_C.set (by first | omega | (simp; omega)) _)
  have w_D : Wf D := by rw [h_D]; exact (fun b hb => by (simp only [AHeap.get_push, AHeap.get_set, AHeap.next_push, AHeap.next_set] at hb ⊢; repeat rw [if_neg (by omega)]); exact w_C b (by omega))
  have s_D_0 : D.get (H.next + 2) = some (.cells [.slice none 0 0, .func (.func 113) #[] #[.pointer (some ⟨H.next, 0, none⟩), .pointer (some ⟨H.next + 3, 0, none⟩), .pointer (some ⟨H.next + 4, 0, none⟩)], .func (.func 115) #[] #[.pointer (some ⟨H.next, 0, none⟩), .pointer (some ⟨H.next + 4, 0, none⟩)]] (typedV 71) true) := by rw [h_D]; exact (by (simp only [AHeap.get_push, AHeap.get_set, AHeap.next_push, AHeap.next_set, if_true]); repeat (first | rw [if_pos rfl] | rw [if_neg (by omega)]))
  have x_D := h_D
  rw [x_C] at x_D
  have t0 := cellAt_of g_A_0 (o := 0) rfl
  have t1 := cellAt_ext w_A e_B (cellAt_of g_A_1 (o := 0) rfl)
  have h3 := cellAt_ext hw r_B h3
  have g2 := (o_C _ (by omega)).trans ((o_B _ (by omega)).trans g_A_2)
  have d0 : Box D H.next (.slice ta n tc) := by
    rw [h_D]; unfold Box cellAt; rw [AHeap.get_set, if_neg (by omega), o_C _ (by omega), o_B _ (by omega), g_A_0]; rfl
  have d3 : Box D (H.next + 3) (.int .i64 n) := by
    rw [n_A] at g_B_0
    rw [h_D]; unfold Box cellAt; rw [AHeap.get_set, if_neg (by omega), o_C _ (by omega), g_B_0]; rfl
  have d4 : Box D (H.next + 4) (.slice ga (n + 1) gc) := by
    rw [n_B, n_A] at g_C_0
    rw [h_D]; unfold Box cellAt; rw [AHeap.get_set, if_neg (by omega), g_C_0]; rfl
  have dg := hg.ext hw r_D
  have hlt := SNew.lt hS r_D.next
  have inN : ∀ k, k < 5 → SNew S H D (H.next + k) := fun k hk => .inr ⟨by omega, by omega⟩
  have hall := cellsAt_all (n := 3) s_D_0 rfl
  have fin : PVal S n (stepB n g) (stepO g) H (.ret (.agg #[.slice none 0 0, .func (.func 113) #[] #[.pointer (some ⟨H.next, 0, none⟩), .pointer (some ⟨H.next + 3, 0, none⟩), .pointer (some ⟨H.next + 4, 0, none⟩)], .func (.func 115) #[] #[.pointer (some ⟨H.next, 0, none⟩), .pointer (some ⟨H.next + 4, 0, none⟩)]])) D :=
    ⟨_, _, rfl, ⟨hlt, _, _, _, rfl, fun H' hk w a c s hs => (path1_any H' w (Box.keep hk (inN 0 (by omega)) d0) (Box.keep hk (inN 3 (by omega)) d3) (Box.keep hk (inN 4 (by omega)) d4) (Row.keep hk dg fun b o s e => .inl (hgS b o s e)) hs hn).mono fun r H'' h => PNew.res h a⟩,
      ⟨hlt, _, _, _, rfl, fun H' hk w a c s hs => (path2_any H' w (Box.keep hk (inN 0 (by omega)) d0) (Box.keep hk (inN 4 (by omega)) d4) (Row.keep hk dg fun b o s e => .inl (hgS b o s e)) hs hn).mono fun r H'' h => PNew.res h a⟩, r_D, w_D⟩
  rw [h_D, h_C, h_B, h_A] at fin hall
  rw [h_B, h_A] at t1 h3
  rw [h_A] at t0
  rw [h_C, h_B, h_A] at g2
  repeat' ((conv => whnf); first
    | (refine Both.intro ?_ ?_ <;> intro _ <;> try (exfalso; omega))
    | (refine Need.intro (by omega) ?_)
    | (refine Gives.intro ⟨_, zVal, ?_⟩)
    | (refine ⟨_, t0, ?_⟩)
    | (refine Gives.intro ⟨_, zInt, ?_⟩)
    | (refine Outs.intro ⟨_, _, _, store_ok (by kernel_rfl) rfl rfl (get_new _ _) Nat.zero_lt_one, ?_⟩)
    | (refine ⟨_, t1, ?_⟩)
    | (refine ⟨_, h3, ?_⟩)
    | (refine Gives.intro ⟨_, zPl, ?_⟩)
    | (refine Gives.intro ⟨.agg #[.slice none 0 0, _, _], rfl, ?_⟩)
    | (refine Outs.intro ⟨_, _, _, storeAgg_ok (vs := [.slice none 0 0, _, _]) (by kernel_rfl) rfl g2 rfl, ?_⟩)
    | (refine ⟨_, hall, ?_⟩)
    | fail)
  all_goals (conv => whnf)
  exact fin
theorem ptest_any (S : Nat → Prop) (H : AHeap) (hw : Wf H) (hS : ∀ b, S b → b < H.next) {n tc vn vc' vb vo : Nat} {vs : Option Nat} {ta : Option Addr} {gc : Nat} {ga : Option Addr} {g : Nat → Bool} (hvn : 1 ≤ vn ∧ vn ≤ vc') (hvS : S vb) (h3 : cellAt H vb (vo + 0) = some (.slice ga (n + 1) gc)) (hg : BRow H ga (n + 1) gc g) (hgS : ∀ b o s, ga = some ⟨b, o, s⟩ → S b) (hn : n ≤ 2 ^ 30) :
    Does Try.prog orc 85 [.slice ta n tc, .int .u8 20, .slice (some ⟨vb, vo, vs⟩) vn vc'] H (PVal S n (fun s => twoF n 11 g s) (fun s => twoF n 11 g s) H) := by
  refine Does.of Try.func85 (fun _ _ => rfl) rfl ?_
  obtain ⟨A, h_A⟩ : ∃ X, X = (((H.push (.cells [.slice ta n tc] 0 true)).push (.cells [.slice (some ⟨vb, vo, vs⟩) vn vc'] 0 true)).push (.cells [.slice none 0 0, .nilFunc, .nilFunc] (typedV 71) true)) := ⟨_, rfl⟩
  have n_A : A.next = H.next + 3 := by rw [h_A]; rfl
  have e_A : Ext H A := by rw [h_A]; exact (⟨by first | (simp; done) | (simp; omega), fun b hb => by (simp only [AHeap.get_push, AHeap.get_set, AHeap.next_push, AHeap.next_set]; repeat rw [if_neg (by omega)])⟩)
  have w_A : Wf A := by rw [h_A]; exact (fun b hb => by (simp only [AHeap.get_push, AHeap.get_set, AHeap.next_push, AHeap.next_set] at hb ⊢; repeat rw [if_neg (by omega)]); exact hw b (by omega))
  have g_A_0 : A.get (H.next) = some (.cells [.slice ta n tc] 0 true) := by rw [h_A]; exact (by (simp only [AHeap.get_push, AHeap.get_set, AHeap.next_push, AHeap.next_set, if_true]); repeat (first | rw [if_pos rfl] | rw [if_neg (by omega)]))
  have g_A_1 : A.get (H.next + 1) = some (.cells [.slice (some ⟨vb, vo, vs⟩) vn vc'] 0 true) := by rw [h_A]; exact (by (simp only [AHeap.get_push, AHeap.get_set, AHeap.next_push, AHeap.next_set, if_true]); repeat (first | rw [if_pos rfl] | rw [if_neg (by omega)]))
  have g_A_2 : A.get (H.next + 2) = some (.cells [.slice none 0 0, .nilFunc, .nilFunc] (typedV 71) true) := by rw [h_A]; exact (by (simp only [AHeap.get_push, AHeap.get_set, AHeap.next_push, AHeap.next_set, if_true]); repeat (first | rw [if_pos rfl] | rw [if_neg (by omega)]))
  have o_A : ∀ b, b < H.next → A.get b = H.get b := e_A.get
  have x_A := h_A
  obtain ⟨B, h_B⟩ : ∃ X, X = ((A.push (.cells [.int .i64 0] (typedV 3) true)).set (A.next) (.cells [.int .i64 n] (typedV 3) true)) := ⟨_, rfl⟩
  have n_B : B.next = A.next + 1 := by rw [h_B]; rfl
  have e_B : Ext A B := by rw [h_B]; exact (⟨by first | (simp; done) | (simp; omega), fun b hb => by (simp only [AHeap.get_push, AHeap.get_set, AHeap.next_push, AHeap.next_set]; repeat rw [if_neg (by omega)])⟩)
  have r_B : Ext H B := by rw [h_B]; exact ((e_A.trans (Ext.push _ _)).set (by first | omega | (simp; omega)) _)
  have w_B : Wf B := by rw [h_B]; exact (fun b hb => by (simp only [AHeap.get_push, AHeap.get_set, AHeap.next_push, AHeap.next_set] at hb ⊢; repeat rw [if_neg (by omega)]); exact w_A b (by omega))
  have g_B_0 : B.get (A.next) = some (.cells [.int .i64 n] (typedV 3) true) := by rw [h_B]; exact (by (simp only [AHeap.get_push, AHeap.get_set, AHeap.next_push, AHeap.next_set, if_true]); repeat (first | rw [if_pos rfl] | rw [if_neg (by omega)]))
  have o_B : ∀ b, b < A.next → B.get b = A.get b := e_B.get
  have x_B := h_B
  rw [x_A] at x_B
  obtain ⟨D, h_D⟩ : ∃ X, X = (B.set (H.next + 2) (.cells [.slice none 0 0, .func (.func 117) #[] #[.pointer (some ⟨H.next, 0, none⟩), .pointer (some ⟨H.next + 1, 0, none⟩)], .func (.func 117) #[] #[.pointer (some ⟨H.next, 0, none⟩), .pointer (some ⟨H.next + 1, 0, none⟩)]] (typedV 71) true)) := ⟨_, rfl⟩
  have n_D : D.next = B.next + 0 := by rw [h_D]; rfl
  have r_D : Ext H D := by rw [h_D]; exact (r_B.set (by first | omega | (simp; omega)) _)
  have w_D : Wf D := by rw [h_D]; exact (fun b hb => by (simp only [AHeap.get_push, AHeap.get_set, AHeap.next_push, AHeap.next_set] at hb ⊢; repeat rw [if_neg (by omega)]); exact w_B b (by omega))
  have s_D_0 : D.get (H.next + 2) = some (.cells [.slice none 0 0, .func (.func 117) #[] #[.pointer (some ⟨H.next, 0, none⟩), .pointer (some ⟨H.next + 1, 0, none⟩)], .func (.func 117) #[] #[.pointer (some ⟨H.next, 0, none⟩), .pointer (some ⟨H.next + 1, 0, none⟩)]] (typedV 71) true) := by rw [h_D]; exact (by (simp only [AHeap.get_push, AHeap.get_set, AHeap.next_push, AHeap.next_set, if_true]); repeat (first | rw [if_pos rfl] | rw [if_neg (by omega)]))
  have x_D := h_D
  rw [x_B] at x_D
  have t0 := cellAt_of g_A_0 (o := 0) rfl
  have g2 := (o_B _ (by omega)).trans g_A_2
  have d0 : Box D H.next (.slice ta n tc) := by
    rw [h_D]; unfold Box cellAt; rw [AHeap.get_set, if_neg (by omega), o_B _ (by omega), g_A_0]; rfl
  have d1 : Box D (H.next + 1) (.slice (some ⟨vb, vo, vs⟩) vn vc') := by
    rw [h_D]; unfold Box cellAt; rw [AHeap.get_set, if_neg (by omega), o_B _ (by omega), g_A_1]; rfl
  have dg := hg.ext hw r_D
  have dv := cellAt_ext hw r_D h3
  have hlt := SNew.lt hS r_D.next
  have inN : ∀ k, k < 4 → SNew S H D (H.next + k) := fun k hk => .inr ⟨by omega, by omega⟩
  have hall := cellsAt_all (n := 3) s_D_0 rfl
  have hfn : FnV (SNew S H D) n D (.func (.func 117) #[] #[.pointer (some ⟨H.next, 0, none⟩), .pointer (some ⟨H.next + 1, 0, none⟩)]) fun s => twoF n 11 g s := ⟨hlt, _, _, _, rfl, fun H' hk w a c s hs => (path3_any H' w (Box.keep hk (inN 0 (by omega)) d0) (Box.keep hk (inN 1 (by omega)) d1) hvn (Box.keep hk (.inl hvS) dv) (Row.keep hk dg fun b o s e => .inl (hgS b o s e)) hs hn).mono fun r H'' h => PNew.res h a⟩
  have fin : PVal S n (fun s => twoF n 11 g s) (fun s => twoF n 11 g s) H (.ret (.agg #[.slice none 0 0, .func (.func 117) #[] #[.pointer (some ⟨H.next, 0, none⟩), .pointer (some ⟨H.next + 1, 0, none⟩)], .func (.func 117) #[] #[.pointer (some ⟨H.next, 0, none⟩), .pointer (some ⟨H.next + 1, 0, none⟩)]])) D := ⟨_, _, rfl, hfn, hfn, r_D, w_D⟩
  rw [h_D, h_B, h_A] at fin hall
  rw [h_A] at t0
  rw [h_B, h_A] at g2
  repeat' ((conv => whnf); first
    | (refine Both.intro ?_ ?_ <;> intro _ <;> try (exfalso; omega))
    | (refine Need.intro (by omega) ?_)
    | (refine Gives.intro ⟨_, zVal, ?_⟩)
    | (refine ⟨_, t0, ?_⟩)
    | (refine Gives.intro ⟨_, zInt, ?_⟩)
    | (refine Outs.intro ⟨_, _, _, store_ok (by kernel_rfl) rfl rfl (get_new _ _) Nat.zero_lt_one, ?_⟩)
    | (refine Gives.intro ⟨.agg #[.slice none 0 0, _, _], rfl, ?_⟩)
    | (refine Outs.intro ⟨_, _, _, storeAgg_ok (vs := [.slice none 0 0, _, _]) (by kernel_rfl) rfl g2 rfl, ?_⟩)
    | (refine ⟨_, hall, ?_⟩)
    | fail)
  all_goals (conv => whnf)
  exact fin
theorem pstar_any (S : Nat → Prop) (H : AHeap) (hw : Wf H) (hS : ∀ b, S b → b < H.next) {n tc vn vc' vb vo : Nat} {vs : Option Nat} {ta : Option Addr} {x1 x2 x3 : Value} {b1 o1 : (Nat → Bool) → Nat → Bool} (hvn : 1 ≤ vn ∧ vn ≤ vc') (h3 : cellsAt H vb (vo + 0 * 3) 3 = some [x1, x2, x3]) (hx : oneV x1 = true) (k1 : FnV S n H x2 b1) (k2 : FnV S n H x3 o1) (hn : n ≤ 2 ^ 30) :
    Does Try.prog orc 85 [.slice ta n tc, .int .u8 23, .slice (some ⟨vb, vo, vs⟩) vn vc'] H (PVal S n (fun s => grF (n + 1) b1 (n + 2) s) (fun s => grF (n + 1) o1 (n + 2) s) H) := by
  refine Does.of Try.func85 (fun _ _ => rfl) rfl ?_
  obtain ⟨A, h_A⟩ : ∃ X, X = (((H.push (.cells [.slice ta n tc] 0 true)).push (.cells [.slice (some ⟨vb, vo, vs⟩) vn vc'] 0 true)).push (.cells [.slice none 0 0, .nilFunc, .nilFunc] (typedV 71) true)) := ⟨_, rfl⟩
  have n_A : A.next = H.next + 3 := by rw [h_A]; rfl
  have e_A : Ext H A := by rw [h_A]; exact (⟨by first | (simp; done) | (simp; omega), fun b hb => by (simp only [AHeap.get_push, AHeap.get_set, AHeap.next_push, AHeap.next_set]; repeat rw [if_neg (by omega)])⟩)
  have w_A : Wf A := by rw [h_A]; exact (fun b hb => by (simp only [AHeap.get_push, AHeap.get_set, AHeap.next_push, AHeap.next_set] at hb ⊢; repeat rw [if_neg (by omega)]); exact hw b (by omega))
  have g_A_0 : A.get (H.next) = some (.cells [.slice ta n tc] 0 true) := by rw [h_A]; exact (by (simp only [AHeap.get_push, AHeap.get_set, AHeap.next_push, AHeap.next_set, if_true]); repeat (first | rw [if_pos rfl] | rw [if_neg (by omega)]))
  have g_A_1 : A.get (H.next + 1) = some (.cells [.slice (some ⟨vb, vo, vs⟩) vn vc'] 0 true) := by rw [h_A]; exact (by (simp only [AHeap.get_push, AHeap.get_set, AHeap.next_push, AHeap.next_set, if_true]); repeat (first | rw [if_pos rfl] | rw [if_neg (by omega)]))
  have g_A_2 : A.get (H.next + 2) = some (.cells [.slice none 0 0, .nilFunc, .nilFunc] (typedV 71) true) := by rw [h_A]; exact (by (simp only [AHeap.get_push, AHeap.get_set, AHeap.next_push, AHeap.next_set, if_true]); repeat (first | rw [if_pos rfl] | rw [if_neg (by omega)]))
  have o_A : ∀ b, b < H.next → A.get b = H.get b := e_A.get
  have x_A := h_A
  obtain ⟨B, h_B⟩ : ∃ X, X = ((A.push (.cells [.int .i64 0] (typedV 3) true)).set (A.next) (.cells [.int .i64 n] (typedV 3) true)) := ⟨_, rfl⟩
  have n_B : B.next = A.next + 1 := by rw [h_B]; rfl
  have e_B : Ext A B := by rw [h_B]; exact (⟨by first | (simp; done) | (simp; omega), fun b hb => by (simp only [AHeap.get_push, AHeap.get_set, AHeap.next_push, AHeap.next_set]; repeat rw [if_neg (by omega)])⟩)
  have r_B : Ext H B := by rw [h_B]; exact ((e_A.trans (Ext.push _ _)).set (by first | omega | (simp; omega)) _)
  have w_B : Wf B := by rw [h_B]; exact (fun b hb => by (simp only [AHeap.get_push, AHeap.get_set, AHeap.next_push, AHeap.next_set] at hb ⊢; repeat rw [if_neg (by omega)]); exact w_A b (by omega))
  have g_B_0 : B.get (A.next) = some (.cells [.int .i64 n] (typedV 3) true) := by rw [h_B]; exact (by (simp only [AHeap.get_push, AHeap.get_set, AHeap.next_push, AHeap.next_set, if_true]); repeat (first | rw [if_pos rfl] | rw [if_neg (by omega)]))
  have o_B : ∀ b, b < A.next → B.get b = A.get b := e_B.get
  have x_B := h_B
  rw [x_A] at x_B
  obtain ⟨C, h_C⟩ : ∃ X, X = ((B.push (.cells [.slice none 0 0, .nilFunc, .nilFunc] (typedV 71) true)).set (B.next) (.cells [x1, x2, x3] (typedV 71) true)) := ⟨_, rfl⟩
  have n_C : C.next = B.next + 1 := by rw [h_C]; rfl
  have e_C : Ext B C := by rw [h_C]; exact (⟨by first | (simp; done) | (simp; omega), fun b hb => by (simp only [AHeap.get_push, AHeap.get_set, AHeap.next_push, AHeap.next_set]; repeat rw [if_neg (by omega)])⟩)
  have r_C : Ext H C := by rw [h_C]; exact ((r_B.trans (Ext.push _ _)).set (by first | omega | (simp; omega)) _)
  have w_C : Wf C := by rw [h_C]; exact (fun b hb => by (simp only [AHeap.get_push, AHeap.get_set, AHeap.next_push, AHeap.next_set] at hb ⊢; repeat rw [if_neg (by omega)]); exact w_B b (by omega))
  have g_C_0 : C.get (B.next) = some (.cells [x1, x2, x3] (typedV 71) true) := by rw [h_C]; exact (by (simp only [AHeap.get_push, AHeap.get_set, AHeap.next_push, AHeap.next_set, if_true]); repeat (first | rw [if_pos rfl] | rw [if_neg (by omega)]))
  have o_C : ∀ b, b < B.next → C.get b = B.get b := e_C.get
  have x_C := h_C
  rw [x_B] at x_C
  obtain ⟨D, h_D⟩ : ∃ X, X = (C.set (H.next + 2) (.cells [.slice none 0 0, .func (.func 123) #[] #[.pointer (some ⟨H.next + 4, 0, none⟩)], .func (.func 125) #[] #[.pointer (some ⟨H.next + 4, 0, none⟩)]] (typedV 71) true)) := ⟨_, rfl⟩
  have n_D : D.next = C.next + 0 := by rw [h_D]; rfl
  have r_D : Ext H D := by rw [h_D]; exact (r_C.set (by first | omega | (simp; omega)) _)
  have w_D : Wf D := by rw [h_D]; exact (fun b hb => by (simp only [AHeap.get_push, AHeap.get_set, AHeap.next_push, AHeap.next_set] at hb ⊢; repeat rw [if_neg (by omega)]); exact w_C b (by omega))
  have s_D_0 : D.get (H.next + 2) = some (.cells [.slice none 0 0, .func (.func 123) #[] #[.pointer (some ⟨H.next + 4, 0, none⟩)], .func (.func 125) #[] #[.pointer (some ⟨H.next + 4, 0, none⟩)]] (typedV 71) true) := by rw [h_D]; exact (by (simp only [AHeap.get_push, AHeap.get_set, AHeap.next_push, AHeap.next_set, if_true]); repeat (first | rw [if_pos rfl] | rw [if_neg (by omega)]))
  have x_D := h_D
  rw [x_C] at x_D
  have t0 := cellAt_of g_A_0 (o := 0) rfl
  have t1 := cellAt_ext w_A e_B (cellAt_of g_A_1 (o := 0) rfl)
  have h3 := cellsAt_ext hw r_B h3
  have g2 := (o_C _ (by omega)).trans ((o_B _ (by omega)).trans g_A_2)
  rw [n_B, n_A] at g_C_0
  have d4 : D.get (H.next + 4) = some (.cells [x1, x2, x3] (typedV 71) true) := by rw [h_D, AHeap.get_set, if_neg (by omega), g_C_0]
  have d41 := cellAt_of d4 (o := 1) rfl
  have d42 := cellAt_of d4 (o := 2) rfl
  have hlt := SNew.lt hS r_D.next
  have inN : ∀ k, k < 5 → SNew S H D (H.next + k) := fun k hk => .inr ⟨by omega, by omega⟩
  have hall := cellsAt_all (n := 3) s_D_0 rfl
  have k1' := k1.wide (S' := SNew S H D) (H' := D) ⟨fun b hb => r_D.get b (hS b hb), r_D.next⟩ (fun b hb => .inl hb) hlt
  have k2' := k2.wide (S' := SNew S H D) (H' := D) ⟨fun b hb => r_D.get b (hS b hb), r_D.next⟩ (fun b hb => .inl hb) hlt
  obtain ⟨q2a, q2b, q2c, rfl, -⟩ := id k1.run
  obtain ⟨q3a, q3b, q3c, rfl, -⟩ := id k2.run
  have fin : PVal S n (fun s => grF (n + 1) b1 (n + 2) s) (fun s => grF (n + 1) o1 (n + 2) s) H (.ret (.agg #[.slice none 0 0, .func (.func 123) #[] #[.pointer (some ⟨H.next + 4, 0, none⟩)], .func (.func 125) #[] #[.pointer (some ⟨H.next + 4, 0, none⟩)]])) D :=
    ⟨_, _, rfl, ⟨hlt, _, _, _, rfl, fun H' hk w a c s hs => path8_any _ D H' w hk (Box.keep hk (inN 4 (by omega)) d41) k1' hs hn⟩,
      ⟨hlt, _, _, _, rfl, fun H' hk w a c s hs => path9_any _ D H' w hk (Box.keep hk (inN 4 (by omega)) d42) k2' hs hn⟩, r_D, w_D⟩
  rw [h_D, h_C, h_B, h_A] at fin hall
  rw [h_B, h_A] at t1 h3
  rw [h_A] at t0
  rw [h_C, h_B, h_A] at g2
  repeat' ((conv => whnf); first
    | (refine Both.intro ?_ ?_ <;> intro _ <;> try (exfalso; omega))
    | (refine Need.intro (by omega) ?_)
    | (refine Gives.intro ⟨_, zVal, ?_⟩)
    | (refine ⟨_, t0, ?_⟩)
    | (refine Gives.intro ⟨_, zInt, ?_⟩)
    | (refine Outs.intro ⟨_, _, _, store_ok (by kernel_rfl) rfl rfl (get_new _ _) Nat.zero_lt_one, ?_⟩)
    | (refine ⟨_, t1, ?_⟩)
    | (refine ⟨_, h3, ?_⟩)
    | (refine Outs.intro ⟨_, _, _, storeAgg_ok (vs := [x1, .func (.func q2a) q2b q2c, .func (.func q3a) q3b q3c]) (by kernel_rfl) (by simp only [allOne, List.all_cons, List.all_nil, hx]; rfl) (get_new _ _) rfl, ?_⟩)
    | (refine Gives.intro ⟨.agg #[.slice none 0 0, _, _], rfl, ?_⟩)
    | (refine Outs.intro ⟨_, _, _, storeAgg_ok (vs := [.slice none 0 0, _, _]) (by kernel_rfl) rfl g2 rfl, ?_⟩)
    | (refine ⟨_, hall, ?_⟩)
    | fail)
  all_goals (conv => whnf)
  exact fin
set_option maxHeartbeats 4000000 in
theorem pplus_any (S : Nat → Prop) (H : AHeap) (hw : Wf H) (hS : ∀ b, S b → b < H.next) {n tc vn vc' vb vo : Nat} {vs : Option Nat} {ta : Option Addr} {x1 x2 x3 y1 y2 y3 : Value} {b1 o1 b2 o2 : (Nat → Bool) → Nat → Bool} (hvn : 2 ≤ vn ∧ vn ≤ vc') (h3 : cellsAt H vb (vo + 0 * 3) 3 = some [x1, x2, x3]) (h4 : cellsAt H vb (vo + 1 * 3) 3 = some [y1, y2, y3])
    (hx : oneV x1 = true) (hy : oneV y1 = true) (k1 : FnV S n H x2 b1) (k2 : FnV S n H x3 o1) (k3 : FnV S n H y2 b2) (k4 : FnV S n H y3 o2) (hn : n ≤ 2 ^ 30) :
    Does Try.prog orc 85 [.slice ta n tc, .int .u8 21, .slice (some ⟨vb, vo, vs⟩) vn vc'] H (PVal S n (fun s => orF (b1 s) (b2 s)) (fun s => orF (o1 s) (o2 s)) H) := by
  refine Does.of Try.func85 (fun _ _ => rfl) rfl ?_
  obtain ⟨A, h_A⟩ : ∃ X, X = (((H.push (.cells [.slice ta n tc] 0 true)).push (.cells [.slice (some ⟨vb, vo, vs⟩) vn vc'] 0 true)).push (.cells [.slice none 0 0, .nilFunc, .nilFunc] (typedV 71) true)) := ⟨_, rfl⟩
  have n_A : A.next = H.next + 3 := by rw [h_A]; rfl
  have e_A : Ext H A := by rw [h_A]; exact (⟨by first | (simp; done) | (simp; omega), fun b hb => by (simp only [AHeap.get_push, AHeap.get_set, AHeap.next_push, AHeap.next_set]; repeat rw [if_neg (by omega)])⟩)
  have w_A : Wf A := by rw [h_A]; exact (fun b hb => by (simp only [AHeap.get_push, AHeap.get_set, AHeap.next_push, AHeap.next_set] at hb ⊢; repeat rw [if_neg (by omega)]); exact hw b (by omega))
  have g_A_0 : A.get (H.next) = some (.cells [.slice ta n tc] 0 true) := by rw [h_A]; exact (by (simp only [AHeap.get_push, AHeap.get_set, AHeap.next_push, AHeap.next_set, if_true]); repeat (first | rw [if_pos rfl] | rw [if_neg (by omega)]))
  have g_A_1 : A.get (H.next + 1) = some (.cells [.slice (some ⟨vb, vo, vs⟩) vn vc'] 0 true) := by rw [h_A]; exact (by (simp only [AHeap.get_push, AHeap.get_set, AHeap.next_push, AHeap.next_set, if_true]); repeat (first | rw [if_pos rfl] | rw [if_neg (by omega)]))
  have g_A_2 : A.get (H.next + 2) = some (.cells [.slice none 0 0, .nilFunc, .nilFunc] (typedV 71) true) := by rw [h_A]; exact (by (simp only [AHeap.get_push, AHeap.get_set, AHeap.next_push, AHeap.next_set, if_true]); repeat (first | rw [if_pos rfl] | rw [if_neg (by omega)]))
  have o_A : ∀ b, b < H.next → A.get b = H.get b := e_A.get
  have x_A := h_A
  obtain ⟨B, h_B⟩ : ∃ X, X = ((A.push (.cells [.int .i64 0] (typedV 3) true)).set (A.next) (.cells [.int .i64 n] (typedV 3) true)) := ⟨_, rfl⟩
  have n_B : B.next = A.next + 1 := by rw [h_B]; rfl
  have e_B : Ext A B := by rw [h_B]; exact (⟨by first | (simp; done) | (simp; omega), fun b hb => by (simp only [AHeap.get_push, AHeap.get_set, AHeap.next_push, AHeap.next_set]; repeat rw [if_neg (by omega)])⟩)
  have r_B : Ext H B := by rw [h_B]; exact ((e_A.trans (Ext.push _ _)).set (by first | omega | (simp; omega)) _)
  have w_B : Wf B := by rw [h_B]; exact (fun b hb => by (simp only [AHeap.get_push, AHeap.get_set, AHeap.next_push, AHeap.next_set] at hb ⊢; repeat rw [if_neg (by omega)]); exact w_A b (by omega))
  have g_B_0 : B.get (A.next) = some (.cells [.int .i64 n] (typedV 3) true) := by rw [h_B]; exact (by (simp only [AHeap.get_push, AHeap.get_set, AHeap.next_push, AHeap.next_set, if_true]); repeat (first | rw [if_pos rfl] | rw [if_neg (by omega)]))
  have o_B : ∀ b, b < A.next → B.get b = A.get b := e_B.get
  have x_B := h_B
  rw [x_A] at x_B
  obtain ⟨C, h_C⟩ : ∃ X, X = ((((B.push (.cells [.slice none 0 0, .nilFunc, .nilFunc] (typedV 71) true)).push (.cells [.slice none 0 0, .nilFunc, .nilFunc] (typedV 71) true)).set (B.next) (.cells [x1, x2, x3] (typedV 71) true)).set (B.next + 1) (.cells [y1, y2, y3] (typedV 71) true)) := ⟨_, rfl⟩
  have n_C : C.next = B.next + 2 := by rw [h_C]; rfl
  have e_C : Ext B C := by rw [h_C]; exact (⟨by first | (simp; done) | (simp; omega), fun b hb => by (simp only [AHeap.get_push, AHeap.get_set, AHeap.next_push, AHeap.next_set]; repeat rw [if_neg (by omega)])⟩)
  have r_C : Ext H C := by rw [h_C]; exact ((((r_B.trans (Ext.push _ _)).trans (Ext.push _ _)).set (by first | omega | (simp; omega)) _).set (by first | omega | (simp; omega)) _)
  have w_C : Wf C := by rw [h_C]; exact (fun b hb => by (simp only [AHeap.get_push, AHeap.get_set, AHeap.next_push, AHeap.next_set] at hb ⊢; repeat rw [if_neg (by omega)]); exact w_B b (by omega))
  have g_C_0 : C.get (B.next) = some (.cells [x1, x2, x3] (typedV 71) true) := by rw [h_C]; exact (by (simp only [AHeap.get_push, AHeap.get_set, AHeap.next_push, AHeap.next_set, if_true]); repeat (first | rw [if_pos rfl] | rw [if_neg (by omega)]))
  have g_C_1 : C.get (B.next + 1) = some (.cells [y1, y2, y3] (typedV 71) true) := by rw [h_C]; exact (by (simp only [AHeap.get_push, AHeap.get_set, AHeap.next_push, AHeap.next_set, if_true]); repeat (first | rw [if_pos rfl] | rw [if_neg (by omega)]))
  have o_C : ∀ b, b < B.next → C.get b = B.get b := e_C.get
  have x_C := h_C
  rw [x_B] at x_C
  obtain ⟨D, h_D⟩ : ∃ X, X = (C.set (H.next + 2) (.cells [.slice none 0 0, .func (.func 118) #[] #[.pointer (some ⟨H.next + 4, 0, none⟩), .pointer (some ⟨H.next + 5, 0, none⟩)], .func (.func 120) #[] #[.pointer (some ⟨H.next + 4, 0, none⟩), .pointer (some ⟨H.next + 5, 0, none⟩)]] (typedV 71) true)) := ⟨_, rfl⟩
  have n_D : D.next = C.next + 0 := by rw [h_D]; rfl
  have r_D : Ext H D := by rw [h_D]; exact (r_C.set (by first | omega | (simp; omega)) _)
  have w_D : Wf D := by rw [h_D]; exact (fun b hb => by (simp only [AHeap.get_push, AHeap.get_set, AHeap.next_push, AHeap.next_set] at hb ⊢; repeat rw [if_neg (by omega)]); exact w_C b (by omega))
  have s_D_0 : D.get (H.next + 2) = some (.cells [.slice none 0 0, .func (.func 118) #[] #[.pointer (some ⟨H.next + 4, 0, none⟩), .pointer (some ⟨H.next + 5, 0, none⟩)], .func (.func 120) #[] #[.pointer (some ⟨H.next + 4, 0, none⟩), .pointer (some ⟨H.next + 5, 0, none⟩)]] (typedV 71) true) := by rw [h_D]; exact (by (simp only [AHeap.get_push, AHeap.get_set, AHeap.next_push, AHeap.next_set, if_true]); repeat (first | rw [if_pos rfl] | rw [if_neg (by omega)]))
  have x_D := h_D
  rw [x_C] at x_D
  have t0 := cellAt_of g_A_0 (o := 0) rfl
  have t1 := cellAt_ext w_A e_B (cellAt_of g_A_1 (o := 0) rfl)
  have lvb : vb < H.next := by
    unfold cellsAt at h3
    cases hg : H.get vb with
    | none => rw [hg] at h3; cases h3
    | some x => exact hw.lt hg
  have h3 := cellsAt_ext hw r_B h3
  have h4 := cellsAt_ext hw r_B h4
  have g2 := (o_C _ (by omega)).trans ((o_B _ (by omega)).trans g_A_2)
  rw [n_B, n_A] at g_C_0 g_C_1
  have d4 : D.get (H.next + 4) = some (.cells [x1, x2, x3] (typedV 71) true) := by rw [h_D, AHeap.get_set, if_neg (by omega), g_C_0]
  have d5 : D.get (H.next + 5) = some (.cells [y1, y2, y3] (typedV 71) true) := by rw [h_D, AHeap.get_set, if_neg (by omega), g_C_1]
  have d41 := cellAt_of d4 (o := 1) rfl
  have d42 := cellAt_of d4 (o := 2) rfl
  have d51 := cellAt_of d5 (o := 1) rfl
  have d52 := cellAt_of d5 (o := 2) rfl
  have hlt := SNew.lt hS r_D.next
  have inN : ∀ k, k < 6 → SNew S H D (H.next + k) := fun k hk => .inr ⟨by omega, by omega⟩
  have hall := cellsAt_all (n := 3) s_D_0 rfl
  have hkp : SKeep S H D := ⟨fun b hb => r_D.get b (hS b hb), r_D.next⟩
  have k1' := k1.wide (S' := SNew S H D) hkp (fun b hb => .inl hb) hlt
  have k2' := k2.wide (S' := SNew S H D) hkp (fun b hb => .inl hb) hlt
  have k3' := k3.wide (S' := SNew S H D) hkp (fun b hb => .inl hb) hlt
  have k4' := k4.wide (S' := SNew S H D) hkp (fun b hb => .inl hb) hlt
  obtain ⟨q1a, q1b, q1c, rfl, -⟩ := id k1.run
  obtain ⟨q2a, q2b, q2c, rfl, -⟩ := id k2.run
  obtain ⟨q3a, q3b, q3c, rfl, -⟩ := id k3.run
  obtain ⟨q4a, q4b, q4c, rfl, -⟩ := id k4.run
  have fin : PVal S n (fun s => orF (b1 s) (b2 s)) (fun s => orF (o1 s) (o2 s)) H (.ret (.agg #[.slice none 0 0, .func (.func 118) #[] #[.pointer (some ⟨H.next + 4, 0, none⟩), .pointer (some ⟨H.next + 5, 0, none⟩)], .func (.func 120) #[] #[.pointer (some ⟨H.next + 4, 0, none⟩), .pointer (some ⟨H.next + 5, 0, none⟩)]])) D :=
    ⟨_, _, rfl, ⟨hlt, _, _, _, rfl, fun H' hk w a c s hs => path4_any _ D H' w hk (Box.keep hk (inN 4 (by omega)) d41) (Box.keep hk (inN 5 (by omega)) d51) k1' k3' hs hn⟩,
      ⟨hlt, _, _, _, rfl, fun H' hk w a c s hs => path5_any _ D H' w hk (Box.keep hk (inN 4 (by omega)) d42) (Box.keep hk (inN 5 (by omega)) d52) k2' k4' hs hn⟩, r_D, w_D⟩
  rw [h_D, h_C, h_B, h_A] at fin hall
  rw [h_B, h_A] at t1 h3 h4
  rw [h_A] at t0
  rw [h_C, h_B, h_A] at g2
  repeat' ((conv => whnf); first
    | (refine Both.intro ?_ ?_ <;> intro _ <;> try (exfalso; omega))
    | (refine Need.intro (by omega) ?_)
    | (refine Gives.intro ⟨_, zVal, ?_⟩)
    | (refine ⟨_, t0, ?_⟩)
    | (refine Gives.intro ⟨_, zInt, ?_⟩)
    | (refine Outs.intro ⟨_, _, _, store_ok (by kernel_rfl) rfl rfl (get_new _ _) Nat.zero_lt_one, ?_⟩)
    | (refine ⟨_, t1, ?_⟩)
    | (refine ⟨_, h3, ?_⟩)
    | (refine ⟨_, h4, ?_⟩)
    | (refine Outs.intro ⟨_, _, _, storeAgg_ok (vs := [x1, .func (.func q1a) q1b q1c, .func (.func q2a) q2b q2c]) (by kernel_rfl) (by simp only [allOne, List.all_cons, List.all_nil, hx]; rfl) (get_push2 _ _ _) rfl, ?_⟩)
    | (refine Outs.intro ⟨_, _, _, storeAgg_ok (vs := [y1, .func (.func q3a) q3b q3c, .func (.func q4a) q4b q4c]) (by kernel_rfl) (by simp only [allOne, List.all_cons, List.all_nil, hy]; rfl) (get_set_new _ _ _ _) rfl, ?_⟩)
    | (refine Gives.intro ⟨.agg #[.slice none 0 0, _, _], rfl, ?_⟩)
    | (refine Outs.intro ⟨_, _, _, storeAgg_ok (vs := [.slice none 0 0, _, _]) (by kernel_rfl) rfl g2 rfl, ?_⟩)
    | (refine ⟨_, hall, ?_⟩)
    | (refine Need.intro (draw_mix ?dr) ?_)
    | fail)
  all_goals (conv => whnf)
  case dr =>
    exact ⟨⟨.inr (.inl (by kernel_rfl)), .inr (.inr (get_set_ne (by simp))), .inr (cellsAt_set (by first | (simp; done) | (simp; omega))), .inr (cellsAt_set (by first | (simp; done) | (simp; omega))), .inr (cellsAt_set (by first | (simp; done) | (simp; omega))), .inr (cellsAt_set (by first | (simp; done) | (simp; omega))), trivial⟩, ⟨.inr (.inr (get_set_ne (by simp))), .inr (.inl (by kernel_rfl)), .inr (cellsAt_set (by first | (simp; done) | (simp; omega))), .inr (cellsAt_set (by first | (simp; done) | (simp; omega))), .inr (cellsAt_set (by first | (simp; done) | (simp; omega))), .inr (cellsAt_set (by first | (simp; done) | (simp; omega))), trivial⟩, trivial⟩
  exact fin
set_option maxHeartbeats 4000000 in
theorem pseq_any (S : Nat → Prop) (H : AHeap) (hw : Wf H) (hS : ∀ b, S b → b < H.next) {n tc vn vc' vb vo : Nat} {vs : Option Nat} {ta : Option Addr} {x1 x2 x3 y1 y2 y3 : Value} {b1 o1 b2 o2 : (Nat → Bool) → Nat → Bool} (hvn : 2 ≤ vn ∧ vn ≤ vc') (h3 : cellsAt H vb (vo + 0 * 3) 3 = some [x1, x2, x3]) (h4 : cellsAt H vb (vo + 1 * 3) 3 = some [y1, y2, y3])
    (hx : oneV x1 = true) (hy : oneV y1 = true) (k1 : FnV S n H x2 b1) (k2 : FnV S n H x3 o1) (k3 : FnV S n H y2 b2) (k4 : FnV S n H y3 o2) (hn : n ≤ 2 ^ 30) :
    Does Try.prog orc 85 [.slice ta n tc, .int .u8 22, .slice (some ⟨vb, vo, vs⟩) vn vc'] H (PVal S n (fun s => b1 (b2 s)) (fun s => o2 (o1 s)) H) := by
  refine Does.of Try.func85 (fun _ _ => rfl) rfl ?_
  obtain ⟨A, h_A⟩ : ∃ X, X = (((H.push (.cells [.slice ta n tc] 0 true)).push (.cells [.slice (some ⟨vb, vo, vs⟩) vn vc'] 0 true)).push (.cells [.slice none 0 0, .nilFunc, .nilFunc] (typedV 71) true)) := ⟨_, rfl⟩
  have n_A : A.next = H.next + 3 := by rw [h_A]; rfl
  have e_A : Ext H A := by rw [h_A]; exact (⟨by first | (simp; done) | (simp; omega), fun b hb => by (simp only [AHeap.get_push, AHeap.get_set, AHeap.next_push, AHeap.next_set]; repeat rw [if_neg (by omega)])⟩)
  have w_A : Wf A := by rw [h_A]; exact (fun b hb => by (simp only [AHeap.get_push, AHeap.get_set, AHeap.next_push, AHeap.next_set] at hb ⊢; repeat rw [if_neg (by omega)]); exact hw b (by omega))
  have g_A_0 : A.get (H.next) = some (.cells [.slice ta n tc] 0 true) := by rw [h_A]; exact (by (simp only [AHeap.get_push, AHeap.get_set, AHeap.next_push, AHeap.next_set, if_true]); repeat (first | rw [if_pos rfl] | rw [if_neg (by omega)]))
  have g_A_1 : A.get (H.next + 1) = some (.cells [.slice (some ⟨vb, vo, vs⟩) vn vc'] 0 true) := by rw [h_A]; exact (by (simp only [AHeap.get_push, AHeap.get_set, AHeap.next_push, AHeap.next_set, if_true]); repeat (first | rw [if_pos rfl] | rw [if_neg (by omega)]))
  have g_A_2 : A.get (H.next + 2) = some (.cells [.slice none 0 0, .nilFunc, .nilFunc] (typedV 71) true) := by rw [h_A]; exact (by (simp only [AHeap.get_push, AHeap.get_set, AHeap.next_push, AHeap.next_set, if_true]); repeat (first | rw [if_pos rfl] | rw [if_neg (by omega)]))
  have o_A : ∀ b, b < H.next → A.get b = H.get b := e_A.get
  have x_A := h_A
  obtain ⟨B, h_B⟩ : ∃ X, X = ((A.push (.cells [.int .i64 0] (typedV 3) true)).set (A.next) (.cells [.int .i64 n] (typedV 3) true)) := ⟨_, rfl⟩
  have n_B : B.next = A.next + 1 := by rw [h_B]; rfl
  have e_B : Ext A B := by rw [h_B]; exact (⟨by first | (simp; done) | (simp; omega), fun b hb => by (simp only [AHeap.get_push, AHeap.get_set, AHeap.next_push, AHeap.next_set]; repeat rw [if_neg (by omega)])⟩)
  have r_B : Ext H B := by rw [h_B]; exact ((e_A.trans (Ext.push _ _)).set (by first | omega | (simp; omega)) _)
  have w_B : Wf B := by rw [h_B]; exact (fun b hb => by (simp only [AHeap.get_push, AHeap.get_set, AHeap.next_push, AHeap.next_set] at hb ⊢; repeat rw [if_neg (by omega)]); exact w_A b (by omega))
  have g_B_0 : B.get (A.next) = some (.cells [.int .i64 n] (typedV 3) true) := by rw [h_B]; exact (by (simp only [AHeap.get_push, AHeap.get_set, AHeap.next_push, AHeap.next_set, if_true]); repeat (first | rw [if_pos rfl] | rw [if_neg (by omega)]))
  have o_B : ∀ b, b < A.next → B.get b = A.get b := e_B.get
  have x_B := h_B
  rw [x_A] at x_B
  obtain ⟨C, h_C⟩ : ∃ X, X = ((((B.push (.cells [.slice none 0 0, .nilFunc, .nilFunc] (typedV 71) true)).push (.cells [.slice none 0 0, .nilFunc, .nilFunc] (typedV 71) true)).set (B.next) (.cells [x1, x2, x3] (typedV 71) true)).set (B.next + 1) (.cells [y1, y2, y3] (typedV 71) true)) := ⟨_, rfl⟩
  have n_C : C.next = B.next + 2 := by rw [h_C]; rfl
  have e_C : Ext B C := by rw [h_C]; exact (⟨by first | (simp; done) | (simp; omega), fun b hb => by (simp only [AHeap.get_push, AHeap.get_set, AHeap.next_push, AHeap.next_set]; repeat rw [if_neg (by omega)])⟩)
  have r_C : Ext H C := by rw [h_C]; exact ((((r_B.trans (Ext.push _ _)).trans (Ext.push _ _)).set (by first | omega | (simp; omega)) _).set (by first | omega | (simp; omega)) _)
  have w_C : Wf C := by rw [h_C]; exact (fun b hb => by (simp only [AHeap.get_push, AHeap.get_set, AHeap.next_push, AHeap.next_set] at hb ⊢; repeat rw [if_neg (by omega)]); exact w_B b (by omega))
  have g_C_0 : C.get (B.next) = some (.cells [x1, x2, x3] (typedV 71) true) := by rw [h_C]; exact (by (simp only [AHeap.get_push, AHeap.get_set, AHeap.next_push, AHeap.next_set, if_true]); repeat (first | rw [if_pos rfl] | rw [if_neg (by omega)]))
  have g_C_1 : C.get (B.next + 1) = some (.cells [y1, y2, y3] (typedV 71) true) := by rw [h_C]; exact (by (simp only [AHeap.get_push, AHeap.get_set, AHeap.next_push, AHeap.next_set, if_true]); repeat (first | rw [if_pos rfl] | rw [if_neg (by omega)]))
  have o_C : ∀ b, b < B.next → C.get b = B.get b := e_C.get
  have x_C := h_C
  rw [x_B] at x_C
  obtain ⟨D, h_D⟩ : ∃ X, X = (C.set (H.next + 2) (.cells [.slice none 0 0, .func (.func 121) #[] #[.pointer (some ⟨H.next + 4, 0, none⟩), .pointer (some ⟨H.next + 5, 0, none⟩)], .func (.func 122) #[] #[.pointer (some ⟨H.next + 5, 0, none⟩), .pointer (some ⟨H.next + 4, 0, none⟩)]] (typedV 71) true)) := ⟨_, rfl⟩
  have n_D : D.next = C.next + 0 := by rw [h_D]; rfl
  have r_D : Ext H D := by rw [h_D]; exact (r_C.set (by first | omega | (simp; omega)) _)
  have w_D : Wf D := by rw [h_D]; exact (fun b hb => by (simp only [AHeap.get_push, AHeap.get_set, AHeap.next_push, AHeap.next_set] at hb ⊢; repeat rw [if_neg (by omega)]); exact w_C b (by omega))
  have s_D_0 : D.get (H.next + 2) = some (.cells [.slice none 0 0, .func (.func 121) #[] #[.pointer (some ⟨H.next + 4, 0, none⟩), .pointer (some ⟨H.next + 5, 0, none⟩)], .func (.func 122) #[] #[.pointer (some ⟨H.next + 5, 0, none⟩), .pointer (some ⟨H.next + 4, 0, none⟩)]] (typedV 71) true) := by rw [h_D]; exact (by (simp only [AHeap.get_push, AHeap.get_set, AHeap.next_push, AHeap.next_set, if_true]); repeat (first | rw [if_pos rfl] | rw [if_neg (by omega)]))
  have x_D := h_D
  rw [x_C] at x_D
  have t0 := cellAt_of g_A_0 (o := 0) rfl
  have t1 := cellAt_ext w_A e_B (cellAt_of g_A_1 (o := 0) rfl)
  have lvb : vb < H.next := by
    unfold cellsAt at h3
    cases hg : H.get vb with
    | none => rw [hg] at h3; cases h3
    | some x => exact hw.lt hg
  have h3 := cellsAt_ext hw r_B h3
  have h4 := cellsAt_ext hw r_B h4
  have g2 := (o_C _ (by omega)).trans ((o_B _ (by omega)).trans g_A_2)
  rw [n_B, n_A] at g_C_0 g_C_1
  have d4 : D.get (H.next + 4) = some (.cells [x1, x2, x3] (typedV 71) true) := by rw [h_D, AHeap.get_set, if_neg (by omega), g_C_0]
  have d5 : D.get (H.next + 5) = some (.cells [y1, y2, y3] (typedV 71) true) := by rw [h_D, AHeap.get_set, if_neg (by omega), g_C_1]
  have d41 := cellAt_of d4 (o := 1) rfl
  have d42 := cellAt_of d4 (o := 2) rfl
  have d51 := cellAt_of d5 (o := 1) rfl
  have d52 := cellAt_of d5 (o := 2) rfl
  have hlt := SNew.lt hS r_D.next
  have inN : ∀ k, k < 6 → SNew S H D (H.next + k) := fun k hk => .inr ⟨by omega, by omega⟩
  have hall := cellsAt_all (n := 3) s_D_0 rfl
  have hkp : SKeep S H D := ⟨fun b hb => r_D.get b (hS b hb), r_D.next⟩
  have k1' := k1.wide (S' := SNew S H D) hkp (fun b hb => .inl hb) hlt
  have k2' := k2.wide (S' := SNew S H D) hkp (fun b hb => .inl hb) hlt
  have k3' := k3.wide (S' := SNew S H D) hkp (fun b hb => .inl hb) hlt
  have k4' := k4.wide (S' := SNew S H D) hkp (fun b hb => .inl hb) hlt
  obtain ⟨q1a, q1b, q1c, rfl, -⟩ := id k1.run
  obtain ⟨q2a, q2b, q2c, rfl, -⟩ := id k2.run
  obtain ⟨q3a, q3b, q3c, rfl, -⟩ := id k3.run
  obtain ⟨q4a, q4b, q4c, rfl, -⟩ := id k4.run
  have fin : PVal S n (fun s => b1 (b2 s)) (fun s => o2 (o1 s)) H (.ret (.agg #[.slice none 0 0, .func (.func 121) #[] #[.pointer (some ⟨H.next + 4, 0, none⟩), .pointer (some ⟨H.next + 5, 0, none⟩)], .func (.func 122) #[] #[.pointer (some ⟨H.next + 5, 0, none⟩), .pointer (some ⟨H.next + 4, 0, none⟩)]])) D :=
    ⟨_, _, rfl, ⟨hlt, _, _, _, rfl, fun H' hk w a c s hs => path6_any _ D H' w hk (Box.keep hk (inN 4 (by omega)) d41) (Box.keep hk (inN 5 (by omega)) d51) k1' k3' hs⟩,
      ⟨hlt, _, _, _, rfl, fun H' hk w a c s hs => path7_any _ D H' w hk (Box.keep hk (inN 5 (by omega)) d52) (Box.keep hk (inN 4 (by omega)) d42) k4' k2' hs⟩, r_D, w_D⟩
  rw [h_D, h_C, h_B, h_A] at fin hall
  rw [h_B, h_A] at t1 h3 h4
  rw [h_A] at t0
  rw [h_C, h_B, h_A] at g2
  repeat' ((conv => whnf); first
    | (refine Both.intro ?_ ?_ <;> intro _ <;> try (exfalso; omega))
    | (refine Need.intro (by omega) ?_)
    | (refine Gives.intro ⟨_, zVal, ?_⟩)
    | (refine ⟨_, t0, ?_⟩)
    | (refine Gives.intro ⟨_, zInt, ?_⟩)
    | (refine Outs.intro ⟨_, _, _, store_ok (by kernel_rfl) rfl rfl (get_new _ _) Nat.zero_lt_one, ?_⟩)
    | (refine ⟨_, t1, ?_⟩)
    | (refine ⟨_, h3, ?_⟩)
    | (refine ⟨_, h4, ?_⟩)
    | (refine Outs.intro ⟨_, _, _, storeAgg_ok (vs := [x1, .func (.func q1a) q1b q1c, .func (.func q2a) q2b q2c]) (by kernel_rfl) (by simp only [allOne, List.all_cons, List.all_nil, hx]; rfl) (get_push2 _ _ _) rfl, ?_⟩)
    | (refine Outs.intro ⟨_, _, _, storeAgg_ok (vs := [y1, .func (.func q3a) q3b q3c, .func (.func q4a) q4b q4c]) (by kernel_rfl) (by simp only [allOne, List.all_cons, List.all_nil, hy]; rfl) (get_set_new _ _ _ _) rfl, ?_⟩)
    | (refine Gives.intro ⟨.agg #[.slice none 0 0, _, _], rfl, ?_⟩)
    | (refine Outs.intro ⟨_, _, _, storeAgg_ok (vs := [.slice none 0 0, _, _]) (by kernel_rfl) rfl g2 rfl, ?_⟩)
    | (refine ⟨_, hall, ?_⟩)
    | (refine Need.intro (draw_mix ?dr) ?_)
    | fail)
  all_goals (conv => whnf)
  case dr =>
    exact ⟨⟨.inr (.inl (by kernel_rfl)), .inr (.inr (get_set_ne (by simp))), .inr (cellsAt_set (by first | (simp; done) | (simp; omega))), .inr (cellsAt_set (by first | (simp; done) | (simp; omega))), .inr (cellsAt_set (by first | (simp; done) | (simp; omega))), .inr (cellsAt_set (by first | (simp; done) | (simp; omega))), trivial⟩, ⟨.inr (.inr (get_set_ne (by simp))), .inr (.inl (by kernel_rfl)), .inr (cellsAt_set (by first | (simp; done) | (simp; omega))), .inr (cellsAt_set (by first | (simp; done) | (simp; omega))), .inr (cellsAt_set (by first | (simp; done) | (simp; omega))), .inr (cellsAt_set (by first | (simp; done) | (simp; omega))), trivial⟩, trivial⟩
  exact fin
end Go.AX.Try
