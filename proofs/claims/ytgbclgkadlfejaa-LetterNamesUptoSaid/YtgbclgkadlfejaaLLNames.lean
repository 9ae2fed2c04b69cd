/- LetterNames answers true, over any memory. -/
import Derived.Test.YtgbclgkadlfejaaLCheck
import Derived.Test.YtgbclgkadlfejaaLApart
namespace Go.AX.Try
open Go Go.AX Go.AX.Lw Go.Proofs
set_option linter.unusedVariables false
set_option maxRecDepth 100000

/-- What All tells, as a list. -/
def allX (n : Int) : List Int := if 0 ≤ n ∧ n ≤ 8 then allL (2 ^ n.toNat) else []
theorem allX_len (n : Int) : (allX n).length ≤ 256 := by
  unfold allX
  split
  · rename_i h; rw [allL_len]; exact (two_pow_le (by omega)).1
  · simp
theorem allX_range (n : Int) : ∀ x ∈ allX n, 0 ≤ x ∧ x < 256 := by
  intro x hx
  unfold allX at hx
  split at hx
  · rename_i h
    simp only [allL, List.mem_map, List.mem_range] at hx
    obtain ⟨i, hi, rfl⟩ := hx
    have := (two_pow_le (n := n.toNat) (by omega)).1
    omega
  · cases hx
structure AllIs (n : Int) (H H' : AHeap) (v : Value) (o : Option Nat) : Prop where
  val : v = lv (o, allX n)
  nil : o = none → allX n = []
  get : ∀ A, o = some A → H.next ≤ A ∧ H'.get A = some (.cells (lets (allX n)) 0 true)
  ext : Ext H H'
theorem Alls.is {n : Int} {H H' : AHeap} {v : Value} (h : Alls n H H' v) : ∃ o, AllIs n H H' v o := by
  cases h with
  | none h hh =>
    have : allX n = [] := by unfold allX; rw [if_neg h]
    exact ⟨Option.none, by rw [this]; rfl, fun _ => this, (fun A hA => by cases hA), by subst hh; exact Ext.refl _⟩
  | some m h hm b hb he hg =>
    subst h
    have : allX m = allL (2 ^ m) := by unfold allX; rw [if_pos (by omega), Int.toNat_natCast]
    exact ⟨Option.some b, by rw [this]; unfold lv; simp [allL_len], (fun h => by cases h), fun A hA => by cases hA; exact ⟨hb, by rw [this]; exact hg⟩, he⟩
theorem AllIs.row {n : Int} {H H' : AHeap} {v : Value} {o : Option Nat} (h : AllIs n H H' v o) : Row H' (o.map fun A => ⟨A, 0, none⟩) (allX n).length (allX n).length (lets (allX n)) := by
  cases o with
  | none => rw [h.nil rfl]; exact ⟨rfl, Nat.le_refl _, fun i x hx => by simp at hx⟩
  | some A => exact Row.of_block (h.get A rfl).2 (by simp) (Nat.le_refl _) (List.prefix_refl _)
theorem letterNames_any (H : AHeap) (hw : Wf H) (a : Option Addr) (n c : Nat) (ss : List ByteArray) (hr : Row H a n c (strs ss)) (hn : n ≤ 2 ^ 30) (hz : sizes ss ≤ 2 ^ 60) (a' : Option Addr) (n' c' : Nat) (ts : List ByteArray) (hr' : Row H a' n' c' (strs ts)) (hn' : n' ≤ 2 ^ 30) (hz' : sizes ts ≤ 2 ^ 60)
    (l : Nat) (hl : l < 256) (m : Int) (s : ByteArray) :
    Does Try.prog 3 [.slice a n c, .slice a' n' c', .int .u8 l, .int .i64 m, .string s] H fun r H' => r = .ret (.bool true) := by
  refine Does.of Try.func3 rfl rfl ?_
  repeat' ((conv => whnf); first
    | (refine Both.intro ?_ ?_ <;> intro _ <;> try (exfalso; omega))
    | (refine Need.intro (by omega) ?_)
    | fail)
  all_goals (conv => whnf)
  refine Does.mono (large_any H _ _ _ ss hr hz (by omega)) ?_; rintro _ _ ⟨b1, rfl, hb1, rfl⟩; cases b1
  case true =>
    repeat' ((conv => whnf); first
      | (refine Both.intro ?_ ?_ <;> intro _ <;> try (exfalso; omega))
      | (refine Need.intro (by omega) ?_)
      | fail)
    all_goals (conv => whnf)
    rfl
  repeat' ((conv => whnf); first
    | (refine Both.intro ?_ ?_ <;> intro _ <;> try (exfalso; omega))
    | (refine Need.intro (by omega) ?_)
    | fail)
  all_goals (conv => whnf)
  refine Does.mono (large_any H _ _ _ ts hr' hz' (by omega)) ?_; rintro _ _ ⟨b2, rfl, hb2, rfl⟩; cases b2
  case true =>
    repeat' ((conv => whnf); first
      | (refine Both.intro ?_ ?_ <;> intro _ <;> try (exfalso; omega))
      | (refine Need.intro (by omega) ?_)
      | fail)
    all_goals (conv => whnf)
    rfl
  repeat' ((conv => whnf); first
    | (refine Both.intro ?_ ?_ <;> intro _ <;> try (exfalso; omega))
    | (refine Need.intro (by omega) ?_)
    | fail)
  all_goals (conv => whnf)
  · rfl
  refine Does.mono (lentTexts_any H hw _ _ _ ss hr hn) ?_; rintro _ H1 ⟨p, rfl, e1, w1, lp⟩
  repeat' ((conv => whnf); first
    | (refine Both.intro ?_ ?_ <;> intro _ <;> try (exfalso; omega))
    | (refine Need.intro (by omega) ?_)
    | fail)
  all_goals (conv => whnf)
  refine Does.mono (lentTexts_any H1 w1 _ _ _ ts (hr'.ext hw e1) hn') ?_; rintro _ H2 ⟨q, rfl, e2, w2, lq⟩
  repeat' ((conv => whnf); first
    | (refine Both.intro ?_ ?_ <;> intro _ <;> try (exfalso; omega))
    | (refine Need.intro (by omega) ?_)
    | fail)
  all_goals (conv => whnf)
  have lp2 := lp.ext w1 e2
  obtain ⟨ap, hap, rp⟩ := lp2.row
  obtain ⟨aq, haq, rq⟩ := lq.row
  have hlen := hr.len; simp at hlen
  have hlen' := hr'.len; simp at hlen'
  rw [hap, haq]
  refine Does.mono (of_any H2 w2 _ _ _ ss rp (by omega) _ _ _ ts rq (by omega)) ?_; rintro _ H3 ⟨rfl, e3, w3⟩
  repeat' ((conv => whnf); first
    | (refine Both.intro ?_ ?_ <;> intro _ <;> try (exfalso; omega))
    | (refine Need.intro (by omega) ?_)
    | fail)
  all_goals (conv => whnf)
  have e03 := (e1.trans e2).trans e3
  refine Does.mono (refOf_any H3 _ _ _ ss (hr.ext hw e03) hn _ _ _ ts (hr'.ext hw e03) hn') ?_; rintro _ _ ⟨rfl, rfl⟩
  repeat' ((conv => whnf); first
    | (refine Both.intro ?_ ?_ <;> intro _ <;> try (exfalso; omega))
    | (refine Need.intro (by omega) ?_)
    | fail)
  all_goals (conv => whnf)
  refine Does.mono ((all_any H3 m).wf w3) ?_; rintro _ H4 ⟨⟨va, rfl, aa⟩, w4⟩
  repeat' ((conv => whnf); first
    | (refine Both.intro ?_ ?_ <;> intro _ <;> try (exfalso; omega))
    | (refine Need.intro (by omega) ?_)
    | fail)
  all_goals (conv => whnf)
  refine Does.mono ((all_any H4 m).wf w4) ?_; rintro _ H5 ⟨⟨vb, rfl, ab⟩, w5⟩
  repeat' ((conv => whnf); first
    | (refine Both.intro ?_ ?_ <;> intro _ <;> try (exfalso; omega))
    | (refine Need.intro (by omega) ?_)
    | fail)
  all_goals (conv => whnf)
  have hlp := ss.length
  refine Does.mono (name_any H5 s) ?_; rintro _ _ ⟨b3, rfl, hb3, rfl⟩
  repeat' ((conv => whnf); first
    | (refine Both.intro ?_ ?_ <;> intro _ <;> try (exfalso; omega))
    | (refine Need.intro (by omega) ?_)
    | fail)
  all_goals (conv => whnf)
  refine Does.mono (refName_any H5 s) ?_; rintro _ _ ⟨b4, rfl, hb4, rfl⟩
  obtain rfl : b3 = b4 := by
    cases b3 <;> cases b4 <;> simp at hb3 hb4 <;> first | rfl | (exact absurd hb4 hb3) | (exact absurd hb3 hb4)
  obtain ⟨oa, ia⟩ := aa.is
  obtain ⟨ob, ib⟩ := ab.is
  have e25 := (e3.trans ia.ext).trans ib.ext
  have e05 := (e03.trans ia.ext).trans ib.ext
  have hxl := allX_len m
  have heq : aBin Try.prog .eql 4 false false (.bool b3) (.bool b3) = some (.bool true) := by cases b3 <;> kernel_rfl
  repeat' ((conv => whnf); first
    | (refine Both.intro ?_ ?_ <;> intro _ <;> try (exfalso; omega))
    | (refine Need.intro (by omega) ?_)
    | (refine Gives.intro ⟨_, heq, ?_⟩)
    | fail)
  all_goals (conv => whnf)
  refine Does.mono (check_any H5 w5 _ _ _ ss (rp.ext w2 e25) (by omega)) ?_; rintro _ H6 ⟨rfl, e6, w6⟩
  repeat' ((conv => whnf); first
    | (refine Both.intro ?_ ?_ <;> intro _ <;> try (exfalso; omega))
    | (refine Need.intro (by omega) ?_)
    | fail)
  all_goals (conv => whnf)
  refine Does.mono (refCheck_any H6 _ _ _ ss (hr.ext hw (e05.trans e6)) (by omega)) ?_; rintro _ _ ⟨rfl, rfl⟩
  repeat' ((conv => whnf); first
    | (refine Both.intro ?_ ?_ <;> intro _ <;> try (exfalso; omega))
    | (refine Need.intro (by omega) ?_)
    | fail)
  all_goals (conv => whnf)
  refine Does.mono (fits_any H6 m l hl) ?_; rintro _ _ ⟨b5, rfl, hb5, rfl⟩
  repeat' ((conv => whnf); first
    | (refine Both.intro ?_ ?_ <;> intro _ <;> try (exfalso; omega))
    | (refine Need.intro (by omega) ?_)
    | fail)
  all_goals (conv => whnf)
  refine Does.mono (refFits_any H6 m l hl) ?_; rintro _ _ ⟨b6, rfl, hb6, rfl⟩
  obtain rfl : b5 = b6 := by
    cases b5 <;> cases b6 <;> simp at hb5 hb6 <;> first | rfl | (exact absurd hb6 hb5) | (exact absurd hb5 hb6)
  have heq' : aBin Try.prog .eql 4 false false (.bool b5) (.bool b5) = some (.bool true) := by cases b5 <;> kernel_rfl
  repeat' ((conv => whnf); first
    | (refine Both.intro ?_ ?_ <;> intro _ <;> try (exfalso; omega))
    | (refine Need.intro (by omega) ?_)
    | (refine Gives.intro ⟨_, heq', ?_⟩)
    | fail)
  all_goals (conv => whnf)
  refine Does.mono (refAll_any H6 w6 m) ?_; rintro _ H7 ⟨vc, rfl, e7, w7, gc⟩
  obtain ⟨ac, rfl, rc⟩ := gc.row
  have hcx : (if 0 ≤ m ∧ m ≤ 8 then lets (allL (2 ^ m.toNat)) else []) = lets (allX m) := by unfold allX; split <;> rfl
  rw [hcx] at rc ⊢
  have hcl : (lets (allX m)).length = (allX m).length := by simp
  have ra : Row H7 _ _ _ (lets (allX m)) := ia.row.ext w4 ((ib.ext.trans e6).trans e7)
  have rb : Row H7 _ _ _ (lets (allX m)) := ib.row.ext w5 (e6.trans e7)
  rw [ia.val, ib.val]
  unfold lv
  repeat' ((conv => whnf); first
    | (refine Both.intro ?_ ?_ <;> intro _ <;> try (exfalso; omega))
    | (refine Need.intro (by omega) ?_)
    | fail)
  all_goals (conv => whnf)
  refine Does.mono (sameLetters_any H7 _ _ _ _ _ _ (allX m) (allX m) ra rc (by show (allX m).length ≤ _; omega) (by omega)) ?_; rintro _ _ ⟨b, rfl, hb, rfl⟩; cases (hb.2 rfl)
  repeat' ((conv => whnf); first
    | (refine Both.intro ?_ ?_ <;> intro _ <;> try (exfalso; omega))
    | (refine Need.intro (by omega) ?_)
    | fail)
  all_goals (conv => whnf)
  refine Does.mono (sameLetters_any H7 _ _ _ _ _ _ (allX m) (allX m) rb ra (by show (allX m).length ≤ _; omega) (by show (allX m).length ≤ _; omega)) ?_; rintro _ _ ⟨b, rfl, hb, rfl⟩; cases (hb.2 rfl)
  repeat' ((conv => whnf); first
    | (refine Both.intro ?_ ?_ <;> intro _ <;> try (exfalso; omega))
    | (refine Need.intro (by omega) ?_)
    | fail)
  all_goals (conv => whnf)
  refine ⟨_, rfl, ?_⟩
  repeat' ((conv => whnf); first
    | (refine Both.intro ?_ ?_ <;> intro _ <;> try (exfalso; omega))
    | (refine Need.intro (by omega) ?_)
    | fail)
  all_goals (conv => whnf)
  have hga : ∀ A, oa = some A → H7.get A = some (.cells (lets (allX m)) 0 true) := fun A hA => (((ib.ext.trans e6).trans e7).get A (w4.lt (ia.get A hA).2)).trans (ia.get A hA).2
  have hgb : ∀ A, ob = some A → H7.get A = some (.cells (lets (allX m)) 0 true) := fun A hA => ((e6.trans e7).get A (w5.lt (ib.get A hA).2)).trans (ib.get A hA).2
  have hls : Lists (H7.push (.cells [lv (oa, allX m), lv (ob, allX m)] 0 true)) H7.next [(oa, allX m), (ob, allX m)] := by
    have hp : ∀ A, H7.get A = some (.cells (lets (allX m)) 0 true) → (H7.push (.cells [lv (oa, allX m), lv (ob, allX m)] 0 true)).get A = some (.cells (lets (allX m)) 0 true) ∧ A ≠ H7.next := fun A hA => by
      have := w7.lt hA
      exact ⟨by rw [AHeap.get_push, if_neg (by omega)]; exact hA, by omega⟩
    have hmem : ∀ (j : Nat) (l : LV), [(oa, allX m), (ob, allX m)][j]? = some l → (j = 0 ∧ l = (oa, allX m)) ∨ (j = 1 ∧ l = (ob, allX m)) := by
      intro j l hj
      match j, hj with
      | 0, hj => cases hj; exact .inl ⟨rfl, rfl⟩
      | 1, hj => cases hj; exact .inr ⟨rfl, rfl⟩
    refine ⟨get_new _ _, fun j xs hj => ?_, fun j A xs hj => ?_, fun i j A xs ys hi hj => ?_⟩
    · rcases hmem j _ hj with ⟨-, h⟩ | ⟨-, h⟩ <;> cases h
      · exact ia.nil rfl
      · exact ib.nil rfl
    · rcases hmem j _ hj with ⟨-, h⟩ | ⟨-, h⟩ <;> cases h
      · obtain ⟨h1, h2⟩ := hp A (hga A rfl); exact ⟨h1, h2, allX_range m, by omega⟩
      · obtain ⟨h1, h2⟩ := hp A (hgb A rfl); exact ⟨h1, h2, allX_range m, by omega⟩
    · rcases hmem i _ hi with ⟨rfl, h⟩ | ⟨rfl, h⟩ <;> rcases hmem j _ hj with ⟨rfl, h'⟩ | ⟨rfl, h'⟩
      · rfl
      · exfalso; cases h; cases h'
        have h1 := w4.lt (ia.get A rfl).2
        have h2 := (ib.get A rfl).1
        omega
      · exfalso; cases h; cases h'
        have h1 := w4.lt (ia.get A rfl).2
        have h2 := (ib.get A rfl).1
        omega
      · rfl
  refine Does.mono (apartLetters_any _ (w7.push _) H7.next [(oa, allX m), (ob, allX m)] hls (by simp)) ?_; rintro _ H8 ⟨rfl, e8, w8⟩
  repeat' ((conv => whnf); first
    | (refine Both.intro ?_ ?_ <;> intro _ <;> try (exfalso; omega))
    | (refine Need.intro (by omega) ?_)
    | fail)
  all_goals (conv => whnf)
  have e07 := ((e05.trans e6).trans e7).trans ((Ext.push H7 _).trans e8)
  have e27 := ((e25.trans e6).trans e7).trans ((Ext.push H7 _).trans e8)
  rw [← hap]
  refine Does.mono (keptTexts_any H H8 p _ _ _ ss (hr.ext hw e07) (lp2.ext w2 e27) hn) ?_; rintro _ _ ⟨rfl, rfl⟩
  repeat' ((conv => whnf); first
    | (refine Both.intro ?_ ?_ <;> intro _ <;> try (exfalso; omega))
    | (refine Need.intro (by omega) ?_)
    | fail)
  all_goals (conv => whnf)
  rw [← haq]
  refine Does.mono (keptTexts_any H1 H8 q _ _ _ ts (hr'.ext hw e07) (lq.ext w2 e27) hn') ?_; rintro _ _ ⟨rfl, rfl⟩
  repeat' ((conv => whnf); first
    | (refine Both.intro ?_ ?_ <;> intro _ <;> try (exfalso; omega))
    | (refine Need.intro (by omega) ?_)
    | fail)
  all_goals (conv => whnf)
  rfl
end Go.AX.Try
