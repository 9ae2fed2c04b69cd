/- record.Strategy: a strategy's text. -/
import Derived.Test.YtkngijdjkcdcjaaDoorLRcF
namespace Go.AX.Lw
open Go Go.AX
set_option linter.unusedVariables false
variable {P : Program}
theorem appTo_full {H : AHeap} {code by_ m : Nat} {b e : Nat} {own : Bool} {xs new : List Value} (hg : H.get b = some (.cells xs e own)) (h1 : (xs.length + m) * by_ ≤ 2 ^ 47) (h2 : xs.length + m ≤ 2 ^ 47) (h3 : new.length = m) (h4 : allOne new = true) (h5 : m ≠ 0) (h6 : xs ≠ []) :
    aAppendTo H 1 code by_ (some ⟨b, 0, none⟩) xs.length xs.length m new = some (.val (.slice (some ⟨H.next, 0, some 0⟩) (xs.length + m) (xs.length + m)) (H.push (.cells (xs ++ new) code true)) (.eff H (H.push (.cells (xs ++ new) code true)))) := by
  have c : (Nat.ble ((xs.length + m) * by_) (2 ^ 47) && Nat.ble (xs.length + m) (2 ^ 47) && Nat.beq new.length (m * 1) && Nat.ble xs.length xs.length && allOne new) = true := by
    simp only [Bool.and_eq_true, Nat.mul_one, h3, nbeq, h4, nble h1, nble h2, nble (Nat.le_refl xs.length), and_true]
  have hx0 : xs.length ≠ 0 := fun e => h6 (List.eq_nil_of_length_eq_zero e)
  unfold aAppendTo
  simp only [c, cond_true]
  rw [nble_no (by omega : ¬ xs.length + m ≤ xs.length)]
  simp only [cond_false, Nat.mul_one, nbeq_no hx0, cellsAt, hg, dropN, takeN_all]
/-- A row that begins as a literal, and grows. -/
def Starts (H0 H : AHeap) (code : Nat) (v : Value) (xs : List Value) : Prop :=
  (∃ b, v = .slice (some ⟨b, 0, none⟩) xs.length xs.length ∧ H.get b = some (.cells xs 0 true) ∧ H0.next ≤ b ∧ xs ≠ []) ∨ Grown H0 H code v xs
theorem Starts.row {H0 H : AHeap} {code : Nat} {v : Value} {xs : List Value} (h : Starts H0 H code v xs) : ∃ a, v = .slice a xs.length xs.length ∧ Row H a xs.length xs.length xs := by
  rcases h with ⟨b, rfl, hg, _, _⟩ | h
  · exact ⟨_, rfl, Row.of_block hg rfl (Nat.le_refl _) (List.prefix_refl _)⟩
  · exact h.row
theorem Starts.ext {H0 H H' : AHeap} {code : Nat} {v : Value} {xs : List Value} (hw : Wf H) (e : Ext H H') (h : Starts H0 H code v xs) : Starts H0 H' code v xs := by
  rcases h with ⟨b, hv, hg, hb, hx⟩ | h
  · exact .inl ⟨b, hv, by rw [e.get b (hw.lt hg)]; exact hg, hb, hx⟩
  · exact .inr (h.ext hw e)
theorem starts_ok {H0 H : AHeap} (he : Ext H0 H) (hw : Wf H) {ts : Array TypeId} {e : TypeId} {by_ : Nat} (ty : AppTy P ts e by_) {v x : Value} {xs new : List Value} {m : Nat} (hv : Starts H0 H (rowV e 1) v xs)
    (hx : srcCells H 1 x = some (m, new)) (hm : new.length = m) (hone : allOne new = true) (hne : m ≠ 0) (hb : (xs.length + m) * by_ ≤ 2 ^ 47) (hb1 : xs.length + m ≤ 2 ^ 47) :
    ∃ v' H' ev, aAppend P H ts [v, x] = some (.val v' H' ev) ∧ Starts H0 H' (rowV e 1) v' (xs ++ new) ∧ Ext H0 H' ∧ Wf H' := by
  rcases hv with ⟨b, rfl, hg, hlb, hxs⟩ | hv
  · refine ⟨_, _, _, (append_eq ty hx).trans (appTo_full hg hb hb1 hm hone hne hxs), .inr (.inr ⟨H.next, by simp [hm], by rw [AHeap.get_push, if_pos rfl], he.next, by simp [hxs]⟩), he.trans (Ext.push _ _), hw.push _⟩
  · obtain ⟨v', H', ev, h1, h2, h3, h4⟩ := grown_ok he hw ty hv hx hm hone hne hb hb1
    exact ⟨v', H', ev, h1, .inr h2, h3, h4⟩
end Go.AX.Lw
namespace Go.AX.Tryd
open Go Go.AX Go.AX.Lw Go.Proofs
set_option linter.unusedVariables false
set_option linter.unusedSimpArgs false
set_option maxRecDepth 100000
def OneX (X : Str) (q : Nat) (r : Int) : Prop := -1 ≤ r ∧ r ≤ 255 ∧ ∀ l, X.reply[q]? = some l → l.length ≤ 256
def HeadX (X : Str) : Prop := 1 ≤ X.ranks.length ∧ X.ranks.length ≤ 256 ∧ X.reply.length = X.ranks.length ∧ X.choice.length = X.ranks.length
def RanksTo (X : Str) (k : Nat) : Prop := ∀ (q : Nat) r, q < k → X.ranks[q]? = some r → OneX X q r
/-- A strategy that may be written. -/
def OkX (X : Str) : Prop := HeadX X ∧ RanksTo X X.ranks.length
noncomputable instance okXdec (X : Str) : Decidable (OkX X) := Classical.propDecidable _
theorem ranksTo_succ {X : Str} {k : Nat} {r : Int} (hr : X.ranks[k]? = some r) : RanksTo X (k + 1) ↔ RanksTo X k ∧ OneX X k r := by
  unfold RanksTo
  constructor
  · intro h
    exact ⟨fun q r' hq hr' => h q r' (by omega) hr', h k r (by omega) hr⟩
  · rintro ⟨h, h'⟩ q r' hq hr'
    by_cases hk : q = k
    · subst hk; rw [hr] at hr'; cases hr'; exact h'
    · exact h q r' (by omega) hr'
/-- Its letters are letters. -/
def LetX (X : Str) : Prop := (∀ z ∈ X.choice, 0 ≤ z ∧ z < 256) ∧ ∀ l ∈ X.reply, ∀ z ∈ l, 0 ≤ z ∧ z < 256
theorem written_any (H : AHeap) (hw : Wf H) (X : Str) (a1 a2 a3 : Option Addr) (n1 c1 n2 c2 n3 c3 : Nat) (R : StrR H X a1 n1 c1 a2 n2 c2 a3 n3 c3) (h1 : n1 ≤ 2 ^ 40) (h2 : n2 ≤ 2 ^ 40) (h3 : n3 ≤ 2 ^ 40) :
    Does Tryd.prog orc 23 [strV X a1 n1 c1 a2 n2 c2 a3 n3 c3] H fun r H' => r = .ret (.bool (decide (OkX X))) ∧ Ext H H' ∧ Wf H' := by
  have l1 := R.ranks.len; simp at l1
  have l2 := R.reply.len
  have l3 := R.choice.len; simp at l3
  have hc1 := R.ranks.cap
  have hc3 := R.choice.cap
  refine Does.of Tryd.func23 (fun _ _ => rfl) rfl ?_
  have g0 := get_new H (.cells (strC X a1 n1 c1 a2 n2 c2 a3 n3 c3) 0 true)
  have w0 := hw.push (.cells (strC X a1 n1 c1 a2 n2 c2 a3 n3 c3) 0 true)
  have e0 := Ext.push H (.cells (strC X a1 n1 c1 a2 n2 c2 a3 n3 c3) 0 true)
  have q1 := cellAt_of g0 (o := 1) rfl
  have q2 := cellAt_of g0 (o := 2) rfl
  have q3 := cellAt_of g0 (o := 3) rfl
  by_cases hh : HeadX X
  case neg =>
    rw [decide_eq_false (fun h => hh h.1)]
    unfold HeadX at hh
    repeat' ((conv => whnf); first
      | (refine Both.intro ?_ ?_ <;> intro _ <;> try (exfalso; omega))
      | (refine Need.intro (by omega) ?_)
      | (refine ⟨_, q1, ?_⟩)
      | (refine ⟨_, q2, ?_⟩)
      | (refine ⟨_, q3, ?_⟩)
      | fail)
    all_goals (conv => whnf)
    all_goals first
      | exact ⟨rfl, e0, w0⟩
      | (exfalso; omega)
  have hh' := hh
  unfold HeadX at hh'
  repeat' ((conv => whnf); first
    | (refine Both.intro ?_ ?_ <;> intro _ <;> try (exfalso; omega))
    | (refine Need.intro (by omega) ?_)
    | (refine ⟨_, q1, ?_⟩)
    | (refine ⟨_, q2, ?_⟩)
    | (refine ⟨_, q3, ?_⟩)
    | fail)
  all_goals (conv => whnf)
  refine Runs.loop (fun k : Nat => [(32, .int .i64 k), (31, .int .i64 n1), (30, .slice a1 n1 c1), (1, .pointer (some ⟨H.next, 0, none⟩))])
    (fun k H' => k ≤ n1 ∧ H.push (.cells (strC X a1 n1 c1 a2 n2 c2 a3 n3 c3) 0 true) = H' ∧ RanksTo X k) (fun k => n1 - k) 0 ⟨rfl, rfl, rfl, rfl, trivial⟩
    ⟨by omega, rfl, fun q r hq => by omega⟩ ?_
  rintro k _ ⟨hk, rfl, hR⟩
  by_cases hlt : k < n1
  · obtain ⟨r, hx⟩ := get_of (l := X.ranks) (k := k) (by omega)
    obtain ⟨b2, o2, st2, ha2, hcell⟩ := (R.ranks.ext hw e0).cell k (.int .i64 r) (by simp [ints, hx])
    obtain ⟨b3, o3, st3, bb, m, kk, zs, ha3, hcell3, hzs, hrow, hm⟩ := (R.reply.ext hw e0).at (j := k) (by omega)
    subst ha2 ha3
    have hone : OneX X k r ↔ -1 ≤ r ∧ r ≤ 255 ∧ m ≤ 256 := by
      unfold OneX
      have := hrow.len; simp at this
      simp only [hzs, Option.some.injEq, forall_eq', this]
    have hno : ¬ OneX X k r → ¬ OkX X := fun h ho => h (ho.2 k r (List.getElem?_eq_some_iff.1 hx).1 hx)
    repeat' ((conv => whnf); first
      | (refine Both.intro ?_ ?_ <;> intro _ <;> try (exfalso; omega))
      | (refine Need.intro (by omega) ?_)
      | (refine ⟨_, hcell, ?_⟩)
      | (refine ⟨_, q2, ?_⟩)
      | (refine ⟨_, hcell3, ?_⟩)
      | fail)
    all_goals (conv => whnf)
    all_goals first
      | exact ⟨k + 1, ⟨rfl, rfl, rfl, rfl, trivial⟩, ⟨by omega, rfl, (ranksTo_succ hx).2 ⟨hR, hone.2 (by omega)⟩⟩, by omega⟩
      | exact ⟨by rw [decide_eq_false (hno fun h => by have := hone.1 h; omega)]; rfl, e0, w0⟩
  · obtain rfl : k = n1 := by omega
    repeat' ((conv => whnf); first
      | (refine Both.intro ?_ ?_ <;> intro _ <;> try (exfalso; omega))
      | (refine Need.intro (by omega) ?_)
      | (skip ; fail)
      | fail)
    all_goals (conv => whnf)
    exact ⟨by rw [decide_eq_true ⟨hh, by rw [← l1]; exact hR⟩]; rfl, e0, w0⟩
/-- The text. -/
def sideT (w : Bool) : List UInt8 := [115, 116, 114, 97, 116, 101, 103, 121, 32] ++ (if w then [115, 121, 115] else [101, 110, 118])
def trs (X : Str) : List (Int × Int × List Int) := X.ranks.zip (X.choice.zip X.reply)
def trT (l : List (Int × Int × List Int)) : List UInt8 := l.flatMap fun p => lineT (Lib.itoa p.1) (p.2.1 :: p.2.2)
def textX (X : Str) : List UInt8 := lineT (sideT X.wins) [(X.ranks.length : Nat)] ++ trT (trs X)
noncomputable def strT (X : Str) : List UInt8 := if OkX X then textX X else []
noncomputable def errX (X : Str) : Int := if OkX X then 0 else 2
theorem trT_take {l : List (Int × Int × List Int)} {k : Nat} {z : Int × Int × List Int} (hz : l[k]? = some z) : trT (l.take (k + 1)) = trT (l.take k) ++ lineT (Lib.itoa z.1) (z.2.1 :: z.2.2) := by
  unfold trT
  rw [List.take_add_one, hz]
  simp
theorem trT_len : ∀ {l : List (Int × Int × List Int)}, (∀ p ∈ l, SmallZ (p.1 :: p.2.1 :: p.2.2) ∧ p.2.2.length ≤ 256) → (trT l).length ≤ 6000 * l.length
  | [], _ => by simp [trT]
  | p :: r, h => by
    have h1 := trT_len (l := r) fun x hx => h x (by simp [hx])
    have h0 := h p (by simp)
    have h2 := lineT_len (w := Lib.itoa p.1) (zs := p.2.1 :: p.2.2) fun z hz => h0.1 z (by simp only [List.mem_cons] at hz ⊢; exact .inr hz)
    have h3 := itoa_len p.1 (h0.1 p.1 (by simp)).1 (h0.1 p.1 (by simp)).2
    have h4 := h0.2
    unfold trT at h1 ⊢
    simp only [List.flatMap_cons, List.length_append, List.length_cons] at h2 ⊢
    omega
theorem trs_small {X : Str} {k : Nat} (h : HeadX X) (hR : RanksTo X k) (hL : LetX X) : ∀ p ∈ (trs X).take k, SmallZ (p.1 :: p.2.1 :: p.2.2) ∧ p.2.2.length ≤ 256 := fun p hp => by
  obtain ⟨i, hi⟩ := List.getElem?_of_mem hp
  rw [List.getElem?_take] at hi
  split at hi
  case isFalse => cases hi
  rename_i hik
  unfold trs at hi
  rw [List.getElem?_zip_eq_some, List.getElem?_zip_eq_some] at hi
  obtain ⟨g1, g2, g3⟩ := hi
  obtain ⟨k1, k2, k3⟩ := hR i _ hik g1
  have k4 := hL.1 _ (List.mem_of_getElem? g2)
  have k5 := hL.2 _ (List.mem_of_getElem? g3)
  refine ⟨fun z hz => ?_, k3 _ g3⟩
  simp only [List.mem_cons] at hz
  rcases hz with rfl | rfl | hz
  · omega
  · omega
  · have := k5 z hz; omega
theorem zeroB : zeroOf Tryd.prog 50 = some (.agg #[.pointer none, .slice none 0 0]) := by kernel_rfl
theorem intTyR : AppTy Tryd.prog #[23, 23] 3 8 := ⟨by kernel_rfl, by kernel_rfl, by kernel_rfl, by kernel_rfl, by decide, ⟨.int .i64 0, by kernel_rfl, by kernel_rfl⟩⟩
theorem recStr_any (H : AHeap) (hw : Wf H) (hT : TabIn H) (X : Str) (a1 a2 a3 : Option Addr) (n1 c1 n2 c2 n3 c3 : Nat) (R : StrR H X a1 n1 c1 a2 n2 c2 a3 n3 c3) (hL : LetX X) (h1 : n1 ≤ 2 ^ 40) (h2 : n2 ≤ 2 ^ 40) (h3 : n3 ≤ 2 ^ 40) :
    Does Tryd.prog orc 9 [strV X a1 n1 c1 a2 n2 c2 a3 n3 c3] H fun r H' => r = .ret (.tuple #[.string (mkS (strT X)), .int .i64 (errX X)]) ∧ Ext H H' ∧ Wf H' := by
  have l1 := R.ranks.len; simp at l1
  have l2 := R.reply.len
  have l3 := R.choice.len; simp at l3
  have hc1 := R.ranks.cap
  have hc3 := R.choice.cap
  refine Does.of Tryd.func9 (fun _ _ => rfl) rfl ?_
  have g0 := get_new H (.cells (strC X a1 n1 c1 a2 n2 c2 a3 n3 c3) 0 true)
  have w0 := hw.push (.cells (strC X a1 n1 c1 a2 n2 c2 a3 n3 c3) 0 true)
  have e0 := Ext.push H (.cells (strC X a1 n1 c1 a2 n2 c2 a3 n3 c3) 0 true)
  have q0 := cellAt_of g0 (o := 0) rfl
  have q1 := cellAt_of g0 (o := 1) rfl
  have q2 := cellAt_of g0 (o := 2) rfl
  have q3 := cellAt_of g0 (o := 3) rfl
  have qa := cellsAt_all g0 rfl (n := 4)
  have hck := written_any _ w0 X _ _ _ _ _ _ _ _ _ (R.ext hw e0) h1 h2 h3
  by_cases hok : OkX X
  case neg =>
    rw [decide_eq_false hok] at hck
    rw [show errX X = 2 by unfold errX; rw [if_neg hok], show strT X = [] by unfold strT; rw [if_neg hok]]
    repeat' ((conv => whnf); first
      | (refine Both.intro ?_ ?_ <;> intro _ <;> try (exfalso; omega))
      | (refine Need.intro (by omega) ?_)
      | (refine ⟨_, qa, ?_⟩)
      | (refine Does.mono hck ?_ ; rintro _ H1 ⟨rfl, e1, w1⟩)
      | fail)
    all_goals (conv => whnf)
    exact ⟨rfl, e0.trans e1, w1⟩
  rw [decide_eq_true hok] at hck
  rw [show errX X = 0 by unfold errX; rw [if_pos hok], show strT X = textX X by unfold strT; rw [if_pos hok]]
  have hHd := hok.1
  unfold HeadX at hHd
  obtain ⟨bw, hbw⟩ : ∃ bw, bw = X.wins := ⟨_, rfl⟩
  have q0 : cellAt (H.push (.cells (strC X a1 n1 c1 a2 n2 c2 a3 n3 c3) 0 true)) H.next (0 + 0) = some (.bool bw) := by rw [hbw]; exact q0
  have hz0 : SmallZ [((n1 : Nat) : Int)] := fun z hz => by
    simp only [List.mem_cons, List.not_mem_nil, or_false] at hz
    rcases hz with rfl
    omega
  have htx : textX X = lineT (sideT bw) [((n1 : Nat) : Int)] ++ trT (trs X) := by unfold textX; rw [← hbw, ← l1]
  rw [htx]
  have hsl : (sideT bw).length = 12 := by cases bw <;> rfl
  have hhl : (lineT (sideT bw) [((n1 : Nat) : Int)]).length ≤ 100 := by have := lineT_len (w := sideT bw) hz0; simp at this; omega
  have htl : (trs X).length = n1 := by unfold trs; rw [List.length_zip, List.length_zip]; omega
  cases bw
  all_goals
    repeat' ((conv => whnf); first
      | (refine Both.intro ?_ ?_ <;> intro _ <;> try (exfalso; omega))
      | (refine Need.intro (by omega) ?_)
      | (refine ⟨_, qa, ?_⟩)
      | (refine Does.mono hck ?_ ; rintro _ H1 ⟨rfl, e1, w1⟩ ; have p0 := cellAt_ext w0 e1 q0)
      | (refine ⟨_, p0, ?_⟩)
      | (refine Gives.intro ⟨_, zeroB, ?_⟩)
      | fail)
    all_goals (conv => whnf)
    obtain ⟨HB, hHB⟩ : ∃ X, X = H1.push (.cells (Value.agg #[.pointer none, .slice none 0 0]).cells.toList (typedV 50) true) := ⟨_, rfl⟩
    have eB : Ext H1 HB := by rw [hHB]; exact Ext.push _ _
    have wB : Wf HB := by rw [hHB]; exact w1.push _
    have gB : HB.get H1.next = some (.cells [.pointer none, .slice none 0 0] bC true) := by rw [hHB]; exact get_new _ _
    have B0 : BuildR H1 HB H1.next [] := ⟨⟨none, .slice none 0 0, gB, .inl rfl, .inl ⟨rfl, rfl⟩⟩, Nat.le_refl _⟩
    have T1 : TabIn H1 := hT.ext hw (e0.trans e1)
    have eA := e1.trans eB
    have p1 := cellAt_ext w0 eA q1
    have wH1 := w1
    rw [← hHB]
    have hsT : aStr .add ⟨#[115, 116, 114, 97, 116, 101, 103, 121, 32]⟩ ⟨#[115, 121, 115]⟩ = some (.string (mkS (sideT true))) := strAdd (a := [115, 116, 114, 97, 116, 101, 103, 121, 32]) (b := [115, 121, 115]) rfl rfl (by decide)
    have hsF : aStr .add ⟨#[115, 116, 114, 97, 116, 101, 103, 121, 32]⟩ ⟨#[101, 110, 118]⟩ = some (.string (mkS (sideT false))) := strAdd (a := [115, 116, 114, 97, 116, 101, 103, 121, 32]) (b := [101, 110, 118]) rfl rfl (by decide)
    repeat' ((conv => whnf); first
      | (refine Both.intro ?_ ?_ <;> intro _ <;> try (exfalso; omega))
      | (refine Need.intro (by omega) ?_)
      | (refine ⟨_, p1, ?_⟩)
      | (refine Gives.intro ⟨_, hsT, ?_⟩)
      | (refine Gives.intro ⟨_, hsF, ?_⟩)
      | (refine ⟨ints [(n1 : Nat)], by kernel_rfl, ?_⟩)
      | (refine Does.mono (lineB_any H1 HB H1.next [] B0 eB wB wH1 T1 (sideT _) (by intro e; rw [e] at hsl; cases hsl) [(n1 : Nat)] hz0 (by simp) (by rw [hsl]; simp)) ?_ ; rintro _ H2 ⟨rfl, B2, e2, w2, f2⟩)
      | fail)
    all_goals (conv => whnf)
    have p1' := cellAt_ext w0 (e1.trans e2) q1
    repeat' ((conv => whnf); first
      | (refine Both.intro ?_ ?_ <;> intro _ <;> try (exfalso; omega))
      | (refine Need.intro (by omega) ?_)
      | (refine ⟨_, p1', ?_⟩)
      | fail)
    all_goals (conv => whnf)
    refine Runs.loop (fun k : Nat => [(26, .int .i64 k), (25, .int .i64 n1), (24, .slice a1 n1 c1), (5, .pointer (some ⟨H1.next, 0, none⟩)), (1, .pointer (some ⟨H.next, 0, none⟩))])
      (fun k H' => k ≤ n1 ∧ BuildR H1 H' H1.next (lineT (sideT _) [((n1 : Nat) : Int)] ++ trT ((trs X).take k)) ∧ Ext H1 H' ∧ Wf H') (fun k => n1 - k) 0 ⟨rfl, rfl, rfl, rfl, rfl, trivial⟩
      ⟨by omega, by simpa [trT] using B2, e2, w2⟩ ?_
    rintro k H3 ⟨hk, B3, e3, w3⟩
    have hsk := fun bw => show (lineT (sideT bw) [((n1 : Nat) : Int)] ++ trT ((trs X).take k)).length ≤ 2 ^ 22 from by
      have hq := trT_len (l := (trs X).take k) (trs_small hok.1 (fun q r hq hr => hok.2 q r (by omega) hr) hL)
      have hq2 := lineT_len (w := sideT bw) hz0
      have hq3 : (sideT bw).length = 12 := by cases bw <;> rfl
      rw [List.length_take] at hq
      simp at hq2
      rw [List.length_append]; omega
    by_cases hlt : k < n1
    · obtain ⟨r, hx⟩ := get_of (l := X.ranks) (k := k) (by omega)
      obtain ⟨z, hy⟩ := get_of (l := X.choice) (k := k) (by omega)
      obtain ⟨b2, o2, st2, ha2, hcell⟩ := (R.ranks.ext hw (e0.trans (e1.trans e3))).cell k (.int .i64 r) (by simp [ints, hx])
      obtain ⟨b4, o4, st4, ha4, hcell4⟩ := (R.choice.ext hw (e0.trans (e1.trans e3))).cell k (.int .u8 z) (by simp [lets, hy])
      obtain ⟨b3, o3, st3, bb, m, kk, zs, ha3, hcell3, hzs, hrow, hm⟩ := (R.reply.ext hw (e0.trans (e1.trans e3))).at (j := k) (by omega)
      subst ha2 ha3 ha4
      have hlz := hrow.len; simp at hlz
      have hkc := hrow.cap
      obtain ⟨r1, r2, r3⟩ := hok.2 k r (by omega) hx
      have hr4 := r3 zs hzs
      have hzc := hL.1 z (List.mem_of_getElem? hy)
      have hzr := hL.2 zs (List.mem_of_getElem? hzs)
      have hp : (trs X)[k]? = some (r, z, zs) := by unfold trs; rw [List.getElem?_zip_eq_some, List.getElem?_zip_eq_some]; exact ⟨hx, hy, hzs⟩
      have u3 := cellAt_ext w0 (e1.trans e3) q3
      have u2 := cellAt_ext w0 (e1.trans e3) q2
      have hcv : ∀ y : Int, 0 ≤ y ∧ y < 256 → aConv Tryd.prog 59 3 (.int .u8 y) = some (.int .i64 y) := fun y hy => by
        have h0 : aConv Tryd.prog 59 3 (.int .u8 y) = some (.int .i64 (IntKind.i64.wrap y)) := by kernel_rfl
        rw [h0, wrap_i64 (by omega)]
      have eP := Ext.push H3 (.cells (ints [z]) 0 true)
      have wP := w3.push (.cells (ints [z]) 0 true)
      have u2' := cellAt_ext w0 (e1.trans (e3.trans eP)) q2
      have hcell3' := cellAt_ext w3 eP hcell3
      repeat' ((conv => whnf); first
        | (refine Both.intro ?_ ?_ <;> intro _ <;> try (exfalso; omega))
        | (refine Need.intro (by omega) ?_)
        | (refine ⟨_, hcell, ?_⟩)
        | (refine ⟨_, u3, ?_⟩)
        | (refine ⟨_, hcell4, ?_⟩)
        | (refine Gives.intro ⟨_, hcv z hzc, ?_⟩)
        | (refine ⟨ints [z], by kernel_rfl, ?_⟩)
        | (refine ⟨_, u2', ?_⟩)
        | (refine ⟨_, hcell3', ?_⟩)
        | fail)
      all_goals (conv => whnf)
      refine Runs.loop (fun s : Nat × Value => [(44, .int .i64 s.1), (43, .int .i64 m), (42, .slice bb m kk), (8, s.2), (7, .int .i64 r), (26, .int .i64 k), (25, .int .i64 n1), (24, .slice (some ⟨b2, o2, st2⟩) n1 c1), (5, .pointer (some ⟨H1.next, 0, none⟩)), (1, .pointer (some ⟨H.next, 0, none⟩))])
        (fun s H' => s.1 ≤ m ∧ Starts H3 H' (rowV 3 1) s.2 (ints (z :: zs.take s.1)) ∧ Ext H3 H' ∧ Wf H') (fun s => m - s.1) (0, _) ⟨rfl, rfl, rfl, rfl, rfl, rfl, rfl, rfl, rfl, rfl, trivial⟩
        ⟨by simp, .inl ⟨H3.next, rfl, get_new _ _, Nat.le_refl _, by simp⟩, eP, wP⟩ ?_
      rintro ⟨i, v⟩ H5 ⟨hi, hS, e5, w5⟩
      dsimp only at hi hS
      show vc _ _ _ _ _ [(44, .int .i64 (i : Nat)), (43, .int .i64 m), (42, .slice bb m kk), (8, v), (7, .int .i64 r), (26, .int .i64 k), (25, .int .i64 n1), (24, .slice (some ⟨b2, o2, st2⟩) n1 c1), (5, .pointer (some ⟨H1.next, 0, none⟩)), (1, .pointer (some ⟨H.next, 0, none⟩))] _ _
      by_cases hlt2 : i < m
      · obtain ⟨y, hyz⟩ := get_of (l := zs) (k := i) (by omega)
        obtain ⟨b6, o6, st6, ha6, hcell6⟩ := (hrow.ext w3 e5).cell i (.int .u8 y) (by simp [lets, hyz])
        subst ha6
        have eQ := Ext.push H5 (.cells (ints [y]) 0 true)
        have hx6 : srcCells (H5.push (.cells (ints [y]) 0 true)) 1 (.slice (some ⟨H5.next, 0, none⟩) 1 1) = some (1, ints [y]) := src_slice (get_new _ _) rfl (Nat.le_refl _) (by decide)
        have hln : (ints (z :: zs.take i)).length = i + 1 := by simp; omega
        obtain ⟨v7, H7, ev7, happ, S7, e7, w7⟩ := starts_ok (e5.trans eQ) (w5.push _) intTyR (hS.ext w5 eQ) hx6 rfl rfl (by decide) (by rw [hln]; omega) (by rw [hln]; omega)
        obtain ⟨av, rfl, -⟩ := hS.row
        repeat' ((conv => whnf); first
          | (refine Both.intro ?_ ?_ <;> intro _ <;> try (exfalso; omega))
          | (refine Need.intro (by omega) ?_)
          | (refine ⟨_, hcell6, ?_⟩)
          | (refine Gives.intro ⟨_, hcv y (hzr y (List.mem_of_getElem? hyz)), ?_⟩)
          | (refine ⟨ints [y], by kernel_rfl, ?_⟩)
          | (refine Outs.intro ⟨_, _, _, happ, ?_⟩)
          | fail)
        all_goals (conv => whnf)
        exact ⟨(i + 1, v7), ⟨rfl, rfl, rfl, rfl, rfl, rfl, rfl, rfl, rfl, rfl, trivial⟩, ⟨by show i + 1 ≤ m; omega, by show Starts H3 H7 _ v7 (ints (z :: zs.take (i + 1))); rw [List.take_add_one, hyz]; simpa using S7, e7, w7⟩, by show m - (i + 1) < m - i; omega⟩
      · obtain rfl : i = m := by omega
        rw [List.take_of_length_le (by omega)] at hS
        have hbH3 : H1.next < H3.next := by obtain ⟨p', v', hh1, -⟩ := B3.there; exact w3.lt hh1
        have hsafe : ∀ H6, Ext H5 H6 → ∃ av, v = .slice av (i + 1) (i + 1) ∧ Row H6 av (i + 1) (i + 1) (ints (z :: zs)) ∧ SafeR rC H1.next H6 av := fun H6 e6 => by
          have hlen2 : (ints (z :: zs)).length = i + 1 := by simp; omega
          rcases hS with ⟨b, rfl, hg, hlb, -⟩ | ⟨-, hh⟩ | ⟨b, rfl, hg, hlb, -⟩
          · refine ⟨_, by rw [hlen2], ?_, ?_⟩
            · have := Row.of_block (st := none) hg rfl (Nat.le_refl _) (List.prefix_refl _)
              rw [hlen2] at this
              exact this.ext w5 e6
            · intro c o st e
              cases e
              exact ⟨_, by rw [e6.get _ (w5.lt hg)]; exact hg, by omega, fun xs e => by injection e with _ e2 _; exact absurd e2 (by decide)⟩
          · cases hh
          · refine ⟨_, by rw [hlen2], ?_, ?_⟩
            · have := Row.of_block (st := some 0) hg rfl (Nat.le_refl _) (List.prefix_refl _)
              rw [hlen2] at this
              exact this.ext w5 e6
            · intro c o st e
              cases e
              exact ⟨_, by rw [e6.get _ (w5.lt hg)]; exact hg, by omega, fun xs e => by injection e with _ e2 _; exact absurd e2 (by decide)⟩
        have hB5 := B3.ext w3 e5
        have hzz : SmallZ (z :: zs) := fun y hy => by
          rcases List.mem_cons.1 hy with rfl | hy
          · omega
          · have := hzr y hy; omega
        have hil := itoa_len r (by omega) (by omega)
        repeat' ((conv => whnf); first
          | (refine Both.intro ?_ ?_ <;> intro _ <;> try (exfalso; omega))
          | (refine Need.intro (by omega) ?_)
          | (refine Does.mono (itoa_any H5 w5 (T1.ext wH1 (e3.trans e5)) r (by omega) (by omega)) ?_ ; rintro _ H6 ⟨rfl, e6, w6⟩ ; obtain ⟨av, rfl, hrw, hsf⟩ := hsafe H6 e6)
          | (refine Does.mono (line_any H1 H6 H1.next _ (hB5.ext w5 e6) (e3.trans (e5.trans e6)) w6 wH1 T1 (Lib.itoa r) (itoa_ne _) _ _ _ (z :: zs) hrw hsf hzz (by omega) (by have := hsk true; have := hsk false; omega)) ?_ ; rintro _ H7 ⟨rfl, B7, e7, w7, f7⟩)
          | fail)
        all_goals (conv => whnf)
        exact ⟨k + 1, ⟨rfl, rfl, rfl, rfl, rfl, trivial⟩, ⟨by omega, by rw [trT_take hp, ← List.append_assoc]; exact B7, e7, w7⟩, by omega⟩
    · obtain rfl : k = n1 := by omega
      have hsk' := fun bw => hsk bw
      rw [List.take_of_length_le (by omega)] at B3 hsk'
      repeat' ((conv => whnf); first
        | (refine Both.intro ?_ ?_ <;> intro _ <;> try (exfalso; omega))
        | (refine Need.intro (by omega) ?_)
        | (refine Does.mono (string_any H1 H3 H1.next _ B3 e3 w3 (by unfold lineT; simp) (by have := hsk' true; have := hsk' false; omega)) ?_ ; rintro _ H6 ⟨rfl, e6, w6⟩)
        | fail)
      all_goals (conv => whnf)
      exact ⟨rfl, e0.trans (e1.trans e6), w6⟩
end Go.AX.Tryd
