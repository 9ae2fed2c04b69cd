/- record.Auto, rejoinderref29.Auto: an automaton's text. -/
import Derived.Test.YtkngijdjkcdcjaaDoorLRcD
namespace Go.AX.Lw
open Go Go.AX
set_option linter.unusedVariables false
/-- All looks are at blocks of S. -/
def lookIn (S : Nat → Prop) : List (Nat × Ev) → Prop
  | [] => True
  | (_, .look b _ _) :: r => S b ∧ lookIn S r
  | _ :: r => lookIn S r
/-- Every effect leaves the blocks of S as they are. -/
def effIn (S : Nat → Prop) : List (Nat × Ev) → Prop
  | [] => True
  | (_, .eff H H') :: r => (∀ b, S b → H'.get b = H.get b) ∧ effIn S r
  | _ :: r => effIn S r
theorem effIn_mem {S : Nat → Prop} : ∀ {l : List (Nat × Ev)}, effIn S l → ∀ j H H', (j, Ev.eff H H') ∈ l → ∀ b, S b → H'.get b = H.get b
  | [], _, _, _, _, h => by cases h
  | (i, e) :: r, h, j, H, H', hm => by
    cases e with
    | eff _ _ =>
      rcases List.mem_cons.1 hm with he | hm
      · cases he; exact h.1
      · exact effIn_mem h.2 j H H' hm
    | _ =>
      rcases List.mem_cons.1 hm with he | hm
      · cases he
      · exact effIn_mem (l := r) h j H H' hm
theorem lookMix_in {ops : Array Oper} {S : Nat → Prop} {j : Nat} {H H' : AHeap} (h : ∀ b, S b → H'.get b = H.get b) : ∀ {tr : List (Nat × Ev)}, lookIn S tr → makeOk ops j tr = true → lookMix ops j H H' tr
  | [], _, _ => True.intro
  | (i, e) :: r, hl, hm => by
    cases e with
    | look b o n => exact ⟨.inr (by unfold cellsAt; rw [h b hl.1]), lookMix_in h hl.2 hm⟩
    | make b o =>
      simp only [makeOk, Bool.and_eq_true, Bool.or_eq_true, Bool.not_eq_true'] at hm
      refine ⟨?_, lookMix_in h hl hm.2⟩
      rcases hm.1 with h1 | h1
      · exact .inl h1
      · exact .inr (.inl h1)
    | _ => exact lookMix_in (tr := r) h hl hm
/-- A drawn region whose effects keep all blocks that are looked at. -/
theorem draw_in {ops : Array Oper} {tr : List (Nat × Ev)} (S : Nat → Prop) (h : effIn S tr) (hl : lookIn S tr) (hm : makesOk ops tr tr = true) : DrawP ops tr := by
  refine draw_mix ?_
  have : ∀ l : List (Nat × Ev), (∀ x ∈ l, x ∈ tr) → effMix ops tr l := by
    intro l
    induction l with
    | nil => intro _; exact True.intro
    | cons x r ih =>
      intro hx
      have hr := ih fun y hy => hx y (by simp [hy])
      obtain ⟨j, e⟩ := x
      cases e with
      | eff H H' =>
        have hm' := hx (j, .eff H H') (by simp)
        exact ⟨lookMix_in (effIn_mem h j H H' hm') hl (makesOk_mem hm j H H' hm'), hr⟩
      | _ => exact hr
  exact this tr fun _ h => h
end Go.AX.Lw
namespace Go.AX.Tryd
open Go Go.AX Go.AX.Lw Go.Proofs
set_option linter.unusedVariables false
set_option linter.unusedSimpArgs false
set_option maxRecDepth 100000
def sgT (b : Bool) : List UInt8 := if b then [43] else [45]
theorem sgT_len (b : Bool) : (sgT b).length = 1 := by unfold sgT; split <;> rfl
/-- The lines of the states, of the nodes. -/
def stT (l : List (Bool × Int)) : List UInt8 := l.flatMap fun p => lineT (sgT p.1) [p.2]
def ndT (l : List Nd) : List UInt8 := l.flatMap fun x => lineT (Lib.itoa x.1) [x.2.1, x.2.2]
def headT (A : Aut) : List UInt8 := lineT [97, 117, 116, 111] [A.pr, (A.acc.length : Nat), (A.nd.length : Nat)]
def textA (A : Aut) : List UInt8 := headT A ++ stT (A.acc.zip A.gd) ++ ndT A.nd
open Classical in
noncomputable def autT (A : Aut) : List UInt8 := if OkA A then textA A else []
theorem stT_take {l : List (Bool × Int)} {k : Nat} {z : Bool × Int} (hz : l[k]? = some z) : stT (l.take (k + 1)) = stT (l.take k) ++ lineT (sgT z.1) [z.2] := by
  unfold stT
  rw [List.take_add_one, hz]
  simp
theorem ndT_take {l : List Nd} {k : Nat} {z : Nd} (hz : l[k]? = some z) : ndT (l.take (k + 1)) = ndT (l.take k) ++ lineT (Lib.itoa z.1) [z.2.1, z.2.2] := by
  unfold ndT
  rw [List.take_add_one, hz]
  simp
theorem lineT_len {w : List UInt8} {zs : List Int} (h : SmallZ zs) : (lineT w zs).length ≤ w.length + 22 * zs.length + 1 := by
  have := numsT_len h
  unfold lineT
  simp; omega
theorem stT_len : ∀ {l : List (Bool × Int)}, (∀ p ∈ l, SmallZ [p.2]) → (stT l).length ≤ 24 * l.length
  | [], _ => by simp [stT]
  | p :: r, h => by
    have h1 := stT_len (l := r) fun x hx => h x (by simp [hx])
    have h2 := lineT_len (w := sgT p.1) (h p (by simp))
    have h3 : (sgT p.1).length = 1 := by unfold sgT; split <;> rfl
    unfold stT at h1 ⊢
    simp only [List.flatMap_cons, List.length_append, List.length_cons, List.length_nil] at h2 ⊢
    omega
theorem ndT_len : ∀ {l : List Nd}, (∀ x ∈ l, SmallZ [x.1, x.2.1, x.2.2]) → (ndT l).length ≤ 66 * l.length
  | [], _ => by simp [ndT]
  | p :: r, h => by
    have h1 := ndT_len (l := r) fun x hx => h x (by simp [hx])
    have h0 := h p (by simp)
    have h2 := lineT_len (w := Lib.itoa p.1) (zs := [p.2.1, p.2.2]) fun z hz => h0 z (by simp only [List.mem_cons] at hz ⊢; exact .inr hz)
    have h3 := itoa_len p.1 (h0 p.1 (by simp)).1 (h0 p.1 (by simp)).2
    unfold ndT at h1 ⊢
    simp only [List.flatMap_cons, List.length_append, List.length_cons, List.length_nil] at h2 ⊢
    omega
theorem GoodP.small {A : Aut} {r below above : Int} (h : GoodP A r below above) (h1 : A.acc.length ≤ 256) (h2 : below ≤ 4096) : -10000 < r ∧ r < 10000 := by
  rcases h with ⟨q1, q2⟩ | ⟨q1, q2, -⟩ <;> omega
theorem OkA.gd {A : Aut} (h : OkA A) : ∀ z ∈ A.gd, -10000 < z ∧ z < 10000 := fun z hz => by
  obtain ⟨i, hi⟩ := List.getElem?_of_mem hz
  have h1 := h.2.2 i z (List.getElem?_eq_some_iff.1 hi).1 hi
  have h2 := h.1
  unfold HeadP at h2
  exact h1.small (by omega) (by omega)
theorem OkA.nd {A : Aut} (h : OkA A) : ∀ x ∈ A.nd, SmallZ [x.1, x.2.1, x.2.2] := fun x hx => by
  obtain ⟨i, hi⟩ := List.getElem?_of_mem hx
  have hl := (List.getElem?_eq_some_iff.1 hi).1
  obtain ⟨k1, k2, -, k3, k4⟩ := h.2.1.1 i x hl hi
  have h2 := h.1
  unfold HeadP at h2
  have k3' := k3.small (by omega) (by omega)
  have k4' := k4.small (by omega) (by omega)
  intro z hz
  simp only [List.mem_cons, List.not_mem_nil, or_false] at hz
  rcases hz with rfl | rfl | rfl <;> omega
theorem lineB_any (H0 H : AHeap) (b : Nat) (s : List UInt8) (hB : BuildR H0 H b s) (he : Ext H0 H) (hw : Wf H) (hw0 : Wf H0) (hT : TabIn H0) (w : List UInt8) (hw1 : w ≠ []) (zs : List Int) (hz : SmallZ zs) (hn : zs.length ≤ 1000) (hl : s.length + w.length ≤ 2 ^ 30) :
    Does Tryd.prog orc 17 [.pointer (some ⟨b, 0, none⟩), .string (mkS w), .slice (some ⟨H.next, 0, none⟩) zs.length zs.length] (H.push (.cells (ints zs) 0 true)) fun r H' => r = .ret (.tuple #[]) ∧ BuildR H0 H' b (s ++ lineT w zs) ∧ Ext H0 H' ∧ Wf H' ∧ Frm rC b H H' := by
  have hb : b < H.next := by obtain ⟨p, v, h1, -⟩ := hB.there; exact hw.lt h1
  have hr : Row (H.push (.cells (ints zs) 0 true)) (some ⟨H.next, 0, none⟩) zs.length zs.length (ints zs) := Row.of_block (get_new _ _) (by simp) (Nat.le_refl _) (List.prefix_refl _)
  have hS : SafeR rC b (H.push (.cells (ints zs) 0 true)) (some ⟨H.next, 0, none⟩) := fun c o st e => by
    cases e
    exact ⟨_, get_new _ _, by omega, fun xs e => by injection e with _ e2 _; exact absurd e2 (by decide)⟩
  exact (line_any H0 _ b s (hB.ext hw (Ext.push _ _)) (he.trans (Ext.push _ _)) (hw.push _) hw0 hT w hw1 _ _ _ zs hr hS hz (by omega) hl).mono fun r H' ⟨q1, q2, q3, q4, q5⟩ => ⟨q1, q2, q3, q4, (Frm.of_ext hw (Ext.push _ _)).trans q5⟩
theorem recAuto_any (H : AHeap) (hw : Wf H) (hT : TabIn H) (A : Aut) (a1 a2 a3 : Option Addr) (n1 c1 n2 c2 n3 c3 : Nat) (R : AutR H A a1 n1 c1 a2 n2 c2 a3 n3 c3) (h1 : n1 ≤ 2 ^ 40) (h2 : n2 ≤ 2 ^ 40) (h3 : n3 ≤ 2 ^ 40) :
    Does Tryd.prog orc 7 [autV A a1 n1 c1 a2 n2 c2 a3 n3 c3] H fun r H' => r = .ret (.tuple #[.string (mkS (autT A)), .int .i64 (errA A)]) ∧ Ext H H' ∧ Wf H' := by
  have l1 := R.acc.len; simp at l1
  have l2 := R.gd.len; simp at l2
  have l3 := R.nd.len; simp at l3
  have hc1 := R.acc.cap
  have hc2 := R.gd.cap
  have hc3 := R.nd.cap
  refine Does.of Tryd.func7 (fun _ _ => rfl) rfl ?_
  have g0 := get_new H (.cells (autC A a1 n1 c1 a2 n2 c2 a3 n3 c3) 0 true)
  have w0 := hw.push (.cells (autC A a1 n1 c1 a2 n2 c2 a3 n3 c3) 0 true)
  have e0 := Ext.push H (.cells (autC A a1 n1 c1 a2 n2 c2 a3 n3 c3) 0 true)
  have q0 := cellAt_of g0 (o := 0) rfl
  have q1 := cellAt_of g0 (o := 1) rfl
  have q2 := cellAt_of g0 (o := 2) rfl
  have q3 := cellAt_of g0 (o := 3) rfl
  have qa := cellsAt_all g0 rfl (n := 4)
  have hck := check_any _ w0 A _ _ _ _ _ _ _ _ _ (R.ext hw e0) h1 h2 h3
  by_cases hok : OkA A
  case neg =>
    rw [errA_no hok] at hck ⊢
    repeat' ((conv => whnf); first
      | (refine Both.intro ?_ ?_ <;> intro _ <;> try (exfalso; omega))
      | (refine Need.intro (by omega) ?_)
      | (refine ⟨_, qa, ?_⟩)
      | (refine Does.mono hck ?_ ; rintro _ H1 ⟨rfl, e1, w1⟩)
      | fail)
    all_goals (conv => whnf)
    exact ⟨by unfold autT; rw [if_neg hok]; rfl, e0.trans e1, w1⟩
  rw [errA_ok hok] at hck ⊢
  have hgd := hok.gd
  have hnd := hok.nd
  have hHd := hok.1
  unfold HeadP at hHd
  repeat' ((conv => whnf); first
    | (refine Both.intro ?_ ?_ <;> intro _ <;> try (exfalso; omega))
    | (refine Need.intro (by omega) ?_)
    | (refine ⟨_, qa, ?_⟩)
    | (refine Does.mono hck ?_ ; rintro _ H1 ⟨rfl, e1, w1⟩)
    | (refine Gives.intro ⟨.agg #[.pointer none, .slice none 0 0], by kernel_rfl, ?_⟩)
    | fail)
  all_goals (conv => whnf)
  obtain ⟨HB, hHB⟩ : ∃ X, X = H1.push (.cells (Value.agg #[.pointer none, .slice none 0 0]).cells.toList (typedV 50) true) := ⟨_, rfl⟩
  have eB : Ext H1 HB := by rw [hHB]; exact Ext.push _ _
  have wB : Wf HB := by rw [hHB]; exact w1.push _
  have gB : HB.get H1.next = some (.cells [.pointer none, .slice none 0 0] bC true) := by rw [hHB]; exact get_new _ _
  have B0 : BuildR H1 HB H1.next [] := ⟨⟨none, .slice none 0 0, gB, .inl rfl, .inl ⟨rfl, rfl⟩⟩, Nat.le_refl _⟩
  have T1 : TabIn H1 := hT.ext hw (e0.trans e1)
  have eA := e1.trans eB
  have p0 := cellAt_ext w0 eA q0
  have p1 := cellAt_ext w0 eA q1
  have p3 := cellAt_ext w0 eA q3
  rw [← hHB]
  have hz0 : SmallZ [A.pr, ((n1 : Nat) : Int), ((n3 : Nat) : Int)] := fun z hz => by
    simp only [List.mem_cons, List.not_mem_nil, or_false] at hz
    rcases hz with rfl | rfl | rfl <;> omega
  have wH1 := w1
  have dl := lineB_any H1 HB H1.next [] B0 eB wB wH1 T1 [97, 117, 116, 111] (by simp) [A.pr, (n1 : Nat), (n3 : Nat)] hz0 (by simp) (by simp)
  repeat' ((conv => whnf); first
    | (refine Both.intro ?_ ?_ <;> intro _ <;> try (exfalso; omega))
    | (refine Need.intro (by omega) ?_)
    | (refine ⟨_, p0, ?_⟩)
    | (refine ⟨_, p1, ?_⟩)
    | (refine ⟨_, p3, ?_⟩)
    | (refine ⟨ints [A.pr, (n1 : Nat), (n3 : Nat)], by kernel_rfl, ?_⟩)
    | (refine Does.mono dl ?_ ; rintro _ H2 ⟨rfl, B2, e2, w2, f2⟩)
    | fail)
  all_goals (conv => whnf)
  have hhead : ([] : List UInt8) ++ lineT [97, 117, 116, 111] [A.pr, (n1 : Nat), (n3 : Nat)] = headT A := by unfold headT; rw [← l1, ← l3]; rfl
  rw [hhead] at B2
  have p2 := cellAt_ext w0 (e1.trans e2) q2
  repeat' ((conv => whnf); first
    | (refine Both.intro ?_ ?_ <;> intro _ <;> try (exfalso; omega))
    | (refine Need.intro (by omega) ?_)
    | (refine ⟨_, p2, ?_⟩)
    | fail)
  all_goals (conv => whnf)
  have hHl : (headT A).length ≤ 100 := by
    have := lineT_len (w := [97, 117, 116, 111]) hz0
    rw [← hhead]; simp at this ⊢; omega
  have hzl : (A.acc.zip A.gd).length = n2 := by rw [List.length_zip]; omega
  have hzs : ∀ p ∈ A.acc.zip A.gd, SmallZ [p.2] := fun p hp z hz => by
    simp only [List.mem_singleton] at hz
    subst hz
    exact hgd _ (List.of_mem_zip hp).2
  refine Runs.loop (fun k : Nat => [(29, .int .i64 k), (28, .int .i64 n2), (27, .slice a2 n2 c2), (5, .pointer (some ⟨H1.next, 0, none⟩)), (1, .pointer (some ⟨H.next, 0, none⟩))])
    (fun k H' => k ≤ n2 ∧ BuildR H1 H' H1.next (headT A ++ stT ((A.acc.zip A.gd).take k)) ∧ Ext H1 H' ∧ Wf H') (fun k => n2 - k) 0 ⟨rfl, rfl, rfl, rfl, rfl, trivial⟩
    ⟨by omega, by simpa [stT] using B2, e2, w2⟩ ?_
  rintro k H3 ⟨hk, B3, e3, w3⟩
  have hsl : (headT A ++ stT ((A.acc.zip A.gd).take k)).length ≤ 2 ^ 20 := by
    have := stT_len (l := (A.acc.zip A.gd).take k) fun p hp => hzs p (List.mem_of_mem_take hp)
    rw [List.length_take] at this
    rw [List.length_append]; omega
  by_cases hlt : k < n2
  · obtain ⟨z, hx⟩ := get_of (l := A.gd) (k := k) (by omega)
    obtain ⟨y, hy⟩ := get_of (l := A.acc) (k := k) (by omega)
    have hp : (A.acc.zip A.gd)[k]? = some (y, z) := by rw [List.getElem?_zip_eq_some]; exact ⟨hy, hx⟩
    obtain ⟨b2, o2, st2, ha2, hcell⟩ := (R.gd.ext hw (e0.trans (e1.trans e3))).cell k (.int .i64 z) (by simp [ints, hx])
    obtain ⟨b1, o1, st1, ha1, hcellb⟩ := (R.acc.ext hw (e0.trans (e1.trans e3))).cell k (.bool y) (by simp [bools, hy])
    subst ha1 ha2
    have u1 := cellAt_ext w0 (e1.trans e3) q1
    have hs1 := sgT_len y
    have dl2 := lineB_any H1 H3 H1.next _ B3 e3 w3 wH1 T1 (sgT y) (by intro e; rw [e] at hs1; cases hs1) [z] (fun x hx' => by simp only [List.mem_singleton] at hx'; subst hx'; exact hgd _ (List.mem_of_getElem? hx)) (by simp) (by omega)
    cases y
    · skip
      repeat' ((conv => whnf); first
        | (refine Both.intro ?_ ?_ <;> intro _ <;> try (exfalso; omega))
        | (refine Need.intro (by omega) ?_)
        | (refine ⟨_, hcell, ?_⟩)
        | (refine ⟨_, u1, ?_⟩)
        | (refine ⟨_, hcellb, ?_⟩)
        | (refine ⟨ints [z], by kernel_rfl, ?_⟩)
        | (refine Does.mono dl2 ?_ ; rintro _ H4 ⟨rfl, B4, e4, w4, f4⟩)
        | fail)
      all_goals (conv => whnf)
      exact ⟨k + 1, ⟨rfl, rfl, rfl, rfl, rfl, trivial⟩, ⟨by omega, by rw [stT_take hp, ← List.append_assoc]; exact B4, e4, w4⟩, by omega⟩
    · skip
      repeat' ((conv => whnf); first
        | (refine Both.intro ?_ ?_ <;> intro _ <;> try (exfalso; omega))
        | (refine Need.intro (by omega) ?_)
        | (refine ⟨_, hcell, ?_⟩)
        | (refine ⟨_, u1, ?_⟩)
        | (refine ⟨_, hcellb, ?_⟩)
        | (refine ⟨ints [z], by kernel_rfl, ?_⟩)
        | (refine Does.mono dl2 ?_ ; rintro _ H4 ⟨rfl, B4, e4, w4, f4⟩)
        | fail)
      all_goals (conv => whnf)
      exact ⟨k + 1, ⟨rfl, rfl, rfl, rfl, rfl, trivial⟩, ⟨by omega, by rw [stT_take hp, ← List.append_assoc]; exact B4, e4, w4⟩, by omega⟩
  · obtain rfl : k = n2 := by omega
    rw [List.take_of_length_le (by omega)] at B3 hsl
    have u3 := cellAt_ext w0 (e1.trans e3) q3
    repeat' ((conv => whnf); first
      | (refine Both.intro ?_ ?_ <;> intro _ <;> try (exfalso; omega))
      | (refine Need.intro (by omega) ?_)
      | (refine ⟨_, u3, ?_⟩)
      | fail)
    all_goals (conv => whnf)
    refine Runs.loop (fun i : Nat => [(47, .int .i64 i), (46, .int .i64 n3), (45, .slice a3 n3 c3), (5, .pointer (some ⟨H1.next, 0, none⟩))])
      (fun i H' => i ≤ n3 ∧ BuildR H1 H' H1.next (headT A ++ stT (A.acc.zip A.gd) ++ ndT (A.nd.take i)) ∧ Ext H1 H' ∧ Wf H') (fun i => n3 - i) 0 ⟨rfl, rfl, rfl, rfl, trivial⟩
      ⟨by omega, by simpa [ndT] using B3, e3, w3⟩ ?_
    rintro i H5 ⟨hi, B5, e5, w5⟩
    have hsl5 : (headT A ++ stT (A.acc.zip A.gd) ++ ndT (A.nd.take i)).length ≤ 2 ^ 22 := by
      have := ndT_len (l := A.nd.take i) fun p hp => hnd p (List.mem_of_mem_take hp)
      rw [List.length_take] at this
      rw [List.length_append]; omega
    by_cases hlt3 : i < n3
    · obtain ⟨x, hx⟩ := get_of (l := A.nd) (k := i) (by omega)
      obtain ⟨b, o, st, rfl, hcell⟩ := (R.nd.ext hw (e0.trans (e1.trans e5))).cell i (ndC x) (by simp [hx])
      have hxs := hnd x (List.mem_of_getElem? hx)
      obtain ⟨T, hT5⟩ : ∃ T, T = (H5.push (.cells [.int .i64 0, .int .i64 0, .int .i64 0] (typedV 53) true)).set H5.next (.cells (ndC x) (typedV 53) true) := ⟨_, rfl⟩
      have gp := get_new H5 (.cells [.int .i64 0, .int .i64 0, .int .i64 0] (typedV 53) true)
      have eT : Ext H5 T := by rw [hT5]; exact (Ext.push _ _).set (Nat.le_refl _) _
      have wT : Wf T := by rw [hT5]; exact (w5.push _).set gp _
      have gT : T.get H5.next = some (.cells (ndC x) (typedV 53) true) := by rw [hT5, AHeap.get_set, if_pos rfl]
      have t0 := cellAt_of gT (o := 0) rfl
      have t1 := cellAt_of gT (o := 1) rfl
      have t2 := cellAt_of gT (o := 2) rfl
      have hst := storeAgg_ok (P := Tryd.prog) (t := 53) (vs := ndC x) (by kernel_rfl) rfl gp rfl
      rw [← hT5] at hst
      have hil := itoa_len x.1 (hxs x.1 (by simp)).1 (hxs x.1 (by simp)).2
      have hnb : H5.next ≠ H1.next := by have := eB.next; have := e5.next; have := w5.lt (B5.there.choose_spec.choose_spec.1); omega
      repeat' ((conv => whnf); first
        | (refine Both.intro ?_ ?_ <;> intro _ <;> try (exfalso; omega))
        | (refine Need.intro (by omega) ?_)
        | (refine ⟨_, hcell, ?_⟩)
        | (refine Gives.intro ⟨.agg (ndC x).toArray, rfl, ?_⟩)
        | (refine Gives.intro ⟨.agg #[.int .i64 0, .int .i64 0, .int .i64 0], by kernel_rfl, ?_⟩)
        | (refine Outs.intro ⟨_, _, _, hst, ?_⟩)
        | (refine ⟨_, t0, ?_⟩)
        | (refine Does.mono (itoa_any T wT (T1.ext wH1 (e5.trans eT)) x.1 (hxs x.1 (by simp)).1 (hxs x.1 (by simp)).2) ?_ ; rintro _ H6 ⟨rfl, e6, w6⟩ ; have v1 := cellAt_ext wT e6 t1 ; have v2 := cellAt_ext wT e6 t2 ; have dl3 := lineB_any H1 H6 H1.next _ (B5.ext w5 (eT.trans e6)) (e5.trans (eT.trans e6)) w6 wH1 T1 (Lib.itoa x.1) (itoa_ne _) [x.2.1, x.2.2] (fun z hz => hxs z (by simp only [List.mem_cons] at hz ⊢; exact .inr hz)) (by simp) (by omega))
        | (refine ⟨_, v1, ?_⟩)
        | (refine ⟨_, v2, ?_⟩)
        | (refine ⟨ints [x.2.1, x.2.2], by kernel_rfl, ?_⟩)
        | (refine Does.mono dl3 ?_ ; rintro _ H7 ⟨rfl, B7, e7, w7, f7⟩)
        | fail)
      all_goals (conv => whnf)
      have g6 : H6.get H5.next = some (.cells (ndC x) (typedV 53) true) := by rw [e6.get _ (wT.lt gT)]; exact gT
      have dk1 : H6.get H5.next = T.get H5.next := g6.trans gT.symm
      have dk2 : H7.get H5.next = (H6.push (.cells (ints [x.2.1, x.2.2]) 0 true)).get H5.next := by
        rw [f7.get _ _ g6 hnb (fun xs e => by injection e with _ e2 _; exact absurd e2 (by decide)), (Ext.push H6 _).get _ (w6.lt g6), g6]
      refine Need.intro (draw_in (fun b => b = H5.next) (by (simp only [effIn]; repeat' apply And.intro) <;> first | exact True.intro | (rintro b rfl; first | exact dk1 | exact dk2)) (by (simp only [lookIn]; repeat' apply And.intro) <;> first | exact True.intro | rfl) (by kernel_rfl)) ?_
      repeat' ((conv => whnf); first
        | (refine Both.intro ?_ ?_ <;> intro _ <;> try (exfalso; omega))
        | (refine Need.intro (by omega) ?_)
        | (skip ; fail)
        | fail)
      all_goals (conv => whnf)
      exact ⟨i + 1, ⟨rfl, rfl, rfl, rfl, trivial⟩, ⟨by omega, by rw [ndT_take hx, ← List.append_assoc]; exact B7, e7, w7⟩, by omega⟩
    · obtain rfl : i = n3 := by omega
      rw [List.take_of_length_le (by omega)] at B5 hsl5
      repeat' ((conv => whnf); first
        | (refine Both.intro ?_ ?_ <;> intro _ <;> try (exfalso; omega))
        | (refine Need.intro (by omega) ?_)
        | (refine Does.mono (string_any H1 H5 H1.next _ B5 e5 w5 (by unfold headT lineT; simp) (by omega)) ?_ ; rintro _ H6 ⟨rfl, e6, w6⟩)
        | fail)
      all_goals (conv => whnf)
      exact ⟨by unfold autT; rw [if_pos hok]; rfl, e0.trans (e1.trans e6), w6⟩
end Go.AX.Tryd
