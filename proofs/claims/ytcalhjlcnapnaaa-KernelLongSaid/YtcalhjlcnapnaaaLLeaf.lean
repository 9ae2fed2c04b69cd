/- kernel.leaf. -/
import Derived.Test.YtcalhjlcnapnaaaLMeas
namespace Go.AX.Try
open Go Go.AX Go.AX.Lw Go.Proofs
set_option linter.unusedVariables false
set_option linter.unusedSimpArgs false
set_option maxRecDepth 100000
/-- A part's two forms. -/
structure Pr where
  yes : List Tk
  no : List Tk
def leafP (t : Tk) : Pr :=
  if t.op = 0 then ⟨[t], [opT 1]⟩ else
  if t.op = 1 then ⟨[t], [opT 0]⟩ else
  if t.op = 4 then ⟨[t], [opT 5]⟩ else
  if t.op = 5 then ⟨[t], [opT 4]⟩ else
  if t.op = 2 then ⟨[t], [t, opT 6]⟩ else ⟨[opT 4, opT 1, opT 8, opT 11], [opT 5, opT 0, opT 7, opT 12]⟩
/-- A value of two slices that holds both forms. -/
def PrS (S : Nat → Prop) (H : AHeap) (v : Value) (x : Pr) : Prop := ∃ v1 v2, v = .agg #[v1, v2] ∧ FmS S H v1 x.yes ∧ FmS S H v2 x.no
/-- Tokens that lie in a block. -/
theorem fmS_block {S : Nat → Prop} {H : AHeap} {b n : Nat} {l : List Tk} {e : Nat} (hg : H.get b = some (.cells (l.map Tk.cells).flatten e true)) (hn : n = l.length) (hS : S b) : FmS S H (.slice (some ⟨b, 0, none⟩) n n) l :=
  ⟨_, _, _, rfl, ⟨by simp [hn], Nat.le_refl _, tk_two l, fun i x hx => ⟨_, _, _, rfl, by rw [Nat.zero_add]; exact flat_cells (c := 0) hg (tk_two l) (List.prefix_refl _) hx⟩⟩, fun b' o s h => by cases h; exact hS⟩
set_option maxHeartbeats 4000000 in
theorem kleaf_any (H : AHeap) (hw : Wf H) (t : Tk) : Does Try.prog orc 90 [.agg #[.int .u8 t.op, .int .u8 t.p]] H fun r H' => ∃ v, r = .ret v ∧ PrS (New H H') H' v (leafP t) ∧ Ext H H' ∧ Wf H' := by
  have hz : zeroOf Try.prog 78 = some (.agg #[.slice none 0 0, .slice none 0 0]) := by kernel_rfl
  have hs1 : ∀ x p : Nat, aBuildSlice Try.prog 22 1 [(0, .agg #[.int .u8 x, .int .u8 p])] = mkSlice [.int .u8 x, .int .u8 p] 1 1 := fun x p => by kernel_rfl
  have hb2 : ∀ (a b : Option Addr) (n m c d : Nat), aBuild Try.prog 78 [(0, .slice a n c), (1, .slice b m d)] = some (.agg #[.slice a n c, .slice b m d]) := fun a b n m c d => by kernel_rfl
  have hg2 : ((H.push (.cells t.cells 0 true)).push (.cells [.slice none 0 0, .slice none 0 0] (typedV 78) true)).get H.next = some (.cells t.cells 0 true) := by
    rw [AHeap.get_push, if_neg (by simp), get_new]
  have hg4 := get_new (H.push (.cells t.cells 0 true)) (.cells [.slice none 0 0, .slice none 0 0] (typedV 78) true)
  have hw2 := (hw.push (.cells t.cells 0 true)).push (.cells [.slice none 0 0, .slice none 0 0] (typedV 78) true)
  have he2 := (Ext.push H (.cells t.cells 0 true)).trans (Ext.push _ (.cells [.slice none 0 0, .slice none 0 0] (typedV 78) true))
  have c0 := cellAt_of hg2 (o := 0) (v := .int .u8 t.op) rfl
  have qa := cellsAt_all (n := 2) hg2 rfl
  have w3 := hw2.push (.cells t.cells 0 true)
  have e3 := he2.trans (Ext.push _ (.cells t.cells 0 true))
  have g5 := get_new ((H.push (.cells t.cells 0 true)).push (.cells [.slice none 0 0, .slice none 0 0] (typedV 78) true)) (.cells t.cells 0 true)
  have cX : ∀ X, Ext ((H.push (.cells t.cells 0 true)).push (.cells [.slice none 0 0, .slice none 0 0] (typedV 78) true)) X → cellAt X H.next (0 + 0) = some (.int .u8 t.op) := fun X e => cellAt_ext hw2 e c0
  have gX : ∀ X, Ext ((H.push (.cells t.cells 0 true)).push (.cells [.slice none 0 0, .slice none 0 0] (typedV 78) true)) X → X.get (H.push (.cells t.cells 0 true)).next = some (.cells [.slice none 0 0, .slice none 0 0] (typedV 78) true) := fun X e => (e.get _ (by simp)).trans hg4
  have fin : ∀ (H5 : AHeap) (e5 : Ext (((H.push (.cells t.cells 0 true)).push (.cells [.slice none 0 0, .slice none 0 0] (typedV 78) true)).push (.cells t.cells 0 true)) H5) (w5 : Wf H5) (v1 v2 : Value) (l : List Tk),
      FmS (New H ((H5.push (.cells (l.map Tk.cells).flatten 0 true)).set (H.push (.cells t.cells 0 true)).next (.cells [v1, v2] (typedV 78) true))) ((H5.push (.cells (l.map Tk.cells).flatten 0 true)).set (H.push (.cells t.cells 0 true)).next (.cells [v1, v2] (typedV 78) true)) (.slice (some ⟨((H.push (.cells t.cells 0 true)).push (.cells [.slice none 0 0, .slice none 0 0] (typedV 78) true)).next, 0, none⟩) 1 1) [t] ∧ FmS (New H ((H5.push (.cells (l.map Tk.cells).flatten 0 true)).set (H.push (.cells t.cells 0 true)).next (.cells [v1, v2] (typedV 78) true))) ((H5.push (.cells (l.map Tk.cells).flatten 0 true)).set (H.push (.cells t.cells 0 true)).next (.cells [v1, v2] (typedV 78) true)) (.slice (some ⟨H5.next, 0, none⟩) l.length l.length) l ∧
      Ext H ((H5.push (.cells (l.map Tk.cells).flatten 0 true)).set (H.push (.cells t.cells 0 true)).next (.cells [v1, v2] (typedV 78) true)) ∧ Wf ((H5.push (.cells (l.map Tk.cells).flatten 0 true)).set (H.push (.cells t.cells 0 true)).next (.cells [v1, v2] (typedV 78) true)) := fun H5 e5 w5 v1 v2 l => by
    have n5 := e5.next
    simp at n5
    refine ⟨fmS_block (e := 0) ?_ rfl ⟨by first | omega | (simp; done) | (simp; omega), by first | omega | (simp; done) | (simp; omega)⟩, fmS_block (e := 0) ?_ rfl ⟨by first | omega | (simp; done) | (simp; omega), by first | omega | (simp; done) | (simp; omega)⟩, ((e3.trans e5).trans (Ext.push _ _)).set (by simp) _, (w5.push _).set (gX _ (((Ext.push _ _).trans e5).trans (Ext.push _ _))) _⟩
    · rw [AHeap.get_set, if_neg (by simp), AHeap.get_push, if_neg (by simp; omega), e5.get _ (by simp), g5]; rfl
    · rw [AHeap.get_set, if_neg (by simp; omega), get_new]
  refine Does.of Try.func90 (fun _ _ => rfl) rfl ?_
  obtain ⟨op, p⟩ := t
  dsimp only at cX ⊢
  by_cases h4 : op = 0 ∨ op = 1 ∨ op = 4 ∨ op = 5
  · rcases h4 with rfl | rfl | rfl | rfl
    repeat' ((conv => whnf); first
      | (refine Both.intro ?_ ?_ <;> intro _ <;> try (exfalso; omega))
      | (refine Need.intro (by omega) ?_)
      | (refine Gives.intro ⟨_, hz, ?_⟩)
      | (refine ⟨_, qa, ?_⟩)
      | (refine ⟨_, hs1 _ _, ?_⟩)
      | (refine ⟨_, cX _ (by repeat (first | exact Ext.refl _ | refine Ext.trans ?_ (Ext.push _ _))), ?_⟩)
      | (refine Does.mono (tok_any _ w3 _) ?_ ; rintro _ H5 ⟨rfl, e5, w5⟩)
      | (refine Gives.intro ⟨_, hb2 _ _ _ _ _ _, ?_⟩)
      | (refine Outs.intro ⟨_, _, _, storeAgg_ok (vs := [.slice _ _ _, .slice _ _ _]) (by kernel_rfl) rfl (gX _ (((Ext.push _ _).trans e5).trans (Ext.push _ _))) rfl, ?_⟩)
      | (refine ⟨_, cellsAt_all (n := 2) (by rw [AHeap.get_set, if_pos rfl]) rfl, ?_⟩)
      | fail)
    all_goals (conv => whnf)
    · exact ⟨_, rfl, ⟨_, _, rfl, (fin H5 e5 w5 _ _ [opT 1]).1, (fin H5 e5 w5 _ _ [opT 1]).2.1⟩, (fin H5 e5 w5 _ _ [opT 1]).2.2.1, (fin H5 e5 w5 _ _ [opT 1]).2.2.2⟩
    · exact ⟨_, rfl, ⟨_, _, rfl, (fin H5 e5 w5 _ _ [opT 0]).1, (fin H5 e5 w5 _ _ [opT 0]).2.1⟩, (fin H5 e5 w5 _ _ [opT 0]).2.2.1, (fin H5 e5 w5 _ _ [opT 0]).2.2.2⟩
    · exact ⟨_, rfl, ⟨_, _, rfl, (fin H5 e5 w5 _ _ [opT 5]).1, (fin H5 e5 w5 _ _ [opT 5]).2.1⟩, (fin H5 e5 w5 _ _ [opT 5]).2.2.1, (fin H5 e5 w5 _ _ [opT 5]).2.2.2⟩
    · exact ⟨_, rfl, ⟨_, _, rfl, (fin H5 e5 w5 _ _ [opT 4]).1, (fin H5 e5 w5 _ _ [opT 4]).2.1⟩, (fin H5 e5 w5 _ _ [opT 4]).2.2.1, (fin H5 e5 w5 _ _ [opT 4]).2.2.2⟩
  · by_cases h2 : op = 2
    · subst h2
      have hs2 : ∀ x p y q : Nat, aBuildSlice Try.prog 22 2 [(0, .agg #[.int .u8 x, .int .u8 p]), (1, .agg #[.int .u8 y, .int .u8 q])] = mkSlice [.int .u8 x, .int .u8 p, .int .u8 y, .int .u8 q] 2 2 := fun x p y q => by kernel_rfl
      repeat' ((conv => whnf); first
        | (refine Both.intro ?_ ?_ <;> intro _ <;> try (exfalso; omega))
        | (refine Need.intro (by omega) ?_)
        | (refine Gives.intro ⟨_, hz, ?_⟩)
        | (refine ⟨_, qa, ?_⟩)
        | (refine ⟨_, hs1 _ _, ?_⟩)
        | (refine ⟨_, cX _ (by repeat (first | exact Ext.refl _ | refine Ext.trans ?_ (Ext.push _ _))), ?_⟩)
        | (refine ⟨_, cellsAt_ext hw2 (Ext.push _ _) qa, ?_⟩)
        | (refine Does.mono (tok_any _ w3 _) ?_ ; rintro _ H5 ⟨rfl, e5, w5⟩)
        | (refine ⟨_, hs2 _ _ _ _, ?_⟩)
        | (refine Gives.intro ⟨_, hb2 _ _ _ _ _ _, ?_⟩)
        | (refine Outs.intro ⟨_, _, _, storeAgg_ok (vs := [.slice _ _ _, .slice _ _ _]) (by kernel_rfl) rfl (gX _ (((Ext.push _ _).trans e5).trans (Ext.push _ _))) rfl, ?_⟩)
        | (refine ⟨_, cellsAt_all (n := 2) (by rw [AHeap.get_set, if_pos rfl]) rfl, ?_⟩)
        | (refine Need.intro (draw_mix ⟨⟨.inr (.inl (by kernel_rfl)), .inl (by kernel_rfl), True.intro⟩, ⟨.inl rfl, .inr (look_ext e5 (by simp; omega)), True.intro⟩, True.intro⟩) ?_)
        | fail)
      all_goals (conv => whnf)
      exact ⟨_, rfl, ⟨_, _, rfl, (fin H5 e5 w5 _ _ [⟨2, p⟩, opT 6]).1, (fin H5 e5 w5 _ _ [⟨2, p⟩, opT 6]).2.1⟩, (fin H5 e5 w5 _ _ [⟨2, p⟩, opT 6]).2.2.1, (fin H5 e5 w5 _ _ [⟨2, p⟩, opT 6]).2.2.2⟩
    · have hl : leafP ⟨op, p⟩ = ⟨[opT 4, opT 1, opT 8, opT 11], [opT 5, opT 0, opT 7, opT 12]⟩ := by
        unfold leafP; dsimp only; rw [if_neg (by omega), if_neg (by omega), if_neg (by omega), if_neg (by omega), if_neg h2]
      have hs4 : ∀ x y z w : Nat, aBuildSlice Try.prog 22 4 [(0, .agg #[.int .u8 x, .int .u8 0]), (1, .agg #[.int .u8 y, .int .u8 0]), (2, .agg #[.int .u8 z, .int .u8 0]), (3, .agg #[.int .u8 w, .int .u8 0])] = mkSlice [.int .u8 x, .int .u8 0, .int .u8 y, .int .u8 0, .int .u8 z, .int .u8 0, .int .u8 w, .int .u8 0] 4 4 := fun x y z w => by kernel_rfl
      rw [hl]
      repeat' ((conv => whnf); first
        | (refine Both.intro ?_ ?_ <;> intro _ <;> try (exfalso; omega))
        | (refine Need.intro (by omega) ?_)
        | (refine Gives.intro ⟨_, hz, ?_⟩)
        | (refine ⟨_, qa, ?_⟩)
        | (refine ⟨_, hs1 _ _, ?_⟩)
        | (refine ⟨_, cX _ (by repeat (first | exact Ext.refl _ | refine Ext.trans ?_ (Ext.push _ _))), ?_⟩)
        | (refine Does.mono (tok_any _ w3 _) ?_ ; rintro _ T1 ⟨rfl, a1, u1⟩)
        | (refine Does.mono (tok_any T1 u1 _) ?_ ; rintro _ T2 ⟨rfl, a2, u2⟩)
        | (refine Does.mono (tok_any T2 u2 _) ?_ ; rintro _ T3 ⟨rfl, a3, u3⟩)
        | (refine Does.mono (tok_any T3 u3 _) ?_ ; rintro _ T4 ⟨rfl, a4, u4⟩)
        | (refine ⟨_, hs4 _ _ _ _, ?_⟩)
        | (refine Does.mono (tok_any _ (u4.push _) _) ?_ ; rintro _ T5 ⟨rfl, a5, u5⟩)
        | (refine Does.mono (tok_any T5 u5 _) ?_ ; rintro _ T6 ⟨rfl, a6, u6⟩)
        | (refine Does.mono (tok_any T6 u6 _) ?_ ; rintro _ T7 ⟨rfl, a7, u7⟩)
        | (refine Does.mono (tok_any T7 u7 _) ?_ ; rintro _ T8 ⟨rfl, a8, u8⟩)
        | (refine Gives.intro ⟨_, hb2 _ _ _ _ _ _, ?_⟩)
        | (refine Outs.intro ⟨_, _, _, storeAgg_ok (vs := [.slice _ _ _, .slice _ _ _]) (by kernel_rfl) rfl (gX _ ((((((((((Ext.push _ _).trans a1).trans a2).trans a3).trans a4).trans (Ext.push _ _)).trans a5).trans a6).trans a7).trans (a8.trans (Ext.push _ _)))) rfl, ?_⟩)
        | (refine ⟨_, cellsAt_all (n := 2) (by rw [AHeap.get_set, if_pos rfl]) rfl, ?_⟩)
        | fail)
      all_goals (conv => whnf)
      have E4 := (((e3.trans a1).trans a2).trans a3).trans a4
      have n4 := ((a1.trans a2).trans (a3.trans a4)).next
      simp at n4
      have e58 := (a5.trans a6).trans (a7.trans a8)
      have n8 := e58.next
      simp at n8
      refine ⟨_, rfl, ⟨_, _, rfl, fmS_block (e := 0) ?_ rfl ⟨by first | omega | (simp; done) | (simp; omega), by first | omega | (simp; done) | (simp; omega)⟩, fmS_block (e := 0) ?_ rfl ⟨by first | omega | (simp; done) | (simp; omega), by first | omega | (simp; done) | (simp; omega)⟩⟩, (((E4.trans (Ext.push _ _)).trans e58).trans (Ext.push _ _)).set (by simp) _, (u8.push _).set (gX _ ((((((((((Ext.push _ _).trans a1).trans a2).trans a3).trans a4).trans (Ext.push _ _)).trans a5).trans a6).trans a7).trans (a8.trans (Ext.push _ _)))) _⟩
      · rw [AHeap.get_set, if_neg (by simp; omega), AHeap.get_push, if_neg (by first | omega | (simp; omega)), e58.get _ (by simp), get_new]; rfl
      · rw [AHeap.get_set, if_neg (by simp; omega), get_new]; rfl
end Go.AX.Try
