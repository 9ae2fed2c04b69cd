/- SessionNone over any text: a session that is nil, or that nobody made, tells nothing. -/
import Derived.Test.YthmoppbejboeeaaGreatDoorLTabs
namespace Go.AX
open Go
set_option linter.unusedVariables false
variable {P : Program}
theorem str_to {t : TypeId} (ht : P.underlying t = some .string) (s : ByteArray) {m : Nat} {i : Int} (hi : i = m) (hm : m ≤ s.size) : aSlice P t (.string s) none (some (.int .i64 i)) none = some (.string (s.extract 0 m)) := by
  subst hi
  unfold aSlice
  simp only [ht, aBound]
  rw [if_pos (by omega)]
  simp only [Int.toNat_natCast]
theorem str_from {t : TypeId} (ht : P.underlying t = some .string) (s : ByteArray) {m : Nat} {i : Int} (hi : i = m) (hm : m ≤ s.size) : aSlice P t (.string s) (some (.int .i64 i)) none none = some (.string (s.extract m s.size)) := by
  subst hi
  unfold aSlice
  simp only [ht, aBound]
  rw [if_pos (by omega)]
  simp only [Int.toNat_natCast]
/-- A drawn region whose effects turn nothing. -/
def effStill : List (Nat × Ev) → Prop
  | [] => True
  | (_, .eff H H') :: r => H = H' ∧ effStill r
  | (_, .make _ _) :: r => False
  | _ :: r => effStill r
theorem effStill_mem : ∀ {l : List (Nat × Ev)}, effStill l → ∀ x ∈ l, (∀ H H', x.2 = .eff H H' → H = H') ∧ ∀ b o, x.2 ≠ .make b o
  | [], _, x, hx => by cases hx
  | (i, e) :: r, h, x, hx => by
    cases e with
    | eff H H' =>
      rcases List.mem_cons.1 hx with rfl | hx
      · exact ⟨fun A B he => by cases he; exact h.1, fun b o he => by cases he⟩
      · exact effStill_mem h.2 x hx
    | make _ _ => exact h.elim
    | quiet =>
      rcases List.mem_cons.1 hx with rfl | hx
      · exact ⟨fun A B he => (by cases he), fun b o he => by cases he⟩
      · exact effStill_mem (l := r) h x hx
    | look _ _ _ =>
      rcases List.mem_cons.1 hx with rfl | hx
      · exact ⟨fun A B he => (by cases he), fun b o he => by cases he⟩
      · exact effStill_mem (l := r) h x hx
theorem draw_still {ops : Array Oper} {tr : List (Nat × Ev)} (h : effStill tr) : DrawP ops tr := by
  refine ⟨?_⟩
  unfold drawOk
  simp only [List.all_eq_true]
  rintro ⟨i, e⟩ hx ⟨j, f⟩ hy
  have h1 := effStill_mem h _ hx
  have h2 := effStill_mem h _ hy
  cases f with
  | eff H H' =>
    obtain rfl := h2.1 H H' rfl
    cases e with
    | look b o n => simp [evOk, lookOk]
    | make b o => exact absurd rfl (h1.2 b o)
    | _ => rfl
  | _ => cases e <;> rfl
end Go.AX
namespace Go.AX.Tryz
open Go Go.AX Go.AX.Lw Go.Proofs
set_option linter.unusedVariables false
set_option linter.unusedSimpArgs false
set_option maxRecDepth 100000
def nl : ByteArray := ⟨#[10]⟩
theorem ptr_same : aBin Tryz.prog .eql 22 false true (.pointer none) (.pointer none) = some (.bool true) := by kernel_rfl
theorem ptr_other (b : Nat) : aBin Tryz.prog .eql 22 false true (.pointer (some ⟨b, 0, none⟩)) (.pointer none) = some (.bool false) := by kernel_rfl
theorem map_same : aBin Tryz.prog .eql 23 false true (.map none) (.map none) = some (.bool true) := by kernel_rfl
theorem index_any (H : AHeap) (s t : ByteArray) (c : UInt8) (ht : t.data.toList = [c]) : Does Tryz.prog orc 22 [.string s, .string t] H fun r H' => r = .ret (.int .i64 (Lib.indexByte s.data.toList c)) ∧ H = H' := by
  refine Does.known (r := .ret (.int .i64 (Lib.indexByte s.data.toList c))) (H' := H) ?_ ⟨rfl, rfl⟩
  show (match primA Tryz.prog .index [.string s, .string t] H with | some x => some (CRes.ret x.1, x.2) | none => none) = _
  simp only [primA, ht]
theorem lcut_any (H : AHeap) (s : ByteArray) (hs : s.size ≤ 9223372036854775807) : Does Tryz.prog orc 14 [.string s, .string nl] H fun r H' => ∃ a b ok, r = .ret (.tuple #[.string a, .string b, .bool ok]) ∧ (s.size ≠ 0 → b.size < s.size) ∧ H = H' := by
  have hix := index_any H s nl 10 rfl
  have hge := Lib.indexByte_ge s.data.toList 10
  have hnl : nl.size = 1 := rfl
  refine Does.of Tryz.func14 (fun _ _ => rfl) rfl ?_
  by_cases h : Lib.indexByte s.data.toList 10 = -1
  · rw [h] at hix
    repeat' ((conv => whnf); first
      | (refine Both.intro ?_ ?_ <;> intro _ <;> try (exfalso; omega))
      | (refine Need.intro (by omega) ?_)
      | (refine Does.mono hix ?_ ; rintro _ _ ⟨rfl, rfl⟩)
      | fail)
    all_goals (conv => whnf)
    exact ⟨_, _, _, rfl, fun h => Nat.pos_of_ne_zero h, rfl⟩
  · obtain ⟨m, hm⟩ : ∃ m : Nat, Lib.indexByte s.data.toList 10 = m := ⟨(Lib.indexByte s.data.toList 10).toNat, by omega⟩
    rw [hm] at hix
    have hlt : m < s.size := by
      have := (Lib.indexByte_some hm).1
      have := (List.getElem?_eq_some_iff.1 this).1
      simpa using this
    repeat' ((conv => whnf); first
      | (refine Both.intro ?_ ?_ <;> intro _ <;> try (exfalso; omega))
      | (refine Need.intro (by omega) ?_)
      | (refine Does.mono hix ?_ ; rintro _ _ ⟨rfl, rfl⟩)
      | (refine Gives.intro ⟨_, str_to (by kernel_rfl) s (m := m) rfl (by omega), ?_⟩)
      | (refine Gives.intro ⟨_, str_from (by kernel_rfl) s (m := m + 1) (by omega) (by omega), ?_⟩)
      | (refine Need.intro (draw_still ⟨rfl, True.intro⟩) ?_)
      | (refine Need.intro (draw_still True.intro) ?_)
      | fail)
    all_goals (conv => whnf)
    refine ⟨_, _, _, rfl, fun _ => ?_, rfl⟩
    rw [ByteArray.size_extract]
    omega
theorem cut_any (H : AHeap) (s : ByteArray) (hs : s.size ≤ 9223372036854775807) : Does Tryz.prog orc 7 [.string s, .string nl] H fun r H' => ∃ a b ok, r = .ret (.tuple #[.string a, .string b, .bool ok]) ∧ (s.size ≠ 0 → b.size < s.size) ∧ H = H' := by
  refine Does.of Tryz.func7 (fun _ _ => rfl) rfl ?_
  repeat' ((conv => whnf); first
    | (refine Both.intro ?_ ?_ <;> intro _ <;> try (exfalso; omega))
    | (refine Need.intro (by omega) ?_)
    | (refine Does.mono (lcut_any H s hs) ?_ ; rintro _ _ ⟨a, b, ok, rfl, hb, rfl⟩)
    | fail)
  all_goals (conv => whnf)
  exact ⟨_, _, _, rfl, hb, rfl⟩
/-- A session that is nil, or that nobody made. -/
def NoSes (H : AHeap) (v : Value) : Prop := v = .pointer none ∨ ∃ b, v = .pointer (some ⟨b, 0, none⟩) ∧ cellAt H b 0 = some (.map none)
theorem line_any (H : AHeap) (v : Value) (hv : NoSes H v) (s : ByteArray) : Does Tryz.prog orc 4 [v, .string s] H fun r H' => r = .ret (.slice none 0 0) ∧ H = H' := by
  refine Does.of Tryz.func4 (fun _ _ => rfl) rfl ?_
  rcases hv with rfl | ⟨b, rfl, hb⟩
  · skip
    repeat' ((conv => whnf); first
      | (refine Both.intro ?_ ?_ <;> intro _ <;> try (exfalso; omega))
      | (refine Need.intro (by omega) ?_)
      | (refine Gives.intro ⟨_, ptr_same, ?_⟩)
      | fail)
    all_goals (conv => whnf)
    exact ⟨rfl, rfl⟩
  · skip
    repeat' ((conv => whnf); first
      | (refine Both.intro ?_ ?_ <;> intro _ <;> try (exfalso; omega))
      | (refine Need.intro (by omega) ?_)
      | (refine Gives.intro ⟨_, ptr_other b, ?_⟩)
      | (refine Gives.intro ⟨_, map_same, ?_⟩)
      | (refine ⟨_, hb, ?_⟩)
      | fail)
    all_goals (conv => whnf)
    exact ⟨rfl, rfl⟩
theorem text_any (H : AHeap) (b : Nat) (hb : cellAt H b 1 = some (.slice none 0 0)) : Does Tryz.prog orc 12 [.pointer (some ⟨b, 0, none⟩)] H fun r H' => r = .ret (.string ⟨#[]⟩) ∧ H = H' := by
  refine Does.of Tryz.func12 (fun _ _ => rfl) rfl ?_
  repeat' ((conv => whnf); first
    | (refine Both.intro ?_ ?_ <;> intro _ <;> try (exfalso; omega))
    | (refine Need.intro (by omega) ?_)
    | (refine ⟨_, hb, ?_⟩)
    | (refine Outs.intro ⟨.pointer none, _, _, rfl, ?_⟩)
    | (refine Outs.intro ⟨_, _, _, rfl, ?_⟩)
    | (refine Need.intro (draw_still ⟨rfl, rfl, True.intro⟩) ?_)
    | fail)
  all_goals (conv => whnf)
  exact ⟨rfl, rfl⟩
theorem NoSes.ext {H H' : AHeap} (hw : Wf H) (e : Ext H H') {v : Value} (h : NoSes H v) : NoSes H' v := by
  rcases h with h | ⟨b, h1, h2⟩
  · exact .inl h
  · exact .inr ⟨b, h1, cellAt_ext hw e h2⟩
theorem play_any (H : AHeap) (hw : Wf H) (v : Value) (hv : NoSes H v) (t : ByteArray) (ht : t.size ≤ 9223372036854775807) : Does Tryz.prog orc 5 [v, .string t] H fun r H' => r = .ret (.string ⟨#[]⟩) ∧ Ext H H' ∧ Wf H' := by
  refine Does.of Tryz.func5 (fun _ _ => rfl) rfl ?_
  have hz : zeroOf Tryz.prog 48 = some (.agg #[.pointer none, .slice none 0 0]) := by kernel_rfl
  obtain ⟨Z, hZ⟩ : ∃ Z, Z = H.push (.cells [.pointer none, .slice none 0 0] (typedV 48) true) := ⟨_, rfl⟩
  have eZ : Ext H Z := by rw [hZ]; exact Ext.push _ _
  have wZ : Wf Z := by rw [hZ]; exact hw.push _
  have cZ : cellAt Z H.next 1 = some (.slice none 0 0) := by rw [hZ]; simp only [cellAt, get_new]; rfl
  have vZ := hv.ext hw eZ
  repeat' ((conv => whnf); first
    | (refine Both.intro ?_ ?_ <;> intro _ <;> try (exfalso; omega))
    | (refine Need.intro (by omega) ?_)
    | (refine Gives.intro ⟨_, hz, ?_⟩)
    | fail)
  all_goals (conv => whnf)
  refine Runs.loop (fun u : ByteArray => [(1, .string u), (0, v), (5, .pointer (some ⟨H.next, 0, none⟩))]) (fun u H' => Z = H' ∧ u.size ≤ 9223372036854775807) (fun u => u.size) t ⟨rfl, rfl, rfl, trivial⟩ ⟨hZ, ht⟩ ?_
  rintro u _ ⟨rfl, hu9⟩
  by_cases hu : u.data.toList = []
  · skip
    repeat' ((conv => whnf); first
      | (refine Need.intro (by omega) ?_)
      | (refine Both.intro (fun h => absurd hu h) (fun _ => ?_))
      | (refine Does.mono (text_any Z H.next cZ) ?_ ; rintro _ _ ⟨rfl, rfl⟩)
      | fail)
    all_goals (conv => whnf)
    exact ⟨rfl, eZ, wZ⟩
  · have hus : u.size ≠ 0 := fun h => hu (List.length_eq_zero_iff.1 (by simpa using h))
    repeat' ((conv => whnf); first
      | (refine Need.intro (by omega) ?_)
      | (refine Both.intro (fun _ => ?_) (fun h => absurd hu h))
      | (refine Does.mono (cut_any Z u hu9) ?_ ; rintro _ _ ⟨a, b, ok, rfl, hb, rfl⟩)
      | (refine Does.mono (line_any Z v vZ a) ?_ ; rintro _ _ ⟨rfl, rfl⟩)
      | fail)
    all_goals (conv => whnf)
    refine Runs.loop (fun _ : Unit => [(21, .int .i64 0), (20, .int .i64 0), (1, .string b), (0, v), (5, .pointer (some ⟨H.next, 0, none⟩))]) (fun _ H' => Z = H') (fun _ => 0) () ⟨rfl, rfl, rfl, rfl, rfl, trivial⟩ rfl ?_
    rintro _ _ rfl
    repeat' ((conv => whnf); first
      | (refine Need.intro (by omega) ?_)
      | (refine Both.intro (fun h => absurd h (by decide)) (fun _ => ?_))
      | fail)
    all_goals (conv => whnf)
    exact ⟨b, ⟨rfl, rfl, rfl, trivial⟩, ⟨rfl, by have := hb hus; omega⟩, hb hus⟩
theorem laid_wf : Wf (AX.laidH ng tables) := fun b hb => by
  rw [laidH_next] at hb
  cases hg : (AX.laidH ng tables).get b with
  | none => rfl
  | some o =>
    rcases laidH_get hg with ⟨rfl, rfl⟩ | ⟨t, ht, rfl, rfl⟩
    · omega
    · have := tab_lt t ht; omega
theorem laid_in : LaidIn (AX.laidH ng tables) := by
  refine ⟨by kernel_rfl, fun t ht => ?_⟩
  simp only [tables, List.mem_cons, List.mem_nil_iff, or_false] at ht
  rcases ht with rfl | rfl | rfl | rfl | rfl <;> kernel_rfl
theorem LaidIn.ext {H H' : AHeap} (hw : Wf H) (e : Ext H H') (h : LaidIn H) : LaidIn H' := ⟨(e.get _ (hw.lt h.1)).trans h.1, fun t ht => (e.get _ (hw.lt (h.2 t ht))).trans (h.2 t ht)⟩
theorem sessionNone_any (s : ByteArray) (hs : s.size ≤ 9223372036854775807) : Does Tryz.prog orc 3 [.string s] (AX.laidH ng tables) fun r _ => r = .ret (.bool true) := by
  obtain ⟨H, hH⟩ : ∃ H, H = AX.laidH ng tables := ⟨_, rfl⟩
  have hl : LaidIn H := by rw [hH]; exact laid_in
  have hw : Wf H := by rw [hH]; exact laid_wf
  rw [← hH]
  refine Does.of Tryz.func3 (fun _ _ => rfl) rfl ?_
  obtain ⟨sc, hsc, hsl⟩ : ∃ sc, zeroOf Tryz.prog 30 = some sc ∧ (sc.cells.toList)[0]? = some (.map none) := ⟨_, rfl, by kernel_rfl⟩
  have hz : aBuild Tryz.prog 30 [] = some sc := by rw [← hsc]; kernel_rfl
  have hbs : aBuildSlice Tryz.prog 31 2 [(0, .pointer none), (1, .pointer (some ⟨H.next, 0, none⟩))] = mkSlice [.pointer none, .pointer (some ⟨H.next, 0, none⟩)] 2 2 := by kernel_rfl
  obtain ⟨Z1, hZ1⟩ : ∃ Z1, Z1 = H.push (.cells sc.cells.toList 0 true) := ⟨_, rfl⟩
  obtain ⟨Z, hZ⟩ : ∃ Z, Z = Z1.push (.cells [.pointer none, .pointer (some ⟨H.next, 0, none⟩)] 0 true) := ⟨_, rfl⟩
  have n1 : Z1.next = H.next + 1 := by rw [hZ1]; rfl
  have eZ : Ext H Z := by rw [hZ, hZ1]; exact (Ext.push _ _).trans (Ext.push _ _)
  have wZ : Wf Z := by rw [hZ, hZ1]; exact (hw.push _).push _
  have ses : NoSes Z (.pointer (some ⟨H.next, 0, none⟩)) := .inr ⟨H.next, rfl, by
    have h1 : cellAt Z1 H.next 0 = some (.map none) := by rw [hZ1]; simp only [cellAt, get_new]; exact hsl
    rw [hZ]; exact cellAt_ext (by rw [hZ1]; exact hw.push _) (Ext.push _ _) h1⟩
  have c0 : cellAt Z (H.next + 1) 0 = some (.pointer none) := by rw [hZ, ← n1]; simp only [cellAt, get_new]; rfl
  have c1 : cellAt Z (H.next + 1) 1 = some (.pointer (some ⟨H.next, 0, none⟩)) := by rw [hZ, ← n1]; simp only [cellAt, get_new]; rfl
  repeat' ((conv => whnf); first
    | (refine Both.intro ?_ ?_ <;> intro _ <;> try (exfalso; omega))
    | (refine Need.intro (by omega) ?_)
    | (refine Gives.intro ⟨_, hz, ?_⟩)
    | (refine ⟨_, hbs, ?_⟩)
    | fail)
  all_goals (conv => whnf)
  have hZe : Z = (H.push (.cells sc.cells.toList 0 true)).push (.cells [.pointer none, .pointer (some ⟨H.next, 0, none⟩)] 0 true) := by rw [hZ, hZ1]
  refine Runs.loop (fun i : Nat => [(4, .int .i64 i), (3, .slice (some ⟨H.next + 1, 0, none⟩) 2 2), (0, .string s)]) (fun i H' => i ≤ 2 ∧ Ext Z H' ∧ Wf H') (fun i => 2 - i) 0 ⟨rfl, rfl, rfl, trivial⟩ ⟨Nat.zero_le _, hZe ▸ Ext.refl _, hZe ▸ wZ⟩ ?_
  rintro i H1 ⟨hi, e1, w1⟩
  by_cases hlt : i < 2
  · obtain ⟨v, hvZ, hcZ⟩ : ∃ v, NoSes Z v ∧ cellAt Z (H.next + 1) (0 + i) = some v := by
      rcases (show i = 0 ∨ i = 1 by omega) with rfl | rfl
      · exact ⟨_, .inl rfl, c0⟩
      · exact ⟨_, ses, c1⟩
    have hv1 := hvZ.ext wZ e1
    have hc1 := cellAt_ext wZ e1 hcZ
    repeat' ((conv => whnf); first
      | (refine Need.intro (by omega) ?_)
      | (refine Both.intro (fun _ => ?_) (fun h => absurd (show (i : Int) < ((2 : Nat) : Int) by omega) h))
      | (refine Both.intro (fun h => absurd rfl h) (fun _ => ?_))
      | (refine ⟨_, hc1, ?_⟩)
      | (refine Does.mono (line_any H1 v hv1 _) ?_ ; rintro _ _ ⟨rfl, rfl⟩)
      | (refine Does.mono (play_any H1 w1 v hv1 s hs) ?_ ; rintro _ H2 ⟨rfl, e2, w2⟩ ; have hv2 := hv1.ext w1 e2 ; have hc2 := cellAt_ext w1 e2 hc1)
      | (refine ⟨_, hc2, ?_⟩)
      | (refine Does.mono (line_any H2 v hv2 _) ?_ ; rintro _ _ ⟨rfl, rfl⟩)
      | (refine Does.mono (play_any H2 w2 v hv2 _ (by decide)) ?_ ; rintro _ H3 ⟨rfl, e3, w3⟩)
      | fail)
    all_goals (conv => whnf)
    exact ⟨i + 1, ⟨rfl, rfl, rfl, trivial⟩, ⟨by omega, e1.trans (e2.trans e3), w3⟩, by omega⟩
  · skip
    repeat' ((conv => whnf); first
      | (refine Need.intro (by omega) ?_)
      | (refine Both.intro (fun h => absurd h (show ¬ (i : Int) < ((2 : Nat) : Int) by omega)) (fun _ => ?_))
      | (refine Does.mono (awake_any H1 (hl.ext hw (eZ.trans e1))) ?_ ; rintro _ _ ⟨rfl, rfl⟩)
      | fail)
    all_goals (conv => whnf)
    rfl
end Go.AX.Tryz
