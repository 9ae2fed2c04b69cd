/- (*record.reader).number, walked: what it answers at every text. -/
import Derived.Test.YtjnegbcdeggpfaaDoorLNumP
namespace Go.Proofs.YtjnegbcdeggpfaaDoor
open Go Go.AX Go.AX.Lw Go.Proofs Go.RowKit Go.Extern.Stop Go.Stop Go.Extern Go.Shelf
set_option linter.unusedVariables false
set_option linter.unusedSimpArgs false
set_option maxRecDepth 100000
theorem atoi_ok (s : ByteArray) (hmax : s.size ≤ 9223372036854775806) (v : Int) (h : Lib.atoiAll s.data.toList = .ok v) (w : World) :
    Calls Tryd.prog 37 #[.string s] w fun e w' => e = .returned (.tuple #[.int .i64 v, .nilIface]) ∧ Below w.heap.size w w' :=
  (Any.strconv_Atoi_ok atoiallLays s hmax v h w).mono fun e w' ⟨h1, h2⟩ => ⟨h1, by
    rcases h2 with rfl | ⟨t, rfl⟩
    · exact Below.refl _ _
    · exact Lib.bytesWorld_below _ _ _⟩
theorem atoi_none (s : ByteArray) (hlim : s.size ≤ 281474976710656) (h : Lib.atoiAll s.data.toList = Lib.atoiAll []) (ev : Value) (w : World) (hv : w.cell? ⟨0, 0, none⟩ = some ev) (hev : ev = .nilIface ∨ ∃ te pe, ev = .iface te pe) :
    Calls Tryd.prog 37 #[.string s] w fun e w' => ∃ N, e = .returned (.tuple #[.int .i64 (0), .iface 109 (.pointer (some ⟨N, 0, none⟩))]) ∧ w'.cell? ⟨N, 0 + 2, none⟩ = some ev ∧ Below w.heap.size w w' :=
  (Any.strconv_Atoi_syntax atoiallLays s hlim h ev w hv hev).mono fun e w' ⟨N, h1, h2, h3, h4⟩ => ⟨N, h1, by unfold World.cell?; rw [h3]; rfl, h4⟩
theorem atoi_range (s : ByteArray) (hlim : s.size ≤ 281474976710656) (h : Lib.atoiAll s.data.toList = .range) (ev : Value) (w : World) (hv : w.cell? ⟨1, 0, none⟩ = some ev) (hev : ev = .nilIface ∨ ∃ te pe, ev = .iface te pe) :
    Calls Tryd.prog 37 #[.string s] w fun e w' => ∃ N, e = .returned (.tuple #[.int .i64 (Lib.atoiSat s.data.toList), .iface 109 (.pointer (some ⟨N, 0, none⟩))]) ∧ w'.cell? ⟨N, 0 + 2, none⟩ = some ev ∧ Below w.heap.size w w' :=
  (Any.strconv_Atoi_range atoiallLays s hlim h ev w hv hev).mono fun e w' ⟨N, h1, h2, h3, h4⟩ => ⟨N, h1, by unfold World.cell?; rw [h3]; rfl, h4⟩
theorem itoa_c (n : Int) (h0 : -9223372036854775808 ≤ n) (h1 : n ≤ 9223372036854775807) (w : World) (htab : Lib.TabIs Tryd.prog w "internal/strconv.uint64pow10" .u64 Lib.pow10Tab) :
    Calls Tryd.prog 19 #[.int .i64 n] w fun e w' => e = .returned (.string ⟨(Lib.itoa n).toArray⟩) ∧ Below w.heap.size w w' :=
  (Any.strconv_Itoa itoaallLays n h0 h1 w htab).mono fun e w' ⟨h1, k, os, h2⟩ => ⟨h1, by rw [h2]; exact Lib.below_grow _ _ (Nat.le_refl _) _ _⟩
theorem loop_eq (bs : ByteArray) (i : Nat) (r : List UInt8) : ByteArray.toList.loop bs i r = r.reverse ++ bs.data.toList.drop i := by
  fun_induction ByteArray.toList.loop bs i r with
  | case1 i r h ih =>
    rw [ih]
    have hl : i < bs.data.toList.length := by simpa using h
    rw [List.drop_eq_getElem_cons hl]
    simp [ByteArray.get!, Array.getElem!_eq_getD, Array.getD]
    rw [dif_pos (by simpa using h)]
  | case2 i r h =>
    have hl : bs.data.toList.length ≤ i := by simpa using h
    rw [List.drop_eq_nil_of_le hl]; simp
theorem toList_data (bs : ByteArray) : bs.toList = bs.data.toList := by
  unfold ByteArray.toList
  rw [loop_eq]; simp
theorem below_two {w w1 w2 : World} (h1 : Below w.heap.size w w1) (h2 : Below w1.heap.size w1 w2) : Below w.heap.size w w2 :=
  ⟨h2.os.trans h1.os, h2.tape.trans h1.tape, h2.output.trans h1.output, Nat.le_trans h1.size h2.size, fun k hk => (h2.block k (Nat.lt_of_lt_of_le hk h1.size)).trans (h1.block k hk)⟩
/-- The world that number is called in. -/
structure NumW (w : World) (c k : Nat) (bad : Bool) (aS aR : Addr) : Prop where
  bad : ∀ w', Below w.heap.size w w' → w'.cell? ⟨c, k + 1, none⟩ = some (.bool bad) ∧ w'.frozen? ⟨c, k + 1, none⟩ = false
  es : ∀ w', Below w.heap.size w w' → w'.cell? ⟨0, 0, none⟩ = some (.iface 139 (.pointer (some aS)))
  er : ∀ w', Below w.heap.size w w' → w'.cell? ⟨1, 0, none⟩ = some (.iface 139 (.pointer (some aR)))
  hs : ∀ w', Below w.heap.size w w' → ∃ cb tb, w'.heap[aS.block]? = some (.cells cb tb (0, 0))
  hr : ∀ w', Below w.heap.size w w' → ∃ cb tb, w'.heap[aR.block]? = some (.cells cb tb (0, 0))
  tab : Lib.TabBelow Tryd.prog w.heap.size w "internal/strconv.uint64pow10" .u64 Lib.pow10Tab
theorem num_good {w : World} {c k : Nat} {bad : Bool} {aS aR : Addr} (W : NumW w c k bad aS aR) (s : ByteArray) (lo hi v : Int) (hsz : s.size ≤ 1000000) (hv : Lib.atoiAll s.data.toList = .ok v) (hlo : lo ≤ v) (hhi : v ≤ hi) (hit : (⟨(Lib.itoa v).toArray⟩ : ByteArray) = s) (hb : -1000000000 < v ∧ v < 1000000000) :
    Calls Tryd.prog 33 #[.pointer (some ⟨c, k, none⟩), .string s, .int .i64 lo, .int .i64 hi] w fun e w' => e = .returned (.int .i64 v) ∧ Below w.heap.size w w' := by
  have hs0 := W.es w (Below.refl _ _)
  have hr0 := W.er w (Below.refl _ _)
  have n1 : ¬ v < lo := by omega
  have n2 : ¬ v > hi := by omega
  go_enter Tryd.func33, Tryd.ntmps33
  go_wp2_with (first | (go_at_call 37; refine (atoi_ok s (by omega) v hv _).mono ?_; rintro e w1 ⟨rfl, hb1⟩; have hs1 := W.es w1 hb1; have hr1 := W.er w1 hb1; have hc1 := (W.bad w1 hb1).1) | (go_at_call 38; refine (is_nil _ _).mono ?_; rintro e w2 ⟨rfl, rfl⟩) | (go_at_call 19; refine (itoa_c v (by omega) (by omega) _ (W.tab _ hb1)).mono ?_; rintro e w2 ⟨rfl, hb2⟩))
  go_ret
  exact ⟨rfl, below_two hb1 hb2⟩
/-- It goes wrong: the mark is set. -/
def NumBad (w : World) (c k : Nat) (lo : Int) (e : Ending) (w' : World) : Prop := e = .returned (.int .i64 lo) ∧ ∃ w1, Below w.heap.size w w1 ∧ w' = w1.setCell ⟨c, k + 1, none⟩ (.bool true)
theorem num_none {w : World} {c k : Nat} {bad : Bool} {aS aR : Addr} (W : NumW w c k bad aS aR) (s : ByteArray) (lo hi : Int) (hsz : s.size ≤ 1000000) (hv : Lib.atoiAll s.data.toList = Lib.atoiAll []) :
    Calls Tryd.prog 33 #[.pointer (some ⟨c, k, none⟩), .string s, .int .i64 lo, .int .i64 hi] w (NumBad w c k lo) := by
  have hs0 := W.es w (Below.refl _ _)
  have hr0 := W.er w (Below.refl _ _)
  go_enter Tryd.func33, Tryd.ntmps33
  go_wp2_with (first | (go_at_call 37; refine (atoi_none s (by omega) hv _ _ hs0 (Or.inr ⟨_, _, rfl⟩)).mono ?_; rintro e w1 ⟨N, rfl, hN, hb1⟩; have hs1 := W.es w1 hb1; have hr1 := W.er w1 hb1; have hc1 := (W.bad w1 hb1).1; have hf1 := (W.bad w1 hb1).2) | (go_at_call 38; refine (is_wrap_same _ 0 _ _ hN).mono ?_; rintro e w2 ⟨rfl, rfl⟩))
  go_ret
  exact ⟨rfl, _, hb1, rfl⟩
theorem num_range {w : World} {c k : Nat} {bad : Bool} {aS aR : Addr} (W : NumW w c k bad aS aR) (s : ByteArray) (lo hi : Int) (hsz : s.size ≤ 1000000) (hv : Lib.atoiAll s.data.toList = .range) :
    Calls Tryd.prog 33 #[.pointer (some ⟨c, k, none⟩), .string s, .int .i64 lo, .int .i64 hi] w (NumBad w c k lo) := by
  have hs0 := W.es w (Below.refl _ _)
  have hr0 := W.er w (Below.refl _ _)
  by_cases hne : aR = aS
  · subst hne
    go_enter Tryd.func33, Tryd.ntmps33
    go_wp2_with (first | (go_at_call 37; refine (atoi_range s (by omega) hv _ _ hr0 (Or.inr ⟨_, _, rfl⟩)).mono ?_; rintro e w1 ⟨N, rfl, hN, hb1⟩; have hs1 := W.es w1 hb1; have hr1 := W.er w1 hb1; have hc1 := (W.bad w1 hb1).1; have hf1 := (W.bad w1 hb1).2) | (go_at_call 38; refine (is_wrap_same _ 0 _ _ hN).mono ?_; rintro e w2 ⟨rfl, rfl⟩))
    go_ret
    exact ⟨rfl, _, hb1, rfl⟩
  · go_enter Tryd.func33, Tryd.ntmps33
    go_wp2_with (go_at_call 37; refine (atoi_range s (by omega) hv _ _ hr0 (Or.inr ⟨_, _, rfl⟩)).mono ?_; rintro e w1 ⟨N, rfl, hN, hb1⟩; have hs1 := W.es w1 hb1; have hr1 := W.er w1 hb1; have hc1 := (W.bad w1 hb1).1; have hf1 := (W.bad w1 hb1).2; obtain ⟨cb1, tb1, hq1⟩ := W.hs w1 hb1; obtain ⟨cb2, tb2, hq2⟩ := W.hr w1 hb1)
    refine (is_wrap_other _ 0 aS aR _ _ _ _ _ hN hne hq2 hq1).mono ?_
    rintro e w2 ⟨rfl, rfl⟩
    go_wp2_with (go_at_call 38; refine (is_wrap_same _ 0 _ _ hN).mono ?_; rintro e w2 ⟨rfl, rfl⟩)
    go_ret
    exact ⟨rfl, _, hb1, rfl⟩
theorem num_far {w : World} {c k : Nat} {bad : Bool} {aS aR : Addr} (W : NumW w c k bad aS aR) (s : ByteArray) (lo hi v : Int) (hsz : s.size ≤ 1000000) (hv : Lib.atoiAll s.data.toList = .ok v) (ho : v < lo ∨ hi < v) :
    Calls Tryd.prog 33 #[.pointer (some ⟨c, k, none⟩), .string s, .int .i64 lo, .int .i64 hi] w (NumBad w c k lo) := by
  have hs0 := W.es w (Below.refl _ _)
  have hr0 := W.er w (Below.refl _ _)
  by_cases n1 : v < lo
  · go_enter Tryd.func33, Tryd.ntmps33
    go_wp2_with (first | (go_at_call 37; refine (atoi_ok s (by omega) v hv _).mono ?_; rintro e w1 ⟨rfl, hb1⟩; have hs1 := W.es w1 hb1; have hr1 := W.er w1 hb1; have hc1 := (W.bad w1 hb1).1; have hf1 := (W.bad w1 hb1).2) | (go_at_call 38; refine (is_nil _ _).mono ?_; rintro e w2 ⟨rfl, rfl⟩))
    go_ret
    exact ⟨rfl, _, hb1, rfl⟩
  · have n2 : v > hi := by omega
    go_enter Tryd.func33, Tryd.ntmps33
    go_wp2_with (first | (go_at_call 37; refine (atoi_ok s (by omega) v hv _).mono ?_; rintro e w1 ⟨rfl, hb1⟩; have hs1 := W.es w1 hb1; have hr1 := W.er w1 hb1; have hc1 := (W.bad w1 hb1).1; have hf1 := (W.bad w1 hb1).2) | (go_at_call 38; refine (is_nil _ _).mono ?_; rintro e w2 ⟨rfl, rfl⟩))
    go_ret
    exact ⟨rfl, _, hb1, rfl⟩
theorem num_other {w : World} {c k : Nat} {bad : Bool} {aS aR : Addr} (W : NumW w c k bad aS aR) (s : ByteArray) (lo hi v : Int) (hsz : s.size ≤ 1000000) (hv : Lib.atoiAll s.data.toList = .ok v) (hlo : lo ≤ v) (hhi : v ≤ hi) (hit : (⟨(Lib.itoa v).toArray⟩ : ByteArray) ≠ s) (hb : -1000000000 < v ∧ v < 1000000000) :
    Calls Tryd.prog 33 #[.pointer (some ⟨c, k, none⟩), .string s, .int .i64 lo, .int .i64 hi] w (NumBad w c k lo) := by
  have hs0 := W.es w (Below.refl _ _)
  have hr0 := W.er w (Below.refl _ _)
  have hnb : (Lib.itoa v == s.toList) = false := by
    rw [toList_data, beq_eq_false_iff_ne]
    intro e
    exact hit (by rw [e])
  have n1 : ¬ v < lo := by omega
  have n2 : ¬ v > hi := by omega
  go_enter Tryd.func33, Tryd.ntmps33
  go_wp2_with (first | (go_at_call 37; refine (atoi_ok s (by omega) v hv _).mono ?_; rintro e w1 ⟨rfl, hb1⟩; have hs1 := W.es w1 hb1; have hr1 := W.er w1 hb1) | (go_at_call 38; refine (is_nil _ _).mono ?_; rintro e w2 ⟨rfl, rfl⟩) | (go_at_call 19; refine (itoa_c v (by omega) (by omega) _ (W.tab _ hb1)).mono ?_; rintro e w2 ⟨rfl, hb2⟩; have hc1 := (W.bad w2 (below_two hb1 hb2)).1; have hf1 := (W.bad w2 (below_two hb1 hb2)).2))
  go_ret
  exact ⟨rfl, _, below_two hb1 hb2, rfl⟩
end Go.Proofs.YtjnegbcdeggpfaaDoor
