/- Lines of words and numbers: record.line; rejoinderref29.line, text. -/
import Derived.Test.YtkngijdjkcdcjaaDoorLRcJ
import Derived.Test.YtkngijdjkcdcjaaDoorLRcB
import Derived.Lib.ItoaLen
namespace Go.AX.Lw
open Go Go.AX
set_option linter.unusedVariables false
/-- A text of these bytes. -/
def mkS (l : List UInt8) : ByteArray := ⟨l.toArray⟩
theorem mkS_list (l : List UInt8) : (mkS l).data.toList = l := by simp [mkS]
theorem mkS_size (l : List UInt8) : (mkS l).size = l.length := by simp [mkS, ByteArray.size]
theorem mkS_app (a b : List UInt8) : mkS a ++ mkS b = mkS (a ++ b) := by
  apply ByteArray.ext
  simp [mkS]
theorem strAdd {x y : ByteArray} {a b : List UInt8} (hx : x = mkS a) (hy : y = mkS b) (h : a.length + b.length ≤ 2 ^ 60) : aStr .add x y = some (.string (mkS (a ++ b))) := by
  subst hx; subst hy
  have hm : IntKind.i64.max = 9223372036854775807 := by decide
  unfold aStr
  simp only [mkS_size, mkS_app]
  rw [if_neg (by omega)]
theorem mkS_of (s : ByteArray) : s = mkS s.data.toList := by simp [mkS]
end Go.AX.Lw
namespace Go.AX.Tryd
open Go Go.AX Go.AX.Lw Go.Proofs
set_option linter.unusedVariables false
set_option linter.unusedSimpArgs false
set_option maxRecDepth 100000
theorem itoa_len (n : Int) (h1 : -10000 < n) (h2 : n < 10000) : (Lib.itoa n).length ≤ 21 := Lib.itoa_length_le n (by omega) (by omega)
theorem itoa_ne (n : Int) : Lib.itoa n ≠ [] := by
  unfold Lib.itoa
  split
  · simp
  · rw [Lib.decDigits]; split <;> simp
/-- A number's text. -/
theorem textN_any : ∀ (m u : Nat), u < m → m ≤ 10000 → ∀ (H : AHeap), Wf H → Does Tryd.prog orc 22 [.int .i64 u] H fun r H' => r = .ret (.string (mkS (Lib.decDigits u))) ∧ Ext H H' ∧ Wf H'
  | 0, u, h, _, H, hw => by omega
  | m + 1, u, h, hm, H, hw => by
    refine Does.of Tryd.func22 (fun _ _ => rfl) rfl ?_
    by_cases h1 : u < 10
    · have hcv : aConv Tryd.prog 3 5 (.int .i64 (48 + (u : Int))) = some (.int .u8 ((UInt8.ofNat (48 + u)).toNat : Int)) := by
        have h0 : aConv Tryd.prog 3 5 (.int .i64 (48 + (u : Int))) = some (.int .u8 (IntKind.u8.wrap (48 + (u : Int)))) := by kernel_rfl
        rw [h0, Go.IntWalk.u8_in _ (by omega), UInt8.toNat_ofNat']
        congr 3
        omega
      have wp := hw.push (.cells (u8s [UInt8.ofNat (48 + u)]) 0 true)
      have htx := text_of (H := H.push (.cells (u8s [UInt8.ofNat (48 + u)]) 0 true)) (b := H.next) (o := 0) (n := 1) (c := 1) (ds := [UInt8.ofNat (48 + u)]) (by decide) (by decide) (cellsAt_all (get_new _ _) rfl)
      repeat' ((conv => whnf); first
        | (refine Both.intro ?_ ?_ <;> intro _ <;> try (exfalso; omega))
        | (refine Need.intro (by omega) ?_)
        | (refine Gives.intro ⟨_, hcv, ?_⟩)
        | (refine Outs.intro ⟨_, _, _, htx, ?_⟩)
        | (refine ⟨u8s [UInt8.ofNat (48 + u)], by kernel_rfl, ?_⟩)
        | fail)
      all_goals (conv => whnf)
      exact ⟨by rw [Lib.decDigits_one h1]; rfl, Ext.push _ _, wp⟩
    · have hq : aInt .quo .i64 (u : Int) 10 = some (.int .i64 ((u / 10 : Nat) : Int)) := by
        show (if (10 : Int) = 0 then none else some (Value.int .i64 (IntKind.i64.wrap ((u : Int).tdiv 10)))) = _
        rw [if_neg (by decide), show (10 : Int) = ((10 : Nat) : Int) from rfl, ← Int.ofNat_tdiv, wrap_i64 (by omega)]
      have hr := remU .i64 u 10 10 rfl (by decide)
      have hdec : Lib.decDigits u = Lib.decDigits (u / 10) ++ Lib.decDigits (u % 10) := by
        rw [Lib.decDigits, dif_neg h1, Lib.decDigits_one (i := u % 10) (by omega)]
      have hl1 : (Lib.decDigits (u / 10)).length ≤ 21 := by have := itoa_len (u / 10 : Nat) (by omega) (by omega); rwa [Lib.itoa_nonneg] at this
      have hl2 : (Lib.decDigits (u % 10)).length ≤ 21 := by have := itoa_len (u % 10 : Nat) (by omega) (by omega); rwa [Lib.itoa_nonneg] at this
      have hsa := strAdd (a := Lib.decDigits (u / 10)) (b := Lib.decDigits (u % 10)) rfl rfl (by omega)
      repeat' ((conv => whnf); first
        | (refine Both.intro ?_ ?_ <;> intro _ <;> try (exfalso; omega))
        | (refine Need.intro (by omega) ?_)
        | (refine Gives.intro ⟨_, hq, ?_⟩)
        | (refine Gives.intro ⟨_, hr, ?_⟩)
        | (refine Gives.intro ⟨_, hsa, ?_⟩)
        | (refine Does.mono (textN_any m (u / 10) (by omega) (by omega) H hw) ?_ ; rintro _ H2 ⟨rfl, e2, w2⟩)
        | (refine Does.mono (textN_any m (u % 10) (by omega) (by omega) H2 w2) ?_ ; rintro _ H3 ⟨rfl, e3, w3⟩)
        | fail)
      all_goals (conv => whnf)
      exact ⟨by rw [hdec]; rfl, e2.trans e3, w3⟩
theorem text_any (H : AHeap) (hw : Wf H) (n : Int) (h1 : -10000 < n) (h2 : n < 10000) : Does Tryd.prog orc 22 [.int .i64 n] H fun r H' => r = .ret (.string (mkS (Lib.itoa n))) ∧ Ext H H' ∧ Wf H' := by
  by_cases hn : n < 0
  · obtain ⟨u, rfl⟩ : ∃ u : Nat, n = -(u : Int) := ⟨(-n).toNat, by omega⟩
    have hl := itoa_len (u : Nat) (by omega) (by omega)
    rw [Lib.itoa_nonneg] at hl
    have hun : aUn .neg (.int .i64 (-(u : Int))) = some (.int .i64 (u : Int)) := by
      show some (Value.int .i64 (IntKind.i64.wrap (0 - -(u : Int)))) = _
      rw [wrap_i64 (by omega)]; simp
    have hsa := strAdd (x := ⟨#[45]⟩) (a := [45]) (b := Lib.decDigits u) rfl rfl (by simp; omega)
    refine Does.of Tryd.func22 (fun _ _ => rfl) rfl ?_
    repeat' ((conv => whnf); first
      | (refine Both.intro ?_ ?_ <;> intro _ <;> try (exfalso; omega))
      | (refine Need.intro (by omega) ?_)
      | (refine Gives.intro ⟨_, hun, ?_⟩)
      | (refine Does.mono (textN_any 10000 u (by omega) (by omega) H hw) ?_ ; rintro _ H2 ⟨rfl, e2, w2⟩)
      | (refine Gives.intro ⟨_, hsa, ?_⟩)
      | fail)
    all_goals (conv => whnf)
    exact ⟨by rw [Lib.itoa_neg u (by omega)]; rfl, e2, w2⟩
  · obtain ⟨u, rfl⟩ : ∃ u : Nat, n = (u : Int) := ⟨n.toNat, by omega⟩
    rw [Lib.itoa_nonneg]
    exact textN_any 10000 u (by omega) (by omega) H hw
/-- A line: a word and numbers. -/
def numsT (zs : List Int) : List UInt8 := zs.flatMap fun z => 32 :: Lib.itoa z
def lineT (w : List UInt8) (zs : List Int) : List UInt8 := w ++ numsT zs ++ [10]
theorem numsT_take {zs : List Int} {k : Nat} {z : Int} (hz : zs[k]? = some z) : numsT (zs.take (k + 1)) = numsT (zs.take k) ++ (32 :: Lib.itoa z) := by
  unfold numsT
  rw [List.take_add_one, hz]
  simp
def SmallZ (zs : List Int) : Prop := ∀ z ∈ zs, -10000 < z ∧ z < 10000
theorem numsT_len : ∀ {zs : List Int}, SmallZ zs → (numsT zs).length ≤ 22 * zs.length
  | [], _ => by simp [numsT]
  | z :: r, h => by
    have h1 := numsT_len (zs := r) fun x hx => h x (by simp [hx])
    have h2 := itoa_len z (h z (by simp)).1 (h z (by simp)).2
    unfold numsT at h1 ⊢
    simp only [List.flatMap_cons, List.length_append, List.length_cons]
    omega
theorem join_line (w : List UInt8) (zs : List Int) : Lib.join (w :: zs.map Lib.itoa) [32] = w ++ numsT zs := by
  rw [Lib.join_cons]
  unfold Lib.joinTail numsT
  simp [List.flatMap_def, List.map_map, Function.comp_def]
end Go.AX.Tryd
namespace Go.AX.Lw
open Go Go.AX
set_option linter.unusedVariables false
/-- A row that is no text that grows, and lies not at b. -/
def SafeR (code b : Nat) (H : AHeap) (a : Option Addr) : Prop := ∀ c o st, a = some ⟨c, o, st⟩ → ∃ x, H.get c = some x ∧ c ≠ b ∧ ∀ xs, x ≠ .cells xs code true
theorem SafeR.frm {code b : Nat} {H H' : AHeap} {a : Option Addr} (h : SafeR code b H a) (f : Frm code b H H') : SafeR code b H' a := fun c o st e => by
  obtain ⟨x, h1, h2, h3⟩ := h c o st e
  exact ⟨x, f.get c x h1 h2 h3, h2, h3⟩
theorem Row.frm {code b : Nat} {H H' : AHeap} {a : Option Addr} {n c : Nat} {xs : List Value} (h : Row H a n c xs) (hs : SafeR code b H a) (f : Frm code b H H') : Row H' a n c xs := h.same fun c o st e => by
  obtain ⟨x, h1, h2, h3⟩ := hs c o st e
  rw [h1]; exact f.get c x h1 h2 h3
theorem Frm.of_ext {code b : Nat} {H H' : AHeap} (hw : Wf H) (e : Ext H H') : Frm code b H H' := ⟨e.next, fun c o h1 _ _ => by rw [e.get c (hw.lt h1)]; exact h1⟩
end Go.AX.Lw
namespace Go.AX.Tryd
open Go Go.AX Go.AX.Lw Go.Proofs
set_option linter.unusedVariables false
set_option linter.unusedSimpArgs false
set_option maxRecDepth 100000
theorem BuildR.ext {H0 H H' : AHeap} {b : Nat} {s : List UInt8} (hw : Wf H) (e : Ext H H') (h : BuildR H0 H b s) : BuildR H0 H' b s := by
  obtain ⟨⟨p, v, h1, h2, h3⟩, h4⟩ := h
  exact ⟨⟨p, v, by rw [e.get _ (hw.lt h1)]; exact h1, h2, h3.ext hw e⟩, h4⟩
/-- record.line. -/
theorem line_any (H0 H : AHeap) (b : Nat) (s : List UInt8) (hB : BuildR H0 H b s) (he : Ext H0 H) (hw : Wf H) (hw0 : Wf H0) (hT : TabIn H0) (w : List UInt8) (hw1 : w ≠ []) (a : Option Addr) (n c : Nat) (zs : List Int)
    (hr : Row H a n c (ints zs)) (hS : SafeR rC b H a) (hz : SmallZ zs) (hn : n ≤ 2 ^ 20) (hl : s.length + w.length ≤ 2 ^ 30) :
    Does Tryd.prog orc 17 [.pointer (some ⟨b, 0, none⟩), .string (mkS w), .slice a n c] H fun r H' => r = .ret (.tuple #[]) ∧ BuildR H0 H' b (s ++ lineT w zs) ∧ Ext H0 H' ∧ Wf H' ∧ Frm rC b H H' := by
  have hlen := hr.len; simp at hlen
  have hcap := hr.cap
  refine Does.of Tryd.func17 (fun _ _ => rfl) rfl ?_
  have d1 := writeString_any H0 H b s hB he hw (mkS w) (by rw [mkS_size]; exact fun e => hw1 (List.eq_nil_of_length_eq_zero e)) (by rw [mkS_size]; omega)
  rw [mkS_list] at d1
  repeat' ((conv => whnf); first
    | (refine Both.intro ?_ ?_ <;> intro _ <;> try (exfalso; omega))
    | (refine Need.intro (by omega) ?_)
    | (refine Does.mono d1 ?_ ; rintro _ H1 ⟨rfl, B1, e1, w1, f1⟩)
    | fail)
  all_goals (conv => whnf)
  have hs1 : (s ++ w).length = s.length + w.length := by simp
  refine Runs.loop (fun k : Nat => [(13, .int .i64 k), (12, .int .i64 n), (11, .slice a n c), (0, .pointer (some ⟨b, 0, none⟩))])
    (fun k H' => k ≤ n ∧ BuildR H0 H' b (s ++ w ++ numsT (zs.take k)) ∧ Ext H0 H' ∧ Wf H' ∧ Frm rC b H H') (fun k => n - k) 0 ⟨rfl, rfl, rfl, rfl, trivial⟩
    ⟨by omega, by simpa [numsT] using B1, e1, w1, f1⟩ ?_
  rintro k H2 ⟨hk, B2, e2, w2, f2⟩
  have hnl : (numsT (zs.take k)).length ≤ 22 * k := by
    have := numsT_len (zs := zs.take k) fun x hx => hz x (List.mem_of_mem_take hx)
    rw [List.length_take] at this
    omega
  have hs2 : (s ++ w ++ numsT (zs.take k)).length = s.length + w.length + (numsT (zs.take k)).length := by simp; omega
  by_cases hlt : k < n
  · obtain ⟨z, hx⟩ := get_of (l := zs) (k := k) (by omega)
    obtain ⟨b', o, st, ha, hcell⟩ := (hr.frm hS f2).cell k (.int .i64 z) (by simp [ints, hx])
    have hzz := hz z (List.mem_of_getElem? hx)
    have hil := itoa_len z hzz.1 hzz.2
    subst ha
    have hsa := strAdd (x := ⟨#[32]⟩) (a := [32]) (b := Lib.itoa z) rfl rfl (by simp; omega)
    have d2 := fun H3 (w3 : Wf H3) (e3 : Ext H2 H3) => writeString_any H0 H3 b _ (B2.ext w2 e3) (e2.trans e3) w3 (mkS ([32] ++ Lib.itoa z)) (by rw [mkS_size]; simp) (by rw [mkS_size, hs2]; simp; omega)
    repeat' ((conv => whnf); first
      | (refine Both.intro ?_ ?_ <;> intro _ <;> try (exfalso; omega))
      | (refine Need.intro (by omega) ?_)
      | (refine ⟨_, hcell, ?_⟩)
      | (refine Does.mono (itoa_any H2 w2 (hT.ext hw0 e2) z hzz.1 hzz.2) ?_ ; rintro _ H3 ⟨rfl, e3, w3⟩)
      | (refine Gives.intro ⟨_, hsa, ?_⟩)
      | (refine Does.mono (d2 H3 w3 e3) ?_ ; rintro _ H4 ⟨rfl, B4, e4, w4, f4⟩)
      | fail)
    all_goals (conv => whnf)
    rw [mkS_list] at B4
    exact ⟨k + 1, ⟨rfl, rfl, rfl, rfl, trivial⟩, ⟨by omega, by rw [numsT_take hx]; simpa [List.append_assoc] using B4, e4, w4, f2.trans ((Frm.of_ext w2 e3).trans f4)⟩, by omega⟩
  · obtain rfl : k = n := by omega
    rw [List.take_of_length_le (by omega)] at B2 hnl hs2
    repeat' ((conv => whnf); first
      | (refine Both.intro ?_ ?_ <;> intro _ <;> try (exfalso; omega))
      | (refine Need.intro (by omega) ?_)
      | (refine Does.mono (writeByte_any H0 H2 b _ B2 e2 w2 10 (by rw [hs2]; omega)) ?_ ; rintro _ H3 ⟨rfl, B3, e3, w3, f3⟩)
      | fail)
    all_goals (conv => whnf)
    exact ⟨rfl, by unfold lineT; simpa [List.append_assoc] using B3, e3, w3, f2.trans f3⟩
theorem refLine_any (H : AHeap) (a : Option Addr) (n c : Nat) (xs : List ByteArray) (hr : Row H a n c (xs.map .string)) (hn : n ≤ 2 ^ 40) (hl : (Lib.join (xs.map (·.data.toList)) [32]).length ≤ 2 ^ 40) :
    Does Tryd.prog orc 21 [.slice a n c] H fun r H' => r = .ret (.string (mkS (Lib.join (xs.map (·.data.toList)) [32] ++ [10]))) ∧ H = H' := by
  refine Does.of Tryd.func21 (fun _ _ => rfl) rfl ?_
  have hj := join_any H a n c xs ⟨#[32]⟩ hr hn hl
  have hsa := strAdd (x := mkS (Lib.join (xs.map (·.data.toList)) [32])) (y := ⟨#[10]⟩) (a := Lib.join (xs.map (·.data.toList)) [32]) (b := [10]) rfl rfl (by simp; omega)
  repeat' ((conv => whnf); first
    | (refine Both.intro ?_ ?_ <;> intro _ <;> try (exfalso; omega))
    | (refine Need.intro (by omega) ?_)
    | (refine Does.mono hj ?_ ; rintro _ _ ⟨rfl, rfl⟩)
    | (refine Gives.intro ⟨_, hsa, ?_⟩)
    | fail)
  all_goals (conv => whnf)
  exact ⟨rfl, rfl⟩
end Go.AX.Tryd
