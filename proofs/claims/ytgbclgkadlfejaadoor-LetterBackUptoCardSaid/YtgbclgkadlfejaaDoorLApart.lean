/- Contracts: copies of letters, letters turned over, lists that share nothing. -/
import Derived.Test.YtgbclgkadlfejaaDoorLAll
namespace Go.AX.Tryd
open Go Go.AX Go.AX.Lw Go.Proofs
set_option linter.unusedVariables false
set_option maxRecDepth 100000

/-- A copy: a row of its own. -/
def Copied (B : Nat) (H' : AHeap) (v : Value) (vs : List Value) : Prop := ∃ a c, v = .slice a vs.length c ∧ Row H' a vs.length c vs ∧ ∀ b o st, a = some ⟨b, o, st⟩ → B ≤ b
theorem copyLetters_any (H : AHeap) (hw : Wf H) (a : Option Addr) (n c : Nat) (xs : List Int) (hr : Row H a n c (lets xs)) (hn : n ≤ 2 ^ 40) :
    Does Tryd.prog orc 43 [.slice a n c] H fun r H' => ∃ v, r = .ret v ∧ Ext H H' ∧ Wf H' ∧ Copied H.next H' v (lets xs) := by
  have hlen : n = (lets xs).length := hr.len
  refine Does.of Tryd.func43 (fun _ _ => rfl) rfl ?_
  repeat' ((conv => whnf); first
    | (refine Both.intro ?_ ?_ <;> intro _ <;> try (exfalso; omega))
    | (refine Need.intro (by omega) ?_)
    | (refine ⟨_, rfl, ?_⟩)
    | fail)
  all_goals (conv => whnf)
  have hs := (hr.ext hw (Ext.push H (.cells [] 0 true))).src
  by_cases h0 : n = 0
  · have hx : lets xs = [] := List.length_eq_zero_iff.1 (by omega)
    rw [hx] at hs ⊢
    refine Outs.intro ⟨.slice (some ⟨H.next, 0, none⟩) 0 0, _, _, (append_eq letTy hs).trans (?_ : _ = some (Out.val (.slice (some ⟨H.next, 0, none⟩) 0 0) ((H.push (.cells [] 0 true)).set H.next (.cells [] 0 true)) (.eff (H.push (.cells [] 0 true)) ((H.push (.cells [] 0 true)).set H.next (.cells [] 0 true))))), ?_⟩
    · subst h0
      unfold aAppendTo
      simp only [AHeap.get_push, if_pos]
      rfl
    · skip
      repeat' ((conv => whnf); first
        | (refine Both.intro ?_ ?_ <;> intro _ <;> try (exfalso; omega))
        | (refine Need.intro (by omega) ?_)
        | fail)
      all_goals (conv => whnf)
      refine ⟨_, rfl, (Ext.push _ _).set (Nat.le_refl _) _, (hw.push _).set (by rw [AHeap.get_push, if_pos rfl]) _, some ⟨H.next, 0, none⟩, 0, rfl, ?_, fun b o st h => by cases h; exact Nat.le_refl _⟩
      exact ⟨rfl, Nat.le_refl _, fun i x h => by simp at h⟩
  · have he : aAppendTo (H.push (.cells [] 0 true)) 1 (rowV 26 1) 1 (some ⟨H.next, 0, none⟩) 0 0 n (lets xs) = some (.val (.slice (some ⟨H.next + 1, 0, some 0⟩) n n) ((H.push (.cells [] 0 true)).push (.cells (lets xs) (rowV 26 1) true)) (.eff (H.push (.cells [] 0 true)) ((H.push (.cells [] 0 true)).push (.cells (lets xs) (rowV 26 1) true)))) := by
      have hone : allOne (lets xs) = true := by simp [allOne, lets, oneV]
      have c1 : (Nat.ble ((0 + n) * 1) (2 ^ 47) && Nat.ble (0 + n) (2 ^ 47) && Nat.beq (lets xs).length (n * 1) && Nat.ble 0 0 && allOne (lets xs)) = true := by
        simp only [Bool.and_eq_true, Nat.zero_add, Nat.mul_one, ← hlen, nbeq, hone, nble (by omega : n ≤ 2 ^ 47), and_true]
        exact ⟨trivial, rfl⟩
      unfold aAppendTo
      simp only [c1, cond_true]
      rw [nble_no (by omega : ¬ 0 + n ≤ 0)]
      simp only [cond_false, Nat.zero_mul, show Nat.beq 0 0 = true from rfl, cond_true, List.nil_append, Nat.zero_add, AHeap.next_push]
    refine Outs.intro ⟨_, _, _, (append_eq letTy hs).trans he, ?_⟩
    repeat' ((conv => whnf); first
      | (refine Both.intro ?_ ?_ <;> intro _ <;> try (exfalso; omega))
      | (refine Need.intro (by omega) ?_)
      | fail)
    all_goals (conv => whnf)
    refine ⟨_, rfl, (Ext.push _ _).trans (Ext.push _ _), (hw.push _).push _, some ⟨H.next + 1, 0, some 0⟩, n, by rw [← hlen]; rfl, ?_, fun b o st h => by cases h; omega⟩
    rw [← hlen]
    exact Row.of_block (by rw [AHeap.get_push, if_pos (by rfl)]) hlen (Nat.le_refl _) (List.prefix_refl _)

theorem Copied.ext {B : Nat} {H1 H2 : AHeap} {v : Value} {vs : List Value} (hw : Wf H1) (e : Ext H1 H2) (h : Copied B H1 v vs) : Copied B H2 v vs := by
  obtain ⟨a, c, hv, hr, hb⟩ := h
  exact ⟨a, c, hv, hr.ext hw e, hb⟩
theorem Copied.late {B B' : Nat} {H1 : AHeap} {v : Value} {vs : List Value} (e : B' ≤ B) (h : Copied B H1 v vs) : Copied B' H1 v vs := by
  obtain ⟨a, c, hv, hr, hb⟩ := h
  exact ⟨a, c, hv, hr, fun b o st ha => Nat.le_trans e (hb b o st ha)⟩
/-- What lies above a block stays. -/
theorem Copied.above {B : Nat} {H1 H2 : AHeap} {v : Value} {vs : List Value} (hg : ∀ b, B ≤ b → H2.get b = H1.get b) (h : Copied B H1 v vs) : Copied B H2 v vs := by
  obtain ⟨a, c, hv, hr, hb⟩ := h
  refine ⟨a, c, hv, ⟨hr.len, hr.cap, fun i x hx => ?_⟩, hb⟩
  obtain ⟨b, o, st, ha, hc⟩ := hr.cell i x hx
  refine ⟨b, o, st, ha, ?_⟩
  unfold cellAt at hc ⊢
  rwa [hg b (hb b o st ha)]
def flipI (x : Int) : Int := IntKind.u8.wrap (BitVec.ofInt IntKind.u8.bits x ^^^ BitVec.ofInt IntKind.u8.bits 90).toNat
theorem flip_flip : ∀ x < 256, flipI (flipI (x : Nat)) = (x : Nat) := by decide +kernel
theorem flip_range (x : Int) : 0 ≤ flipI x ∧ flipI x < 256 := by
  have h : (BitVec.ofInt IntKind.u8.bits x ^^^ BitVec.ofInt IntKind.u8.bits 90).toNat < 256 := (BitVec.ofInt IntKind.u8.bits x ^^^ BitVec.ofInt IntKind.u8.bits 90).isLt
  unfold flipI
  generalize (BitVec.ofInt IntKind.u8.bits x ^^^ BitVec.ofInt IntKind.u8.bits 90).toNat = y at h
  have : IntKind.u8.wrap (y : Int) = y := by
    simp [IntKind.wrap, IntKind.bits, IntKind.signed]; omega
  omega
theorem overLetters_any (H : AHeap) (A : Nat) (xs : List Int) (hg : H.get A = some (.cells (lets xs) 0 true)) (hn : xs.length ≤ 2 ^ 40) :
    Does Tryd.prog orc 44 [.slice (some ⟨A, 0, none⟩) xs.length xs.length] H fun r H' => ∃ v, r = .ret v ∧ But A H H' ∧ H'.get A = some (.cells (lets (xs.map flipI)) 0 true) := by
  refine Does.of Tryd.func44 (fun _ _ => rfl) rfl ?_
  repeat' ((conv => whnf); first
    | (refine Both.intro ?_ ?_ <;> intro _ <;> try (exfalso; omega))
    | (refine Need.intro (by omega) ?_)
    | (refine Gives.intro ⟨_, slice_toN Tryd.underlying24 (n := 1) (by kernel_rfl) (Nat.le_refl _), ?_⟩)
    | fail)
  all_goals (conv => whnf)
  refine Runs.loop (fun k : Nat => [(3, .int .i64 k), (2, .slice (some ⟨A, 0, none⟩) xs.length xs.length)]) (fun k H' => k ≤ xs.length ∧ But A H H' ∧ H'.get A = some (.cells (lets ((xs.take k).map flipI ++ xs.drop k)) 0 true)) (fun k => xs.length - k) 0 ⟨rfl, rfl, trivial⟩ ⟨by omega, ⟨rfl, fun _ _ => rfl⟩, by simpa using hg⟩ ?_
  rintro k H1 ⟨hk, hb, hg1⟩
  by_cases hlt : k < xs.length
  · obtain ⟨x, hx⟩ := get_of hlt
    have hl : ((xs.take k).map flipI).length = k := by simp; omega
    have hcell : cellAt H1 A (0 + k) = some (.int .u8 x) := by
      unfold cellAt
      simp only [hg1, Nat.zero_add, lets, List.getElem?_map]
      rw [List.getElem?_append_right (by omega), hl, Nat.sub_self, List.getElem?_drop, Nat.add_zero, hx]
      rfl
    repeat' ((conv => whnf); first
      | (refine Both.intro ?_ ?_ <;> intro _ <;> try (exfalso; omega))
      | (refine Need.intro (by omega) ?_)
      | (refine ⟨_, hcell, ?_⟩)
      | (refine Gives.intro ⟨_, rfl, ?_⟩)
      | (refine Outs.intro ⟨_, _, _, store_ok (by kernel_rfl) rfl rfl hg1 (by simp [lets]; omega), ?_⟩)
      | fail)
    all_goals (conv => whnf)
    refine ⟨k + 1, ⟨rfl, rfl, trivial⟩, ⟨by omega, ⟨hb.next, fun b hbA => by rw [AHeap.get_set, if_neg hbA]; exact hb.get b hbA⟩, ?_⟩, by omega⟩
    rw [AHeap.get_set, if_pos rfl, Nat.zero_add, Int.toNat_natCast]
    congr 2
    have hd : xs.drop k = x :: xs.drop (k + 1) := by rw [List.drop_eq_getElem_cons hlt]; congr 1; simpa [hlt] using hx
    rw [List.take_add_one, hx, hd]
    simp only [lets, List.map_append, List.map_cons, List.map_nil, Option.toList_some]
    rw [List.set_append, if_neg (by simp; omega), show k - (List.map (Value.int IntKind.u8) (List.map flipI (List.take k xs))).length = 0 by simp; omega]
    simp [flipI]
  · skip
    repeat' ((conv => whnf); first
      | (refine Both.intro ?_ ?_ <;> intro _ <;> try (exfalso; omega))
      | (refine Need.intro (by omega) ?_)
      | fail)
    all_goals (conv => whnf)
    obtain rfl : k = xs.length := by omega
    exact ⟨_, rfl, hb, by rw [hg1]; simp⟩
theorem overLetters_nil (H : AHeap) : Does Tryd.prog orc 44 [.slice none 0 0] H fun r H' => ∃ v, r = .ret v ∧ H = H' := by
  refine Does.of Tryd.func44 (fun _ _ => rfl) rfl ?_
  repeat' ((conv => whnf); first
    | (refine Both.intro ?_ ?_ <;> intro _ <;> try (exfalso; omega))
    | (refine Need.intro (by omega) ?_)
    | (refine Gives.intro ⟨_, slice_toN (m := 0) Tryd.underlying24 (n := 1) (by kernel_rfl) (Nat.le_refl _), ?_⟩)
    | fail)
  all_goals (conv => whnf)
  refine Runs.loop (fun k : Unit => [(3, .int .i64 0), (2, .slice none 0 0)]) (fun k H' => H = H') (fun _ => 0) () ⟨rfl, rfl, trivial⟩ rfl ?_
  rintro _ _ rfl
  repeat' ((conv => whnf); first
    | (refine Both.intro ?_ ?_ <;> intro _ <;> try (exfalso; omega))
    | (refine Need.intro (by omega) ?_)
    | fail)
  all_goals (conv => whnf)
  exact ⟨_, rfl, rfl⟩

/-- A list that is nil, or the whole of a block of its own. -/
abbrev LV := Option Nat × List Int
def lv (l : LV) : Value := .slice (l.1.map fun A => ⟨A, 0, none⟩) l.2.length l.2.length
structure Lists (H : AHeap) (L : Nat) (ls : List LV) : Prop where
  hL : H.get L = some (.cells (ls.map lv) 0 true)
  nil : ∀ (j : Nat) xs, ls[j]? = some (none, xs) → xs = []
  get : ∀ (j A : Nat) xs, ls[j]? = some (some A, xs) → H.get A = some (.cells (lets xs) 0 true) ∧ A ≠ L ∧ (∀ x ∈ xs, 0 ≤ x ∧ x < 256) ∧ xs.length ≤ 2 ^ 40
  apart : ∀ (i j A : Nat) xs ys, ls[i]? = some (some A, xs) → ls[j]? = some (some A, ys) → i = j
theorem Lists.ext {H H' : AHeap} {L : Nat} {ls : List LV} (hw : Wf H) (e : Ext H H') (h : Lists H L ls) : Lists H' L ls :=
  ⟨by rw [e.get L (hw.lt h.hL)]; exact h.hL, h.nil, fun j A xs hj => by obtain ⟨h1, h2⟩ := h.get j A xs hj; exact ⟨by rw [e.get A (hw.lt h1)]; exact h1, h2⟩, h.apart⟩
theorem Lists.row {H : AHeap} {L : Nat} {ls : List LV} (h : Lists H L ls) {j : Nat} {l : LV} (hj : ls[j]? = some l) : Row H (l.1.map fun A => ⟨A, 0, none⟩) l.2.length l.2.length (lets l.2) := by
  obtain ⟨o, xs⟩ := l
  cases o with
  | none => obtain rfl := h.nil j xs hj; exact ⟨rfl, Nat.le_refl _, fun i x hx => by simp at hx⟩
  | some A => exact Row.of_block (h.get j A xs hj).1 (by simp) (Nat.le_refl _) (List.prefix_refl _)
theorem Lists.cell {H : AHeap} {L : Nat} {ls : List LV} (h : Lists H L ls) {j : Nat} {l : LV} (hj : ls[j]? = some l) : cellAt H L (0 + j) = some (lv l) := by
  unfold cellAt; rw [h.hL]; simp [hj]
theorem Lists.len {H : AHeap} {L : Nat} {ls : List LV} (h : Lists H L ls) {j : Nat} {l : LV} (hj : ls[j]? = some l) : l.2.length ≤ 2 ^ 40 := by
  obtain ⟨o, xs⟩ := l
  cases o with
  | none => obtain rfl := h.nil j xs hj; exact Nat.zero_le _
  | some A => exact (h.get j A xs hj).2.2.2
theorem map_flip {xs : List Int} (h : ∀ x ∈ xs, 0 ≤ x ∧ x < 256) : (xs.map flipI).map flipI = xs := by
  rw [List.map_map]
  conv => rhs; rw [← List.map_id xs]
  refine List.map_congr_left fun x hx => ?_
  obtain ⟨h0, h1⟩ := h x hx
  obtain ⟨n, rfl⟩ := Int.eq_ofNat_of_zero_le h0
  exact flip_flip n (by omega)

def Turn (l : LV) (H H' : AHeap) : Prop :=
  match l.1 with
  | none => H = H'
  | some A => But A H H' ∧ H'.get A = some (.cells (lets (l.2.map flipI)) 0 true)
theorem turn_any {H : AHeap} {L : Nat} {ls : List LV} (hl : Lists H L ls) {i : Nat} {l : LV} (hi : ls[i]? = some l) : Does Tryd.prog orc 44 [lv l] H fun r H' => ∃ v, r = .ret v ∧ Turn l H H' := by
  obtain ⟨o, xs⟩ := l
  cases o with
  | none => obtain rfl := hl.nil i xs hi; exact overLetters_nil H
  | some A =>
    obtain ⟨h1, -, -, h2⟩ := hl.get i A xs hi
    exact overLetters_any H A xs h1 h2
theorem turn_back {H H1 : AHeap} {L : Nat} {ls : List LV} (hl : Lists H L ls) {i : Nat} {l : LV} (hi : ls[i]? = some l) (ht : Turn l H H1) : Does Tryd.prog orc 44 [lv l] H1 fun r H' => ∃ v, r = .ret v ∧ H'.next = H.next ∧ ∀ b, H'.get b = H.get b := by
  obtain ⟨o, xs⟩ := l
  cases o with
  | none =>
    obtain rfl := hl.nil i xs hi
    obtain rfl : H = H1 := ht
    exact (overLetters_nil H).mono fun r H' ⟨v, hv, he⟩ => ⟨v, hv, by subst he; rfl, fun b => by subst he; rfl⟩
  | some A =>
    obtain ⟨h1, -, h3, h2⟩ := hl.get i A xs hi
    obtain ⟨hb, hg⟩ : But A H H1 ∧ H1.get A = some (.cells (lets (xs.map flipI)) 0 true) := ht
    have hov := overLetters_any H1 A (xs.map flipI) hg (by simpa using h2)
    rw [List.length_map, map_flip h3] at hov
    refine hov.mono fun r H' ⟨v, hv, hb', hg'⟩ => ⟨v, hv, hb'.next.trans hb.next, fun b => ?_⟩
    by_cases hbA : b = A
    · subst hbA; rw [hg', h1]
    · rw [hb'.get b hbA, hb.get b hbA]
/-- What the turning over of one list leaves. -/
theorem Turn.get {l : LV} {H H' : AHeap} (h : Turn l H H') {b : Nat} (hb : l.1 ≠ some b) : H'.get b = H.get b := by
  obtain ⟨o, xs⟩ := l
  cases o with
  | none => obtain rfl : H = H' := h; rfl
  | some A => exact h.1.get b fun e => hb (by rw [e])

theorem apartLetters_any (H : AHeap) (hw : Wf H) (L : Nat) (ls : List LV) (hl : Lists H L ls) (hm : ls.length ≤ 2 ^ 20) :
    Does Tryd.prog orc 28 [.slice (some ⟨L, 0, none⟩) ls.length ls.length] H fun r H' => r = .ret (.bool true) ∧ Ext H H' ∧ Wf H' := by
  refine Does.of Tryd.func28 (fun _ _ => rfl) rfl ?_
  conv => whnf
  refine Runs.loop (fun i : Nat => [(3, .int .i64 i), (0, .slice (some ⟨L, 0, none⟩) ls.length ls.length)]) (fun i H' => i ≤ ls.length ∧ Ext H H' ∧ Wf H') (fun i => ls.length - i) 0 ⟨rfl, rfl, trivial⟩ ⟨by omega, Ext.refl _, hw⟩ ?_
  rintro i H1 ⟨hi, he1, hw1⟩
  have hl1 := hl.ext hw he1
  by_cases hlt : i < ls.length
  · obtain ⟨li, hli⟩ := get_of hlt
    repeat' ((conv => whnf); first
      | (refine Both.intro ?_ ?_ <;> intro _ <;> try (exfalso; omega))
      | (refine Need.intro (by omega) ?_)
      | fail)
    all_goals (conv => whnf)
    refine ⟨_, _, _, makeSlice_ok Tryd.underlying46 (z := .slice none 0 0) (by kernel_rfl) rfl (by_ := 24) (by kernel_rfl) (by kernel_rfl) (by omega), ?_⟩
    rw [Int.toNat_natCast]
    repeat' ((conv => whnf); first
      | (refine Both.intro ?_ ?_ <;> intro _ <;> try (exfalso; omega))
      | (refine Need.intro (by omega) ?_)
      | fail)
    all_goals (conv => whnf)
    -- the copies
    refine Runs.loop (fun s : Nat × List Value => [(5, .int .i64 s.1), (4, .slice (some ⟨H1.next, 0, none⟩) ls.length ls.length), (3, .int .i64 i), (0, .slice (some ⟨L, 0, none⟩) ls.length ls.length)])
      (fun s H' => s.1 ≤ ls.length ∧ Ext H H' ∧ Wf H' ∧ s.2.length = s.1 ∧ H'.get H1.next = some (.cells (s.2 ++ List.replicate (ls.length - s.1) (.slice none 0 0)) 0 true) ∧ ∀ (j : Nat) v l, s.2[j]? = some v → ls[j]? = some l → Copied (H1.next + 1) H' v (lets l.2))
      (fun s => ls.length - s.1) (0, []) ⟨rfl, rfl, rfl, rfl, trivial⟩ ⟨by omega, he1.trans (Ext.push _ _), hw1.push _, rfl, by rw [AHeap.get_push, if_pos rfl]; simp, by simp⟩ ?_
    rintro ⟨k, cs⟩ H2 ⟨hk, he2, hw2, hcs, hg2, hcop⟩
    dsimp only at hk hcs hg2 hcop
    have hl2 := hl.ext hw he2
    by_cases hlk : k < ls.length
    · obtain ⟨l, hlk'⟩ := get_of hlk
      obtain ⟨o, xs⟩ := l
      have hcell := hl2.cell hlk'
      have hrow := hl2.row hlk'
      have hln := hl2.len hlk'
      unfold lv at hcell
      have hlt3 : H1.next < H2.next := hw2.lt hg2
      cases o
      all_goals
        dsimp only [Option.map] at hcell hrow
        repeat' ((conv => whnf); first
          | (refine Both.intro ?_ ?_ <;> intro _ <;> try (exfalso; omega))
          | (refine Need.intro (by omega) ?_)
          | (refine ⟨_, hcell, ?_⟩)
          | (refine Gives.intro ⟨_, slice_toN Tryd.underlying24 (n := 1) (by kernel_rfl) (Nat.le_refl _), ?_⟩)
          | (refine Does.mono (copyLetters_any H2 hw2 _ _ _ xs hrow hln) ?_; rintro _ H3 ⟨v, rfl, he3, hw3, hc3⟩)
          | fail)
        all_goals (conv => whnf)
        have hg3 : H3.get H1.next = _ := (he3.get _ hlt3).trans hg2
        have hlen : k < (cs ++ List.replicate (ls.length - k) (Value.slice none 0 0)).length := by simp; omega
        have hset : (cs ++ List.replicate (ls.length - k) (Value.slice none 0 0)).set k v = (cs ++ [v]) ++ List.replicate (ls.length - (k + 1)) (Value.slice none 0 0) := by
          rw [List.set_append, hcs, if_neg (by omega), Nat.sub_self, show ls.length - k = (ls.length - (k + 1)) + 1 by omega, List.replicate_succ]
          simp
        have hone : v.cells.toList = [v] ∧ oneV v = true := by obtain ⟨a', c', rfl, -⟩ := hc3; exact ⟨rfl, rfl⟩
        refine Outs.intro ⟨_, _, _, store_ok (by kernel_rfl) hone.1 hone.2 hg3 (by rw [Nat.zero_add, Int.toNat_natCast]; exact hlen), ?_⟩
        repeat' ((conv => whnf); first
          | (refine Both.intro ?_ ?_ <;> intro _ <;> try (exfalso; omega))
          | (refine Need.intro (by omega) ?_)
          | (refine Need.intro (DrawP.intro (by kernel_rfl)) ?_)
          | fail)
        all_goals (conv => whnf)
        refine ⟨(k + 1, cs ++ [v]), ⟨rfl, rfl, rfl, rfl, trivial⟩, ⟨by show k + 1 ≤ _; omega, ?_, hw3.set hg3 _, by simp [hcs], ?_, ?_⟩, by dsimp only; omega⟩
        · exact (he2.trans he3).set he1.next _
        · rw [AHeap.get_set, if_pos rfl, Nat.zero_add, Int.toNat_natCast, hset]
        · intro j u l hj hl'
          have hab : ∀ {u : Value} {us : List Value}, Copied (H1.next + 1) H3 u us → Copied (H1.next + 1) (H3.set H1.next (.cells ((cs ++ List.replicate (ls.length - k) (Value.slice none 0 0)).set (0 + ((k : Int)).toNat) v) 0 true)) u us := fun h => h.above fun b hb => by rw [AHeap.get_set, if_neg (by omega)]
          by_cases hjk : j < k
          · rw [List.getElem?_append_left (by omega)] at hj
            exact hab ((hcop j u l hj hl').ext hw2 he3)
          · have : j < (cs ++ [v]).length := (List.getElem?_eq_some_iff.1 hj).1
            obtain rfl : j = k := by simp at this; omega
            rw [List.getElem?_append_right (by omega), hcs, Nat.sub_self] at hj
            cases hj
            rw [hlk'] at hl'
            cases hl'
            exact hab (hc3.late (by omega))
    · have hkk : k = ls.length := by omega
      subst hkk
      simp only [Nat.sub_self, List.replicate_zero, List.append_nil] at hg2
      have hcelli := hl2.cell hli
      repeat' ((conv => whnf); first
        | (refine Both.intro ?_ ?_ <;> intro _ <;> try (exfalso; omega))
        | (refine Need.intro (by omega) ?_)
        | (refine ⟨_, hcelli, ?_⟩)
        | (refine Does.mono ((turn_any hl2 hli).wf hw2) ?_; rintro _ H3 ⟨⟨v, rfl, ht⟩, hw3⟩)
        | fail)
      all_goals (conv => whnf)
      -- what the list itself, and what the new blocks are
      have hW : H1.next < H2.next := hw2.lt hg2
      have hold : ∀ b, li.1 = some b → b < H1.next ∧ b ≠ L := fun b hb => by
        obtain ⟨o, xs⟩ := li
        obtain rfl : o = some b := hb
        exact ⟨hw1.lt (hl1.get i b xs hli).1, (hl1.get i b xs hli).2.1⟩
      have hL3 : H3.get L = H2.get L := ht.get fun e => (hold L e).2 rfl
      have hW3 : ∀ b, H1.next ≤ b → H3.get b = H2.get b := fun b hb => ht.get fun e => by have := (hold b e).1; omega
      refine Runs.loop (fun k : Nat => [(6, .int .i64 k), (4, .slice (some ⟨H1.next, 0, none⟩) ls.length ls.length), (3, .int .i64 i), (0, .slice (some ⟨L, 0, none⟩) ls.length ls.length)])
        (fun k H' => k ≤ ls.length ∧ H3 = H') (fun k => ls.length - k) 0 ⟨rfl, rfl, rfl, rfl, trivial⟩ ⟨by omega, rfl⟩ ?_
      rintro k _ ⟨hk, rfl⟩
      by_cases hlk : k < ls.length
      · obtain ⟨l, hlk'⟩ := get_of hlk
        obtain ⟨v', hv'⟩ := get_of (l := cs) (k := k) (by omega)
        obtain ⟨o, xs⟩ := l
        have hcell := hl2.cell hlk'
        rw [← cellAt_same hL3] at hcell
        have hln := hl2.len hlk'
        have hcellW : cellAt H3 H1.next (0 + k) = some v' := by
          rw [cellAt_same (hW3 _ (Nat.le_refl _))]; unfold cellAt; rw [hg2]; simpa using hv'
        have hc : Copied (H1.next + 1) H3 v' (lets xs) := (hcop k v' _ hv' hlk').above fun b hb => hW3 b (Nat.le_of_succ_le hb)
        obtain ⟨a', c', rfl, hr', -⟩ := hc
        unfold lv at hcell
        by_cases hki : k = i
        · subst hki
          repeat' ((conv => whnf); first
            | (refine Both.intro ?_ ?_ <;> intro _ <;> try (exfalso; omega))
            | (refine Need.intro (by omega) ?_)
            | (refine Need.intro (DrawP.intro (by kernel_rfl)) ?_)
            | fail)
          all_goals (conv => whnf)
          exact ⟨k + 1, ⟨rfl, rfl, rfl, rfl, trivial⟩, ⟨by omega, rfl⟩, by omega⟩
        · have hrow : Row H3 (Option.map (fun A => ⟨A, 0, none⟩) (o, xs).1) (o, xs).2.length (o, xs).2.length (lets (o, xs).2) := (hl2.row hlk').same fun b o' st hb => ht.get fun e => by
            obtain ⟨oi, xi⟩ := li
            obtain rfl : oi = some b := e
            cases o with
            | none => cases hb
            | some A => cases hb; exact hki (hl2.apart _ _ _ _ _ hlk' hli)
          cases o
          all_goals
            dsimp only [Option.map] at hcell hrow
            repeat' ((conv => whnf); first
              | (refine Both.intro ?_ ?_ <;> intro _ <;> try (exfalso; omega))
              | (refine Need.intro (by omega) ?_)
              | (refine ⟨_, hcell, ?_⟩)
              | (refine ⟨_, hcellW, ?_⟩)
              | (refine Gives.intro ⟨_, slice_toN Tryd.underlying24 (n := 1) (by kernel_rfl) (Nat.le_refl _), ?_⟩)
              | (refine Need.intro (DrawP.intro (by kernel_rfl)) ?_)
              | (refine Does.mono (sameLetters_any H3 _ _ _ _ _ _ xs xs hrow hr' (by have : xs.length ≤ 2 ^ 40 := hln; omega) (by have : xs.length ≤ 2 ^ 40 := hln; simp; omega)) ?_; rintro _ _ ⟨b, rfl, hb, rfl⟩; cases (hb.2 rfl))
              | fail)
            all_goals (conv => whnf)
            all_goals exact ⟨k + 1, ⟨rfl, rfl, rfl, rfl, trivial⟩, ⟨by omega, rfl⟩, by omega⟩
      · have hcelli3 := hcelli
        rw [← cellAt_same hL3] at hcelli3
        repeat' ((conv => whnf); first
          | (refine Both.intro ?_ ?_ <;> intro _ <;> try (exfalso; omega))
          | (refine Need.intro (by omega) ?_)
          | (refine ⟨_, hcelli3, ?_⟩)
          | (refine Does.mono ((turn_back hl2 hli ht).wf hw3) ?_; rintro _ H4 ⟨⟨v, rfl, hn4, hg4⟩, hw4⟩)
          | fail)
        all_goals (conv => whnf)
        exact ⟨i + 1, ⟨rfl, rfl, trivial⟩, ⟨by omega, ⟨by rw [hn4]; exact he2.next, fun b hb => (hg4 b).trans (he2.get b hb)⟩, hw4⟩, by omega⟩
  · skip
    repeat' ((conv => whnf); first
      | (refine Both.intro ?_ ?_ <;> intro _ <;> try (exfalso; omega))
      | (refine Need.intro (by omega) ?_)
      | fail)
    all_goals (conv => whnf)
    exact ⟨rfl, he1, hw1⟩
end Go.AX.Tryd
