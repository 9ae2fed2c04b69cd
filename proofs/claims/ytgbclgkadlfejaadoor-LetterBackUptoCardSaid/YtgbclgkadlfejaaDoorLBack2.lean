/- LetterBack answers true, over any memory. -/
import Derived.Test.YtgbclgkadlfejaaDoorLBack
namespace Go.AX.Tryd
open Go Go.AX Go.AX.Lw Go.Proofs
set_option linter.unusedVariables false
set_option maxRecDepth 100000

theorem fits_yes (H : AHeap) (n l : Nat) (h8 : n ≤ 8) (hl : l < 2 ^ n) : Does Tryd.prog orc 9 [.int .i64 n, .int .u8 l] H fun r H' => r = .ret (.bool true) ∧ H = H' :=
  (fits_any H n l (Nat.lt_of_lt_of_le hl (two_pow_le h8).1)).mono fun r H' ⟨b, hb, hi, he⟩ => by
    obtain rfl : b = true := hi.2 ⟨by omega, by omega, by rw [Int.toNat_natCast]; exact hl⟩
    exact ⟨hb, he⟩
theorem fits_no (H : AHeap) (n l : Nat) (hl : ¬ l < 2 ^ n) (h256 : l < 256) : Does Tryd.prog orc 9 [.int .i64 n, .int .u8 l] H fun r H' => r = .ret (.bool false) ∧ H = H' :=
  (fits_any H n l h256).mono fun r H' ⟨b, hb, hi, he⟩ => by
    cases b with
    | false => exact ⟨hb, he⟩
    | true => exact absurd (by simpa using (hi.1 rfl).2.2) hl
theorem print_yes (H : AHeap) (w : Wf H) (a : Option Addr) (n c : Nat) (ss : List ByteArray) (hr : Row H a n c (strs ss)) (hf : Fine ss) (l : Nat) (hl : l < 2 ^ ss.length) :
    Does Tryd.prog orc 15 [.slice a n c, .int .u8 l] H fun r H' => r = .ret (.tuple #[.string (mkS (textOf ss l)), .int .i64 0]) ∧ Ext H H' ∧ Wf H' := by
  have hlen := hr.len; simp at hlen
  have h8 := hf.len
  subst hlen
  refine Does.of Tryd.func15 (fun _ _ => rfl) rfl ?_
  repeat' ((conv => whnf); first
    | (refine Both.intro ?_ ?_ <;> intro _ <;> try (exfalso; omega))
    | (refine Need.intro (by omega) ?_)
    | fail)
  all_goals (conv => whnf)
  refine Does.mono (check_any H w _ _ _ ss hr (by omega)) ?_; rintro _ H1 ⟨rfl, e1, w1⟩; rw [hf.ok]
  replace hr := hr.ext w e1
  repeat' ((conv => whnf); first
    | (refine Both.intro ?_ ?_ <;> intro _ <;> try (exfalso; omega))
    | (refine Need.intro (by omega) ?_)
    | (refine Does.mono (fits_yes _ _ _ h8 hl) ?_; rintro _ _ ⟨rfl, rfl⟩)
    | (refine Does.mono (text_any _ w1 _ _ _ ss hr hf l (Nat.lt_of_lt_of_le hl (two_pow_le h8).1)) ?_; rintro _ H2 ⟨rfl, e2, w2⟩)
    | fail)
  all_goals (conv => whnf)
  exact ⟨rfl, e1.trans e2, w2⟩
theorem print_no (H : AHeap) (w : Wf H) (a : Option Addr) (n c : Nat) (ss : List ByteArray) (hr : Row H a n c (strs ss)) (hf : Fine ss) (l : Nat) (hl : ¬ l < 2 ^ ss.length) (h256 : l < 256) :
    Does Tryd.prog orc 15 [.slice a n c, .int .u8 l] H fun r H' => r = .ret (.tuple #[.string ⟨#[]⟩, .int .i64 2]) ∧ Ext H H' ∧ Wf H' := by
  have hlen := hr.len; simp at hlen
  have h8 := hf.len
  subst hlen
  refine Does.of Tryd.func15 (fun _ _ => rfl) rfl ?_
  repeat' ((conv => whnf); first
    | (refine Both.intro ?_ ?_ <;> intro _ <;> try (exfalso; omega))
    | (refine Need.intro (by omega) ?_)
    | fail)
  all_goals (conv => whnf)
  refine Does.mono (check_any H w _ _ _ ss hr (by omega)) ?_; rintro _ H1 ⟨rfl, e1, w1⟩; rw [hf.ok]
  repeat' ((conv => whnf); first
    | (refine Both.intro ?_ ?_ <;> intro _ <;> try (exfalso; omega))
    | (refine Need.intro (by omega) ?_)
    | (refine Does.mono (fits_no _ _ _ hl h256) ?_; rintro _ _ ⟨rfl, rfl⟩)
    | fail)
  all_goals (conv => whnf)
  exact ⟨rfl, e1, w1⟩
theorem parse_text (H : AHeap) (w : Wf H) (a : Option Addr) (n c : Nat) (ss : List ByteArray) (hr : Row H a n c (strs ss)) (hf : Fine ss) (l : Nat) (hl : l < 2 ^ ss.length) :
    Does Tryd.prog orc 17 [.slice a n c, .string (mkS (textOf ss l))] H fun r H' => r = .ret (.tuple #[.int .u8 l, .int .i64 0]) ∧ Ext H H' ∧ Wf H' := by
  have hlen := hr.len; simp at hlen
  have h8 := hf.len
  subst hlen
  have htl := text_len hf l
  have hrt := read_text hf hl
  refine Does.of Tryd.func17 (fun _ _ => rfl) rfl ?_
  repeat' ((conv => whnf); first
    | (refine Both.intro ?_ ?_ <;> intro _ <;> try (exfalso; omega))
    | (refine Need.intro (by omega) ?_)
    | fail)
  all_goals (conv => whnf)
  refine Does.mono (check_any H w _ _ _ ss hr (by omega)) ?_; rintro _ H1 ⟨rfl, e1, w1⟩; rw [hf.ok]
  replace hr := hr.ext w e1
  repeat' ((conv => whnf); first
    | (refine Both.intro ?_ ?_ <;> intro _ <;> try (exfalso; omega))
    | (refine Need.intro (by omega) ?_)
    | fail)
  all_goals (conv => whnf)
  refine Does.mono (read_any H1 w1 _ _ _ ss hr hf (mkS (textOf ss l)) (by show (mkS (textOf ss l)).size ≤ _; simp [mkS, ByteArray.size]; omega)) ?_; rintro _ H2 ⟨b, rfl, hb, e2, w2⟩
  rw [mkS_bytes, hrt] at hb ⊢
  cases (hb.2 rfl)
  repeat' ((conv => whnf); first
    | (refine Both.intro ?_ ?_ <;> intro _ <;> try (exfalso; omega))
    | (refine Need.intro (by omega) ?_)
    | fail)
  all_goals (conv => whnf)
  exact ⟨rfl, e1.trans e2, w2⟩
abbrev natL (t : List Nat) : List Value := t.map fun x : Nat => .int .u8 (x : Int)
theorem trace_any (H : AHeap) (n : Nat) (h8 : n ≤ 8) (a : Option Addr) (m c : Nat) (t : List Nat) (hr : Row H a m c (natL t)) (ht : ∀ x ∈ t, x < 256) (hm : m ≤ 2 ^ 30) :
    Does Tryd.prog orc 24 [.int .i64 n, .slice a m c] H fun r H' => ∃ e, r = .ret (.int .i64 e) ∧ (e = 0 ↔ t.length ≤ 1024 ∧ ∀ x ∈ t, x < 2 ^ n) ∧ H = H' := by
  have hlen := hr.len; simp at hlen
  have hcap := hr.cap
  refine Does.of Tryd.func24 (fun _ _ => rfl) rfl ?_
  repeat' ((conv => whnf); first
    | (refine Both.intro ?_ ?_ <;> intro _ <;> try (exfalso; omega))
    | (refine Need.intro (by omega) ?_)
    | (refine Does.mono (number_any _ _) ?_; rintro _ _ ⟨b, rfl, hb, rfl⟩; obtain rfl : b = true := hb.2 (by omega))
    | fail)
  all_goals (conv => whnf)
  · exact ⟨_, rfl, by simp; omega, rfl⟩
  refine Runs.loop (fun k : Nat => [(15, .int .i64 k), (14, .int .i64 m), (13, .slice a m c), (0, .int .i64 n)]) (fun k H' => H = H' ∧ k ≤ m ∧ ∀ (j : Nat) x, j < k → t[j]? = some x → x < 2 ^ n) (fun k => m - k) 0 ⟨rfl, rfl, rfl, rfl, trivial⟩ ⟨rfl, by omega, by omega⟩ ?_
  rintro k _ ⟨rfl, hk, hall⟩
  by_cases hlt : k < m
  · obtain ⟨x, hx⟩ := get_of (l := t) (k := k) (by omega)
    obtain ⟨b, o, st, rfl, hcell⟩ := hr.cell k (.int .u8 x) (by simp [natL, hx])
    have h256 := ht x (List.mem_of_getElem? hx)
    by_cases hxl : x < 2 ^ n
    · skip
      repeat' ((conv => whnf); first
        | (refine Both.intro ?_ ?_ <;> intro _ <;> try (exfalso; omega))
        | (refine Need.intro (by omega) ?_)
        | (refine ⟨_, hcell, ?_⟩)
        | (refine Does.mono (fits_yes _ _ _ h8 hxl) ?_; rintro _ _ ⟨rfl, rfl⟩)
        | fail)
      all_goals (conv => whnf)
      exact ⟨k + 1, ⟨rfl, rfl, rfl, rfl, trivial⟩, ⟨rfl, by omega, all_step (R := fun _ x => x < 2 ^ n) hall hx hxl⟩, by omega⟩
    · skip
      repeat' ((conv => whnf); first
        | (refine Both.intro ?_ ?_ <;> intro _ <;> try (exfalso; omega))
        | (refine Need.intro (by omega) ?_)
        | (refine ⟨_, hcell, ?_⟩)
        | (refine Does.mono (fits_no _ _ _ hxl h256) ?_; rintro _ _ ⟨rfl, rfl⟩)
        | fail)
      all_goals (conv => whnf)
      exact ⟨_, rfl, iff_of_false (by decide) (fun h => hxl (h.2 x (List.mem_of_getElem? hx))), rfl⟩
  · skip
    repeat' ((conv => whnf); first
      | (refine Both.intro ?_ ?_ <;> intro _ <;> try (exfalso; omega))
      | (refine Need.intro (by omega) ?_)
      | fail)
    all_goals (conv => whnf)
    exact ⟨_, rfl, iff_of_true rfl ⟨by omega, fun x hx => by obtain ⟨j, hj⟩ := List.getElem?_of_mem hx; exact hall j x (by have := (List.getElem?_eq_some_iff.1 hj).1; omega) hj⟩, rfl⟩
/-- A trace that is printed. -/
structure OkT (ss : List ByteArray) (t : List Nat) : Prop where
  len : t.length ≤ 1024
  fit : ∀ x ∈ t, x < 2 ^ ss.length
  size : (traceT ss t).length ≤ 4096
theorem printTrace_any (H : AHeap) (w : Wf H) (a : Option Addr) (n c : Nat) (ss : List ByteArray) (hr : Row H a n c (strs ss)) (hf : Fine ss) (a' : Option Addr) (m c' : Nat) (t : List Nat) (hr' : Row H a' m c' (natL t)) (ht : ∀ x ∈ t, x < 256) (hm : m ≤ 2 ^ 30) :
    Does Tryd.prog orc 19 [.slice a n c, .slice a' m c'] H fun r H' => ∃ s e, r = .ret (.tuple #[.string s, .int .i64 e]) ∧ (e = 0 ↔ OkT ss t) ∧ (e = 0 → s = mkS (traceT ss t)) ∧ Ext H H' ∧ Wf H' := by
  have hlen := hr.len; simp at hlen
  have hlen' := hr'.len; simp at hlen'
  have hcap' := hr'.cap
  have h8 := hf.len
  subst hlen
  refine Does.of Tryd.func19 (fun _ _ => rfl) rfl ?_
  repeat' ((conv => whnf); first
    | (refine Both.intro ?_ ?_ <;> intro _ <;> try (exfalso; omega))
    | (refine Need.intro (by omega) ?_)
    | fail)
  all_goals (conv => whnf)
  refine Does.mono (check_any H w _ _ _ ss hr (by omega)) ?_; rintro _ H1 ⟨rfl, e1, w1⟩; rw [hf.ok]
  replace hr := hr.ext w e1
  replace hr' := hr'.ext w e1
  repeat' ((conv => whnf); first
    | (refine Both.intro ?_ ?_ <;> intro _ <;> try (exfalso; omega))
    | (refine Need.intro (by omega) ?_)
    | fail)
  all_goals (conv => whnf)
  refine Does.mono (trace_any H1 _ h8 _ _ _ t hr' ht hm) ?_; rintro _ _ ⟨e, rfl, he, rfl⟩
  repeat' ((conv => whnf); first
    | (refine Both.intro ?_ ?_ <;> intro _ <;> try (exfalso; omega))
    | (refine Need.intro (by omega) ?_)
    | fail)
  all_goals (conv => whnf)
  · rename_i hne
    exact ⟨_, _, rfl, iff_of_false hne (fun h => hne (he.2 ⟨h.len, h.fit⟩)), fun h => absurd h hne, e1, w1⟩
  rename_i hee
  obtain ⟨ht1, ht2⟩ := he.1 (Classical.not_not.1 hee)
  refine Runs.loop (fun s : Nat × Value => [(26, .int .i64 s.1), (25, .int .i64 m), (24, .slice a' m c'), (8, s.2), (0, .slice a ss.length c)]) (fun s H' => s.1 ≤ m ∧ Ext H1 H' ∧ Wf H' ∧ Grown H1 H' (rowV 9 1) s.2 (strs ((t.take s.1).map fun l => mkS (textOf ss l)))) (fun s => m - s.1) (0, .slice none 0 0) ⟨rfl, rfl, rfl, rfl, rfl, trivial⟩ ⟨by omega, Ext.refl _, w1, .inl ⟨rfl, rfl⟩⟩ ?_
  rintro ⟨k, v⟩ H2 ⟨hk, e2, w2, g2⟩
  dsimp only at hk g2
  have hr2 := hr.ext w1 e2
  have hr2' := hr'.ext w1 e2
  by_cases hlt : k < m
  · obtain ⟨x, hx⟩ := get_of (l := t) (k := k) (by omega)
    obtain ⟨b, o, st, rfl, hcell⟩ := hr2'.cell k (.int .u8 x) (by simp [natL, hx])
    repeat' ((conv => whnf); first
      | (refine Both.intro ?_ ?_ <;> intro _ <;> try (exfalso; omega))
      | (refine Need.intro (by omega) ?_)
      | (refine ⟨_, hcell, ?_⟩)
      | fail)
    all_goals (conv => whnf)
    refine Does.mono (text_any H2 w2 _ _ _ ss hr2 hf x (ht x (List.mem_of_getElem? hx))) ?_; rintro _ H3 ⟨rfl, e3, w3⟩
    repeat' ((conv => whnf); first
      | (refine Both.intro ?_ ?_ <;> intro _ <;> try (exfalso; omega))
      | (refine Need.intro (by omega) ?_)
      | (refine ⟨_, rfl, ?_⟩)
      | fail)
    all_goals (conv => whnf)
    have hsx : srcCells (H3.push (.cells [.string (mkS (textOf ss x))] 0 true)) 1 (.slice (some ⟨H3.next, 0, none⟩) 1 1) = some (1, [.string (mkS (textOf ss x))]) := src_slice (by rw [AHeap.get_push, if_pos rfl]) rfl (Nat.le_refl _) (by decide)
    have htk : (t.take k).length ≤ 1024 := by rw [List.length_take]; omega
    obtain ⟨v', H4, ev, ha, hg', he', hw'⟩ := grown_ok ((e2.trans e3).trans (Ext.push H3 (.cells [.string (mkS (textOf ss x))] 0 true))) (w3.push _) strTy ((g2.ext w2 e3).ext w3 (Ext.push _ _)) hsx rfl rfl (by decide) (by simp only [List.length_map]; omega) (by simp only [List.length_map]; omega)
    refine Outs.intro ⟨v', H4, ev, ha, ?_⟩
    repeat' ((conv => whnf); first
      | (refine Both.intro ?_ ?_ <;> intro _ <;> try (exfalso; omega))
      | (refine Need.intro (by omega) ?_)
      | fail)
    all_goals (conv => whnf)
    refine ⟨(k + 1, v'), ⟨rfl, rfl, rfl, rfl, rfl, trivial⟩, ⟨by show k + 1 ≤ m; omega, he', hw', ?_⟩, by dsimp only; omega⟩
    show Grown H1 H4 _ v' (strs ((t.take (k + 1)).map fun l => mkS (textOf ss l)))
    rw [List.take_add_one, hx]
    simpa using hg'
  · obtain rfl : k = m := by omega
    rw [List.take_of_length_le (by omega)] at g2
    obtain ⟨ao, rfl, hro⟩ := g2.row
    have hjl : (traceT ss t).length ≤ t.length * 201 := by
      have := join_len (c := 59) (B := 200) (xs := t.map (textOf ss)) (by
        intro y hy; obtain ⟨l, _, rfl⟩ := List.mem_map.1 hy; exact text_len hf l)
      rwa [List.length_map] at this
    have hjj : ((t.map fun l => mkS (textOf ss l)).map (·.data.toList)) = t.map (textOf ss) := by
      rw [List.map_map]; exact List.map_congr_left fun l _ => mkS_bytes _
    repeat' ((conv => whnf); first
      | (refine Both.intro ?_ ?_ <;> intro _ <;> try (exfalso; omega))
      | (refine Need.intro (by omega) ?_)
      | fail)
    all_goals (conv => whnf)
    refine Does.mono (join_any H2 _ _ _ (t.map fun l => mkS (textOf ss l)) _ hro (by simp; omega) (by rw [hjj]; show (traceT ss t).length ≤ _; omega)) ?_; rintro _ _ ⟨rfl, rfl⟩
    rw [hjj]
    have hsz : (⟨(Lib.join (t.map (textOf ss)) [59]).toArray⟩ : ByteArray).size = (traceT ss t).length := by simp [ByteArray.size, traceT]
    repeat' ((conv => whnf); first
      | (refine Both.intro ?_ ?_ <;> intro _ <;> try (exfalso; omega))
      | (refine Need.intro (by omega) ?_)
      | fail)
    all_goals (conv => whnf)
    · rename_i h
      have h : (4096 : Int) < ((⟨(Lib.join (t.map (textOf ss)) [59]).toArray⟩ : ByteArray).size : Int) := h
      rw [hsz] at h
      exact ⟨_, _, rfl, iff_of_false (by decide) (fun hh => by have := hh.size; omega), fun h => absurd h (by decide), e1.trans e2, w2⟩
    · rename_i h
      have h : ¬ ((⟨(Lib.join (t.map (textOf ss)) [59]).toArray⟩ : ByteArray).size : Int) > 4096 := h
      rw [hsz] at h
      exact ⟨_, _, rfl, iff_of_true rfl ⟨ht1, ht2, by omega⟩, fun _ => rfl, e1.trans e2, w2⟩
theorem parseTrace_any (H : AHeap) (w : Wf H) (a : Option Addr) (n c : Nat) (ss : List ByteArray) (hr : Row H a n c (strs ss)) (hf : Fine ss) (s : ByteArray) (hs : s.size ≤ 4096) :
    Does Tryd.prog orc 21 [.slice a n c, .string s] H fun r H' => (∃ v u, parseT ss (bytes s) = some u ∧ r = .ret (.tuple #[v, .int .i64 0]) ∧ (∃ a, v = .slice a u.length u.length ∧ Row H' a u.length u.length (natL u)) ∧ Ext H H' ∧ Wf H') ∨ (parseT ss (bytes s) = none ∧ r = .ret (.tuple #[.slice none 0 0, .int .i64 110]) ∧ Ext H H' ∧ Wf H') := by
  have hlen := hr.len; simp at hlen
  have h8 := hf.len
  have hsz : s.size = (bytes s).length := by simp [bytes]
  subst hlen
  refine Does.of Tryd.func21 (fun _ _ => rfl) rfl ?_
  repeat' ((conv => whnf); first
    | (refine Both.intro ?_ ?_ <;> intro _ <;> try (exfalso; omega))
    | (refine Need.intro (by omega) ?_)
    | fail)
  all_goals (conv => whnf)
  refine Does.mono (check_any H w _ _ _ ss hr (by omega)) ?_; rintro _ H1 ⟨rfl, e1, w1⟩; rw [hf.ok]
  replace hr := hr.ext w e1
  repeat' ((conv => whnf); first
    | (refine Both.intro ?_ ?_ <;> intro _ <;> try (exfalso; omega))
    | (refine Need.intro (by omega) ?_)
    | fail)
  all_goals (conv => whnf)
  · rename_i h
    have h : bytes s = [] := h
    exact .inl ⟨_, [], by unfold parseT; rw [if_pos h], rfl, ⟨none, rfl, rfl, Nat.le_refl _, fun i x hx => by simp at hx⟩, e1, w1⟩
  rename_i h
  have h : ¬ bytes s = [] := h
  have hpt : parseT ss (bytes s) = parseGo ss [] (splitL 59 (bytes s)) := by unfold parseT; rw [if_neg h]
  rw [hpt]
  refine Does.mono (split_any H1 w1 s _ 59 rfl (by omega)) ?_; rintro _ H2 ⟨a1, n1, ps, rfl, e2, w2, r1, hps⟩
  rw [← hps]
  have hln := r1.len; simp at hln
  have hcl : ps.length = Lib.countByte (bytes s) 59 + 1 := by rw [← List.length_map (f := bytes), hps, split_len]
  have hcb : Lib.countByte (bytes s) 59 ≤ s.size := by rw [hsz]; exact List.count_le_length
  have hpz : ∀ p ∈ ps, p.size ≤ 4096 := by
    intro p hp
    have hj := join_split 59 (bytes s)
    rw [← hps] at hj
    have key : ∀ (xs : List (List UInt8)) x, x ∈ xs → x.length ≤ (Lib.join xs [59]).length := by
      intro xs
      induction xs with
      | nil => intro x hx; cases hx
      | cons y r ih =>
        intro x hx
        cases r with
        | nil => rw [Lib.join_one]; simp at hx; subst hx; exact Nat.le_refl _
        | cons z q =>
          have e : Lib.join (y :: z :: q) [59] = y ++ 59 :: Lib.join (z :: q) [59] := by
            rw [Lib.join_cons, Lib.join_cons]; simp [Lib.joinTail]
          rw [e]
          simp only [List.length_append, List.length_cons]
          rcases List.mem_cons.1 hx with rfl | hx
          · omega
          · have := ih x hx; omega
    have := key (ps.map bytes) (bytes p) (List.mem_map.2 ⟨p, hp, rfl⟩)
    rw [hj] at this
    have hpz : p.size = (bytes p).length := by simp [bytes]
    omega
  replace hr := hr.ext w1 e2
  repeat' ((conv => whnf); first
    | (refine Both.intro ?_ ?_ <;> intro _ <;> try (exfalso; omega))
    | (refine Need.intro (by omega) ?_)
    | fail)
  all_goals (conv => whnf)
  refine Runs.loop (fun x : Nat × Value => [(25, .int .i64 x.1), (24, .int .i64 n1), (23, .slice a1 n1 n1), (7, x.2), (0, .slice a ss.length c)])
    (fun x H' => x.1 ≤ n1 ∧ Ext H2 H' ∧ Wf H' ∧ ∃ out : List Nat, out.length = x.1 ∧ Grown H2 H' (rowV 26 1) x.2 (natL out) ∧ parseGo ss out ((ps.map bytes).drop x.1) = parseGo ss [] (ps.map bytes)) (fun x => n1 - x.1) (0, .slice none 0 0) ⟨rfl, rfl, rfl, rfl, rfl, trivial⟩ ⟨by omega, Ext.refl _, w2, [], rfl, .inl ⟨rfl, rfl⟩, by simp⟩ ?_
  rintro ⟨k, v⟩ H3 ⟨hk, e3, w3, out, hol, g3, hgo⟩
  dsimp only at hk hol g3 hgo
  show vc _ _ _ _ _ [(25, .int .i64 k), (24, .int .i64 n1), (23, .slice a1 n1 n1), (7, v), (0, .slice a ss.length c)] _ _
  have hr3 := hr.ext w2 e3
  have r3 := r1.ext w2 e3
  by_cases hlt : k < n1
  · obtain ⟨x, hx⟩ := get_of (l := ps) (k := k) (by omega)
    obtain ⟨b, o, st, rfl, hcell⟩ := r3.cell k (.string x) (by simp [hx])
    have hdr : (ps.map bytes).drop k = bytes x :: (ps.map bytes).drop (k + 1) := by
      rw [← List.map_drop, ← List.map_drop, (go_at hx).1]; rfl
    rw [hdr, parseGo] at hgo
    have hxz := hpz x (List.mem_of_getElem? hx)
    obtain ⟨av, hav, hrv⟩ := g3.row
    have hnl : (natL out).length = k := by simp [hol]
    rw [hnl] at hav hrv
    subst hav
    repeat' ((conv => whnf); first
      | (refine Both.intro ?_ ?_ <;> intro _ <;> try (exfalso; omega))
      | (refine Need.intro (by omega) ?_)
      | (refine ⟨_, hcell, ?_⟩)
      | (refine Does.mono (read_any H3 w3 _ _ _ ss hr3 hf x (by omega)) ?_; rintro _ H4 ⟨b, rfl, hb, e4, w4⟩; cases b)
      | fail)
    all_goals (conv => whnf)
    · have hb2 : (readI ss (bytes x)).2 = false := by cases hc : (readI ss (bytes x)).2; rfl; exact absurd (hb.2 hc) (by simp)
      rw [if_pos (.inl hb2)] at hgo
      exact .inr ⟨hgo.symm, rfl, (e1.trans e2).trans (e3.trans e4), w4⟩
    · rename_i h1
      have hb2 := hb.1 rfl
      rw [if_pos (.inr (by omega))] at hgo
      exact .inr ⟨hgo.symm, rfl, (e1.trans e2).trans (e3.trans e4), w4⟩
    · rename_i h1
      have hb2 := hb.1 rfl
      rw [if_neg (by rw [hb2]; simp; omega)] at hgo
      refine ⟨_, rfl, ?_⟩
      repeat' ((conv => whnf); first
        | (refine Both.intro ?_ ?_ <;> intro _ <;> try (exfalso; omega))
        | (refine Need.intro (by omega) ?_)
        | fail)
      all_goals (conv => whnf)
      have hsx : srcCells (H4.push (.cells [.int .u8 (((readI ss (bytes x)).1 : Nat) : Int)] 0 true)) 1 (.slice (some ⟨H4.next, 0, none⟩) 1 1) = some (1, [.int .u8 (((readI ss (bytes x)).1 : Nat) : Int)]) := src_slice (by rw [AHeap.get_push, if_pos rfl]) rfl (Nat.le_refl _) (by decide)
      obtain ⟨v', H5, ev, ha, hg', he', hw'⟩ := grown_ok ((e3.trans e4).trans (Ext.push H4 (.cells [.int .u8 (((readI ss (bytes x)).1 : Nat) : Int)] 0 true))) (w4.push _) letTy ((g3.ext w3 e4).ext w4 (Ext.push _ _)) hsx rfl rfl (by decide) (by rw [hnl]; omega) (by rw [hnl]; omega)
      refine Outs.intro ⟨v', H5, ev, ha, ?_⟩
      repeat' ((conv => whnf); first
        | (refine Both.intro ?_ ?_ <;> intro _ <;> try (exfalso; omega))
        | (refine Need.intro (by omega) ?_)
        | fail)
      all_goals (conv => whnf)
      refine ⟨(k + 1, v'), ⟨rfl, rfl, rfl, rfl, rfl, trivial⟩, ⟨by show k + 1 ≤ n1; omega, he', hw', out ++ [(readI ss (bytes x)).1], by simp [hol], ?_, hgo⟩, by dsimp only; omega⟩
      show Grown H2 H5 _ v' (natL (out ++ [(readI ss (bytes x)).1]))
      simpa using hg'
  · obtain rfl : k = n1 := by omega
    rw [List.drop_of_length_le (by simp; omega), parseGo] at hgo
    obtain ⟨av, hav, hrv⟩ := g3.row
    have hnl : (natL out).length = out.length := by simp
    rw [hnl] at hav hrv
    repeat' ((conv => whnf); first
      | (refine Both.intro ?_ ?_ <;> intro _ <;> try (exfalso; omega))
      | (refine Need.intro (by omega) ?_)
      | fail)
    all_goals (conv => whnf)
    exact .inl ⟨v, out, hgo.symm, rfl, ⟨av, hav, hrv⟩, (e1.trans e2).trans e3, w3⟩
end Go.AX.Tryd
