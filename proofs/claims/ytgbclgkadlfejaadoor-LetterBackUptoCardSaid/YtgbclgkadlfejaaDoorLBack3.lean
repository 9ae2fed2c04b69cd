/- LetterBack answers true, over any memory: the walk. -/
import Derived.Test.YtgbclgkadlfejaaDoorLBack2
namespace Go.AX.Tryd
open Go Go.AX Go.AX.Lw Go.Proofs
set_option linter.unusedVariables false
set_option maxRecDepth 100000

theorem natL_lets (t : List Nat) : natL t = lets (t.map fun x : Nat => (x : Int)) := by simp [lets]
theorem same_any (H : AHeap) (a a' : Option Addr) (n c n' c' : Nat) (t : List Nat) (hr : Row H a n c (natL t)) (hr' : Row H a' n' c' (natL t)) (hn : n ≤ 2 ^ 60) (hn' : n' ≤ 2 ^ 60) :
    Does Tryd.prog orc 23 [.slice a n c, .slice a' n' c'] H fun r H' => r = .ret (.bool true) ∧ H = H' := by
  rw [natL_lets] at hr hr'
  exact (sameLetters_any H _ _ _ _ _ _ _ _ hr hr' hn hn').mono fun r H' ⟨b, hb, hi, he⟩ => by
    obtain rfl : b = true := hi.2 rfl
    exact ⟨hb, he⟩
theorem neq_bool (x y : Bool) : aBin Tryd.prog .neq 4 false false (.bool x) (.bool y) = some (.bool (x != y)) := by cases x <;> cases y <;> kernel_rfl
theorem pt_yes (H : AHeap) (w : Wf H) (a : Option Addr) (n c : Nat) (ss : List ByteArray) (hr : Row H a n c (strs ss)) (hf : Fine ss) (a' : Option Addr) (m c' : Nat) (t : List Nat) (hr' : Row H a' m c' (natL t)) (ht : ∀ x ∈ t, x < 256) (hm : m ≤ 2 ^ 30) (ho : OkT ss t) :
    Does Tryd.prog orc 19 [.slice a n c, .slice a' m c'] H fun r H' => r = .ret (.tuple #[.string (mkS (traceT ss t)), .int .i64 0]) ∧ Ext H H' ∧ Wf H' :=
  (printTrace_any H w a n c ss hr hf a' m c' t hr' ht hm).mono fun r H' ⟨s, e, h1, h2, h3, h4, h5⟩ => by
    have he := h2.2 ho
    subst he
    rw [h3 rfl] at h1
    exact ⟨h1, h4, h5⟩
theorem pt_no (H : AHeap) (w : Wf H) (a : Option Addr) (n c : Nat) (ss : List ByteArray) (hr : Row H a n c (strs ss)) (hf : Fine ss) (a' : Option Addr) (m c' : Nat) (t : List Nat) (hr' : Row H a' m c' (natL t)) (ht : ∀ x ∈ t, x < 256) (hm : m ≤ 2 ^ 30) (ho : ¬ OkT ss t) :
    Does Tryd.prog orc 19 [.slice a n c, .slice a' m c'] H fun r H' => ∃ s e, r = .ret (.tuple #[.string s, .int .i64 e]) ∧ e ≠ 0 ∧ Ext H H' ∧ Wf H' :=
  (printTrace_any H w a n c ss hr hf a' m c' t hr' ht hm).mono fun r H' ⟨s, e, h1, h2, h3, h4, h5⟩ => ⟨s, e, h1, fun e0 => ho (h2.1 e0), h4, h5⟩
theorem rd_yes (H : AHeap) (w : Wf H) (a : Option Addr) (n c : Nat) (ss : List ByteArray) (hr : Row H a n c (strs ss)) (hf : Fine ss) (s : ByteArray) (hs : s.size ≤ 4096) (u : List Nat) (hu : parseT ss (bytes s) = some u) :
    Does Tryd.prog orc 21 [.slice a n c, .string s] H fun r H' => ∃ a, r = .ret (.tuple #[.slice a u.length u.length, .int .i64 0]) ∧ Row H' a u.length u.length (natL u) ∧ Ext H H' ∧ Wf H' :=
  (parseTrace_any H w a n c ss hr hf s hs).mono fun r H' h => by
    rcases h with ⟨v, u', h1, h2, ⟨a, hv, hr⟩, h4, h5⟩ | ⟨h1, _⟩
    · rw [hu] at h1; cases h1
      exact ⟨a, by rw [h2, hv], hr, h4, h5⟩
    · rw [hu] at h1; cases h1
theorem rd_no (H : AHeap) (w : Wf H) (a : Option Addr) (n c : Nat) (ss : List ByteArray) (hr : Row H a n c (strs ss)) (hf : Fine ss) (s : ByteArray) (hs : s.size ≤ 4096) (hu : parseT ss (bytes s) = none) :
    Does Tryd.prog orc 21 [.slice a n c, .string s] H fun r H' => r = .ret (.tuple #[.slice none 0 0, .int .i64 110]) ∧ Ext H H' ∧ Wf H' :=
  (parseTrace_any H w a n c ss hr hf s hs).mono fun r H' h => by
    rcases h with ⟨v, u', h1, _⟩ | ⟨h1, h2, h4, h5⟩
    · rw [hu] at h1; cases h1
    · exact ⟨h2, h4, h5⟩
theorem letterBack_any (H : AHeap) (w : Wf H) (a : Option Addr) (n c : Nat) (ss : List ByteArray) (hr : Row H a n c (strs ss)) (hn : n ≤ 2 ^ 30) (hz : sizes ss ≤ 2 ^ 60) (l : Nat) (hl : l < 256) (a' : Option Addr) (m c' : Nat) (t : List Nat) (hr' : Row H a' m c' (natL t)) (ht : ∀ x ∈ t, x < 256) (hm : m ≤ 2 ^ 30) (s : ByteArray) :
    Does Tryd.prog orc 5 [.slice a n c, .int .u8 l, .slice a' m c', .string s] H fun r H' => r = .ret (.bool true) := by
  have hlen := hr.len; simp at hlen
  have hlen' := hr'.len; simp at hlen'
  have hcap' := hr'.cap
  have hsz : s.size = (bytes s).length := by simp [bytes]
  refine Does.of Tryd.func5 (fun _ _ => rfl) rfl ?_
  repeat' ((conv => whnf); first
    | (refine Both.intro ?_ ?_ <;> intro _ <;> try (exfalso; omega))
    | (refine Need.intro (by omega) ?_)
    | fail)
  all_goals (conv => whnf)
  refine Does.mono (awake_any H) ?_; rintro _ _ ⟨rfl, rfl⟩
  repeat' ((conv => whnf); first
    | (refine Both.intro ?_ ?_ <;> intro _ <;> try (exfalso; omega))
    | (refine Need.intro (by omega) ?_)
    | fail)
  all_goals (conv => whnf)
  refine Does.mono (large_any H _ _ _ ss hr hz (by omega)) ?_; rintro _ _ ⟨b, rfl, hb, rfl⟩; cases b
  case true =>
    repeat' ((conv => whnf); first
      | (refine Both.intro ?_ ?_ <;> intro _ <;> try (exfalso; omega))
      | (refine Need.intro (by omega) ?_)
      | fail)
    all_goals (conv => whnf)
    rfl
  repeat' ((conv => whnf); first
    | (refine Both.intro ?_ ?_ <;> intro _ <;> try (exfalso; omega))
    | (refine Need.intro (by omega) ?_)
    | fail)
  all_goals (conv => whnf)
  · rfl
  · rfl
  refine Does.mono (check_any H w _ _ _ ss hr hn) ?_; rintro _ H1 ⟨rfl, e1, w1⟩
  replace hr := hr.ext w e1
  replace hr' := hr'.ext w e1
  repeat' ((conv => whnf); first
    | (refine Both.intro ?_ ?_ <;> intro _ <;> try (exfalso; omega))
    | (refine Need.intro (by omega) ?_)
    | fail)
  all_goals (conv => whnf)
  · rfl
  rename_i hck
  have hf := fine_of (Classical.not_not.1 hck)
  have h8 := hf.len
  subst hlen
  have hu600 : ∀ u, parseT ss (bytes s) = some u → OkT ss u ∧ mkS (traceT ss u) = s ∧ ∀ x ∈ u, x < 256 := fun u hu => by
    obtain ⟨h1, h2, h3⟩ := trace_parse hf hu
    exact ⟨⟨h3, h2, by rw [h1]; omega⟩, bytes_inj (by rw [mkS_bytes]; exact h1), fun x hx => Nat.lt_of_lt_of_le (h2 x hx) (two_pow_le h8).1⟩
  have htz : OkT ss t → (mkS (traceT ss t)).size ≤ 4096 := fun ho => by
    have := ho.size
    have e : (mkS (traceT ss t)).size = (traceT ss t).length := by simp [mkS, ByteArray.size]
    omega
  rcases Classical.em (l < 2 ^ ss.length) with hfit | hfit <;> rcases Classical.em (OkT ss t) with hot | hot <;> rcases hpt : parseT ss (bytes s) with _ | u
  all_goals
    repeat' ((conv => whnf); first
      | (refine Both.intro ?_ ?_ <;> intro _ <;> try (exfalso; omega))
      | (refine Need.intro (by omega) ?_)
      | (refine Does.mono (print_yes _ (by assumption) _ _ _ ss hr hf l hfit) ?_; rintro _ Ha ⟨rfl, ea, wa⟩; replace hr := hr.ext (by assumption) ea; replace hr' := hr'.ext (by assumption) ea)
      | (refine Does.mono (print_no _ (by assumption) _ _ _ ss hr hf l hfit hl) ?_; rintro _ Ha ⟨rfl, ea, wa⟩; replace hr := hr.ext (by assumption) ea; replace hr' := hr'.ext (by assumption) ea)
      | (refine Does.mono (fits_yes _ _ _ h8 hfit) ?_; rintro _ _ ⟨rfl, rfl⟩)
      | (refine Does.mono (fits_no _ _ _ hfit hl) ?_; rintro _ _ ⟨rfl, rfl⟩)
      | (refine Gives.intro ⟨_, neq_bool _ _, ?_⟩)
      | (refine Does.mono (parse_text _ (by assumption) _ _ _ ss hr hf l hfit) ?_; rintro _ Ha ⟨rfl, ea, wa⟩; replace hr := hr.ext (by assumption) ea; replace hr' := hr'.ext (by assumption) ea)
      | (refine Does.mono (pt_yes _ (by assumption) _ _ _ ss hr hf _ _ _ t hr' ht hm hot) ?_; rintro _ Ha ⟨rfl, ea, wa⟩; replace hr := hr.ext (by assumption) ea; replace hr' := hr'.ext (by assumption) ea)
      | (refine Does.mono (pt_no _ (by assumption) _ _ _ ss hr hf _ _ _ t hr' ht hm hot) ?_; rintro _ Ha ⟨x1, x2, rfl, hx2, ea, wa⟩; replace hr := hr.ext (by assumption) ea; replace hr' := hr'.ext (by assumption) ea)
      | (refine Does.mono (rd_yes _ (by assumption) _ _ _ ss hr hf (mkS (traceT ss t)) (htz hot) t (by rw [mkS_bytes]; exact parse_trace hf hot.fit hot.len)) ?_; rintro _ Ha ⟨ax, rfl, hra, ea, wa⟩; replace hr := hr.ext (by assumption) ea; replace hr' := hr'.ext (by assumption) ea)
      | (refine Does.mono (same_any _ _ _ _ _ _ _ t hra hr' (by omega) (by omega)) ?_; rintro _ _ ⟨rfl, rfl⟩)
      | fail)
    all_goals (conv => whnf)
  all_goals first
    | (refine Does.mono (rd_no _ (by assumption) _ _ _ ss hr hf s (by omega) hpt) ?_; rintro _ Ha ⟨rfl, ea, wa⟩; replace hr := hr.ext (by assumption) ea)
    | (refine Does.mono (rd_yes _ (by assumption) _ _ _ ss hr hf s (by omega) u hpt) ?_; rintro _ Ha ⟨ax, rfl, hra, ea, wa⟩; replace hr := hr.ext (by assumption) ea; obtain ⟨hou, hback, hu256⟩ := hu600 u hpt; have hul := hou.len)
  all_goals
    repeat' ((conv => whnf); first
      | (refine Both.intro ?_ ?_ <;> intro _ <;> try (exfalso; omega))
      | (refine Need.intro (by omega) ?_)
      | (refine Does.mono (pt_yes _ (by assumption) _ _ _ ss hr hf _ _ _ u hra hu256 (by omega) hou) ?_; rintro _ Hb ⟨rfl, eb, wb⟩; rw [hback])
      | fail)
    all_goals (conv => whnf)
  all_goals first
    | rfl
    | (exfalso; rename_i h; exact h rfl)
end Go.AX.Tryd
