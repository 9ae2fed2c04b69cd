/- Contracts: names, places of names, small tests. -/
import Derived.Test.YtgbclgkadlfejaaProg
import Derived.Test.YtgbclgkadlfejaaLOrc
namespace Go.AX.Try
open Go Go.AX Go.AX.Lw Go.Proofs
set_option linter.unusedVariables false
set_option maxRecDepth 100000

theorem small_any (H : AHeap) (c : Int) : Does Try.prog orc 42 [.int .u8 c] H fun r H' => ∃ b, r = .ret (.bool b) ∧ (b = true ↔ 97 ≤ c ∧ c ≤ 122) ∧ H = H' := by
  refine Does.of Try.func42 (fun _ _ => rfl) rfl ?_
  repeat' ((conv => whnf); first
    | (refine Both.intro ?_ ?_ <;> intro _ <;> try (exfalso; omega))
    | (refine Need.intro (by omega) ?_)
    | fail)
  all_goals (conv => whnf)
  all_goals (refine ⟨_, rfl, ?_, rfl⟩; simp; try omega)
theorem number_any (H : AHeap) (n : Int) : Does Try.prog orc 41 [.int .i64 n] H fun r H' => ∃ b, r = .ret (.bool b) ∧ (b = true ↔ 0 ≤ n ∧ n ≤ 8) ∧ H = H' := by
  refine Does.of Try.func41 (fun _ _ => rfl) rfl ?_
  repeat' ((conv => whnf); first
    | (refine Both.intro ?_ ?_ <;> intro _ <;> try (exfalso; omega))
    | (refine Need.intro (by omega) ?_)
    | fail)
  all_goals (conv => whnf)
  all_goals (refine ⟨_, rfl, ?_, rfl⟩; simp; try omega)

def okC (i : Nat) (c : UInt8) : Prop := 97 ≤ (c.toNat : Int) ∧ (c.toNat : Int) ≤ 122 ∨ (i ≠ 0 ∧ 48 ≤ (c.toNat : Int) ∧ (c.toNat : Int) ≤ 57)
def words : List (List UInt8) := [[116, 114, 117, 101], [102, 97, 108, 115, 101], [108, 97, 115, 116]]
def nameP (l : List UInt8) : Prop := 1 ≤ l.length ∧ l.length ≤ 20 ∧ l ∉ words ∧ ∀ (i : Nat) c, l[i]? = some c → okC i c

theorem all_step {α : Type} {R : Nat → α → Prop} {l : List α} {k : Nat} {c : α} (hall : ∀ (j : Nat) c, j < k → l[j]? = some c → R j c) (hc : l[k]? = some c) (h : R k c) : ∀ (j : Nat) d, j < k + 1 → l[j]? = some d → R j d := by
  intro j d hj hd
  by_cases hjk : j < k
  · exact hall j d hjk hd
  · obtain rfl : j = k := by omega
    rw [hc] at hd; cases hd; exact h
theorem nameP_no {l : List UInt8} {k : Nat} {c : UInt8} (h : l[k]? = some c) (hn : ¬ okC k c) : ¬ nameP l := fun h' => hn (h'.2.2.2 k c h)
theorem nameP_short {l : List UInt8} (h : ¬ (1 ≤ l.length ∧ l.length ≤ 20)) : ¬ nameP l := fun h' => h ⟨h'.1, h'.2.1⟩
theorem nameP_word {l : List UInt8} (w : List UInt8) (h : l = w) (hw : w ∈ words) : ¬ nameP l := fun h' => h'.2.2.1 (h ▸ hw)
theorem words_no {l : List UInt8} (h1 : ¬ l = (⟨#[116, 114, 117, 101]⟩ : ByteArray).data.toList) (h2 : ¬ l = (⟨#[102, 97, 108, 115, 101]⟩ : ByteArray).data.toList) (h3 : ¬ l = (⟨#[108, 97, 115, 116]⟩ : ByteArray).data.toList) : l ∉ words := by
  intro h
  simp only [words, List.mem_cons, List.mem_nil_iff, or_false] at h
  rcases h with h | h | h
  · exact h1 h
  · exact h2 h
  · exact h3 h
theorem name_any (H : AHeap) (s : ByteArray) : Does Try.prog orc 13 [.string s] H fun r H' => ∃ b, r = .ret (.bool b) ∧ (b = true ↔ nameP s.data.toList) ∧ H = H' := by
  have hsz : s.size = s.data.toList.length := by simp
  refine Does.of Try.func13 (fun _ _ => rfl) rfl ?_
  repeat' ((conv => whnf); first
    | (refine Both.intro ?_ ?_ <;> intro _ <;> try (exfalso; omega))
    | (refine Need.intro (by omega) ?_)
    | fail)
  all_goals (conv => whnf)
  iterate 2 (refine ⟨_, rfl, iff_of_false (by simp) (nameP_short (by omega)), rfl⟩)
  iterate 3 (refine ⟨_, rfl, iff_of_false (by simp) (nameP_word _ ‹_› (by decide)), rfl⟩)
  rename_i h1 h2 h3 h4 h5
  refine Runs.loop (fun k : Nat => [(27, .int .i64 k), (26, .int .i64 s.size), (0, .string s)]) (fun k H' => H = H' ∧ k ≤ s.size ∧ ∀ (j : Nat) c, j < k → s.data.toList[j]? = some c → okC j c) (fun k => s.size - k) 0 ⟨rfl, rfl, rfl, trivial⟩ ⟨rfl, by omega, by omega⟩ ?_
  rintro k _ ⟨rfl, hk, hall⟩
  by_cases hlt : k < s.size
  · obtain ⟨c, hc⟩ : ∃ c, s.data.toList[k]? = some c := ⟨s.data.toList[k]'(by omega), by simp⟩
    repeat' ((conv => whnf); first
      | (refine Both.intro ?_ ?_ <;> intro _ <;> try (exfalso; omega))
      | (refine Need.intro (by omega) ?_)
      | (refine ⟨_, hc, ?_⟩)
      | fail)
    all_goals (conv => whnf)
    all_goals first
      | (refine ⟨_, rfl, ?_, rfl⟩; simp only [Bool.false_eq_true, false_iff]; refine nameP_no hc ?_; unfold okC; omega)
      | (refine ⟨k + 1, ⟨rfl, rfl, rfl, trivial⟩, ⟨rfl, by omega, all_step hall hc (by unfold okC; omega)⟩, by omega⟩)
  · skip
    repeat' ((conv => whnf); first
      | (refine Both.intro ?_ ?_ <;> intro _ <;> try (exfalso; omega))
      | (refine Need.intro (by omega) ?_)
      | fail)
    all_goals (conv => whnf)
    refine ⟨_, rfl, ?_, rfl⟩
    simp only [true_iff]
    exact ⟨by omega, by omega, words_no h3 h4 h5, fun i c hi => hall i c (by have := (List.getElem?_eq_some_iff.1 hi).1; omega) hi⟩
theorem refName_any (H : AHeap) (s : ByteArray) : Does Try.prog orc 14 [.string s] H fun r H' => ∃ b, r = .ret (.bool b) ∧ (b = true ↔ nameP s.data.toList) ∧ H = H' := by
  have hsz : s.size = s.data.toList.length := by simp
  by_cases h0 : s.size = 0
  · refine Does.of Try.func14 (fun _ _ => rfl) rfl ?_
    repeat' ((conv => whnf); first
      | (refine Both.intro ?_ ?_ <;> intro _ <;> try (exfalso; omega))
      | (refine Need.intro (by omega) ?_)
      | fail)
    all_goals (conv => whnf)
    refine ⟨_, rfl, iff_of_false (by simp) (nameP_short (by omega)), rfl⟩
  obtain ⟨c0, hc0⟩ : ∃ c, s.data.toList[0]? = some c := ⟨s.data.toList[0]'(by omega), by simp⟩
  refine Does.of Try.func14 (fun _ _ => rfl) rfl ?_
  repeat' ((conv => whnf); first
    | (refine Both.intro ?_ ?_ <;> intro _ <;> try (exfalso; omega))
    | (refine Need.intro (by omega) ?_)
    | (refine ⟨_, hc0, ?_⟩)
    | ((refine Does.mono (small_any _ _) ?_; rintro _ _ ⟨b, rfl, hb, rfl⟩; cases b <;> simp at hb))
    | fail)
  all_goals (conv => whnf)
  · exact ⟨_, rfl, iff_of_false (by simp) (nameP_short (by omega)), rfl⟩
  · exact ⟨_, rfl, iff_of_false (by simp) (nameP_no hc0 (by unfold okC; omega)), rfl⟩
  iterate 3 (refine ⟨_, rfl, iff_of_false (by simp) (nameP_word _ ‹_› (by decide)), rfl⟩)
  rename_i h1 h2 h3 h4 h5
  refine Runs.loop (fun k : Nat => [(3, .int .i64 k), (0, .string s)]) (fun k H' => H = H' ∧ k ≤ s.size ∧ ∀ (j : Nat) c, j < k → s.data.toList[j]? = some c → okC j c) (fun k => s.size - k) 0 ⟨rfl, rfl, trivial⟩ ⟨rfl, by omega, by omega⟩ ?_
  rintro k _ ⟨rfl, hk, hall⟩
  by_cases hlt : k < s.size
  · obtain ⟨c, hc⟩ : ∃ c, s.data.toList[k]? = some c := ⟨s.data.toList[k]'(by omega), by simp⟩
    have h00 : k = 0 → c = c0 := fun h => by subst h; rw [hc] at hc0; exact Option.some.inj hc0
    repeat' ((conv => whnf); first
      | (refine Both.intro ?_ ?_ <;> intro _ <;> try (exfalso; omega))
      | (refine Need.intro (by omega) ?_)
      | (refine ⟨_, hc, ?_⟩)
      | ((refine Does.mono (small_any _ _) ?_; rintro _ _ ⟨b, rfl, hb, rfl⟩; cases b <;> simp at hb))
      | fail)
    all_goals (conv => whnf)
    all_goals first
      | (refine ⟨_, rfl, ?_, rfl⟩; simp only [Bool.false_eq_true, false_iff]; refine nameP_no hc ?_; unfold okC; omega)
      | (refine ⟨k + 1, ⟨rfl, rfl, trivial⟩, ⟨rfl, by omega, all_step hall hc (by unfold okC; by_cases hz : k = 0; (left; rw [h00 hz]; omega); omega)⟩, by omega⟩)
  · skip
    repeat' ((conv => whnf); first
      | (refine Both.intro ?_ ?_ <;> intro _ <;> try (exfalso; omega))
      | (refine Need.intro (by omega) ?_)
      | fail)
    all_goals (conv => whnf)
    exact ⟨_, rfl, iff_of_true rfl ⟨by omega, by omega, words_no h3 h4 h5, fun i c hi => hall i c (by have := (List.getElem?_eq_some_iff.1 hi).1; omega) hi⟩, rfl⟩

/-- The place of a text among others; -1: it is none of them. -/
def place (ss : List ByteArray) (s : ByteArray) (i : Int) : Prop :=
  (i = -1 ∧ ∀ x ∈ ss, x ≠ s) ∨ ∃ k : Nat, i = k ∧ ss[k]? = some s ∧ ∀ (j : Nat) x, j < k → ss[j]? = some x → x ≠ s
theorem ba_eq {a b : ByteArray} : a.data.toList = b.data.toList ↔ a = b := by
  constructor
  · intro h; cases a; cases b; congr; exact Array.toList_inj.1 h
  · rintro rfl; rfl
theorem index_any (H : AHeap) (a : Option Addr) (n c : Nat) (ss : List ByteArray) (hr : Row H a n c (ss.map .string)) (hn : n ≤ 2 ^ 60) (s : ByteArray) :
    Does Try.prog orc 39 [.slice a n c, .string s] H fun r H' => ∃ i, r = .ret (.int .i64 i) ∧ place ss s i ∧ H = H' := by
  have hlen := hr.len; simp at hlen
  have hcap := hr.cap
  refine Does.of Try.func39 (fun _ _ => rfl) rfl ?_
  conv => whnf
  refine Runs.loop (fun k : Nat => [(8, .int .i64 k), (7, .int .i64 n), (1, .string s), (0, .slice a n c)]) (fun k H' => H = H' ∧ k ≤ n ∧ ∀ (j : Nat) x, j < k → ss[j]? = some x → x ≠ s) (fun k => n - k) 0 ⟨rfl, rfl, rfl, rfl, trivial⟩ ⟨rfl, by omega, by omega⟩ ?_
  rintro k _ ⟨rfl, hk, hall⟩
  by_cases hlt : k < n
  · obtain ⟨x, hx⟩ : ∃ x, ss[k]? = some x := ⟨ss[k]'(by omega), by simp⟩
    obtain ⟨b, o, st, rfl, hcell⟩ := hr.cell k (.string x) (by simp [hx])
    repeat' ((conv => whnf); first
      | (refine Both.intro ?_ ?_ <;> intro _ <;> try (exfalso; omega))
      | (refine Need.intro (by omega) ?_)
      | (refine ⟨_, hcell, ?_⟩)
      | fail)
    all_goals (conv => whnf)
    · rename_i h1 h2
      refine ⟨k, rfl, .inr ⟨k, rfl, ?_, hall⟩, rfl⟩
      rw [hx, ba_eq.1 h2]
    · rename_i h1 h2
      refine ⟨k + 1, ⟨rfl, rfl, rfl, rfl, trivial⟩, ⟨rfl, by omega, all_step (R := fun _ x => x ≠ s) hall hx (fun e => h2 (ba_eq.2 e.symm))⟩, by omega⟩
  · skip
    repeat' ((conv => whnf); first
      | (refine Both.intro ?_ ?_ <;> intro _ <;> try (exfalso; omega))
      | (refine Need.intro (by omega) ?_)
      | fail)
    all_goals (conv => whnf)
    exact ⟨_, rfl, .inl ⟨rfl, fun x hx => by obtain ⟨j, hj, rfl⟩ := List.getElem_of_mem hx; exact hall j _ (by omega) (by simp)⟩, rfl⟩
theorem at_any (H : AHeap) (a : Option Addr) (n c : Nat) (ss : List ByteArray) (hr : Row H a n c (ss.map .string)) (hn : n ≤ 2 ^ 60) (s : ByteArray) :
    Does Try.prog orc 40 [.slice a n c, .string s] H fun r H' => ∃ i, r = .ret (.int .i64 i) ∧ place ss s i ∧ H = H' := by
  have hlen := hr.len; simp at hlen
  have hcap := hr.cap
  refine Does.of Try.func40 (fun _ _ => rfl) rfl ?_
  conv => whnf
  refine Runs.loop (fun k : Nat => [(5, .int .i64 k), (1, .string s), (0, .slice a n c)]) (fun k H' => H = H' ∧ k ≤ n ∧ ∀ (j : Nat) x, j < k → ss[j]? = some x → x ≠ s) (fun k => n - k) 0 ⟨rfl, rfl, rfl, trivial⟩ ⟨rfl, by omega, by omega⟩ ?_
  rintro k _ ⟨rfl, hk, hall⟩
  by_cases hlt : k < n
  · obtain ⟨x, hx⟩ : ∃ x, ss[k]? = some x := ⟨ss[k]'(by omega), by simp⟩
    obtain ⟨b, o, st, rfl, hcell⟩ := hr.cell k (.string x) (by simp [hx])
    repeat' ((conv => whnf); first
      | (refine Both.intro ?_ ?_ <;> intro _ <;> try (exfalso; omega))
      | (refine Need.intro (by omega) ?_)
      | (refine ⟨_, hcell, ?_⟩)
      | fail)
    all_goals (conv => whnf)
    · rename_i h1 h2
      refine ⟨k, rfl, .inr ⟨k, rfl, ?_, hall⟩, rfl⟩
      rw [hx, ba_eq.1 h2]
    · rename_i h1 h2
      refine ⟨k + 1, ⟨rfl, rfl, rfl, trivial⟩, ⟨rfl, by omega, all_step (R := fun _ x => x ≠ s) hall hx (fun e => h2 (ba_eq.2 e))⟩, by omega⟩
  · skip
    repeat' ((conv => whnf); first
      | (refine Both.intro ?_ ?_ <;> intro _ <;> try (exfalso; omega))
      | (refine Need.intro (by omega) ?_)
      | fail)
    all_goals (conv => whnf)
    exact ⟨_, rfl, .inl ⟨rfl, fun x hx => by obtain ⟨j, hj, rfl⟩ := List.getElem_of_mem hx; exact hall j _ (by omega) (by simp)⟩, rfl⟩
end Go.AX.Try
