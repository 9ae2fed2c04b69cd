/- slices.Sort at uint64: what it does. -/
import Derived.Test.YtffnjihgboeonaaLSrtF
namespace Go.AX.Try
open Go Go.AX Go.AX.Lw Go.Proofs
set_option linter.unusedVariables false
set_option linter.unusedSimpArgs false
set_option maxRecDepth 100000
theorem pdq_any (H : AHeap) (hw : Wf H) (blk e c : Nat) (st : Option Nat) (d : Array Nat) (n : Nat) (hn : n = d.size) (hd : Arr H blk e d) (hc : n ≤ c) (hsz : n ≤ 4096) (a b limit : Nat) (hl : limit ≤ 100) (ha : a ≤ b) (hb : b ≤ n) :
    Does Try.prog orc 26 [DV blk n c st, .int .i64 a, .int .i64 b, .int .i64 limit] H fun r H' => r = .ret (.tuple #[]) ∧ Upd blk e H H' (Go.Sort.pdq ltN d a b limit true true) := by
  have : ∀ N, ∀ (H : AHeap) (hw : Wf H) (blk e c : Nat) (st : Option Nat) (d : Array Nat) (n : Nat) (hn : n = d.size) (hd : Arr H blk e d) (hc : n ≤ c) (hsz : n ≤ 4096) (a b limit : Nat) (hl : limit ≤ 100) (ha : a ≤ b) (hb : b ≤ n) (hN : b - a = N),
    Does Try.prog orc 26 [DV blk n c st, .int .i64 a, .int .i64 b, .int .i64 limit] H fun r H' => r = .ret (.tuple #[]) ∧ Upd blk e H H' (Go.Sort.pdq ltN d a b limit true true) := fun N => Nat.strongRecOn N fun N IH => pdq_step_any N IH
  exact this (b - a) H hw blk e c st d n hn hd hc hsz a b limit hl ha hb rfl
/-- The numbers of a list, rising. -/
def srt (l : List Nat) : List Nat := l.mergeSort fun x y => decide (x ≤ y)
theorem sort_eq (l : List Nat) : (Go.Sort.sort ltN l.toArray).toList = srt l := by
  have h := Go.Sort.sort_holds (Go.Sort.pdq_holds Go.Sort.insertionSort_holds Go.Sort.heapSort_holds Go.Sort.partialInsertionSort_holds (Go.Sort.partition_holds ltN) (Go.Sort.partitionEqual_holds ltN) Go.Sort.reverseRange_holds) swoN l.toArray
  have hs := Go.Sort.sorted_unique_holds swoN (fun x y h1 h2 => by simp [ltN] at h1 h2; omega) l.toArray _ h.1 h.2
  rw [hs]
  unfold srt
  congr 1
  funext x y
  simp only [ltN]
  rw [← decide_not]
  exact decide_eq_decide.2 (by omega)
theorem Sort_any (H : AHeap) (hw : Wf H) (blk e c : Nat) (st : Option Nat) (l : List Nat) (n : Nat) (hn : n = l.length) (hd : Arr H blk e l.toArray) (hc : n ≤ c) (hsz : n ≤ 4096) :
    Does Try.prog orc 20 [DV blk n c st] H fun r H' => r = .ret (.tuple #[]) ∧ Upd blk e H H' (srt l).toArray := by
  refine Does.of Try.func20 (fun _ _ => rfl) rfl ?_
  have hsz0 : l.toArray.size = n := by rw [hn]; rfl
  have hP := fun G (g : Arr G blk e l.toArray) (w : Wf G) => pdq_any G w blk e c st l.toArray n hsz0.symm g hc hsz 0 n (Go.Sort.bitsLen n) (by have := (Go.Sort.bitsLen_le_iff n 16).2 (by omega); omega) (Nat.zero_le _) (Nat.le_refl _)
  repeat' ((conv => whnf); first
    | (refine Both.intro ?_ ?_ <;> intro _ <;> try (exfalso; omega))
    | (refine Need.intro (by omega) ?_)
    | (refine Gives.intro ⟨_, cUi _ (by omega), ?_⟩)
    | (refine Does.mono (len_any H n (by omega)) ?_ ; rintro _ _ ⟨rfl, rfl⟩)
    | (refine Does.mono (hP _ hd hw) ?_ ; rintro _ H1 ⟨rfl, u1⟩)
    | fail)
  all_goals (conv => whnf)
  have e1 : Go.Sort.pdq ltN l.toArray 0 n (Go.Sort.bitsLen n) true true = (srt l).toArray := by
    rw [← sort_eq]
    unfold Go.Sort.sort
    rw [hsz0]
  rw [e1] at u1
  exact ⟨rfl, u1⟩
end Go.AX.Try
