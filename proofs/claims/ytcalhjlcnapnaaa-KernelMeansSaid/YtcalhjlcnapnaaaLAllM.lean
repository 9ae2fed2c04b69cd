/- mean.All, At, Ends. -/
import Derived.Test.YtcalhjlcnapnaaaLTerm
namespace Go.AX.Try
open Go Go.AX Go.AX.Lw Go.Proofs
set_option linter.unusedVariables false
set_option linter.unusedSimpArgs false
set_option maxRecDepth 100000
theorem fits8_any (H : AHeap) (l : Nat) (hl : l < 256) : Does Try.prog orc 111 [.int .i64 8, .int .u8 l] H fun r H' => r = .ret (.bool true) ∧ H = H' := by
  refine Does.of Try.func111 (fun _ _ => rfl) rfl ?_
  have hs : aShift .shr .i64 (l : Int) 8 = some (.int .i64 0) := by
    rw [shr_ok (by omega)]
    have h1 : min (8 : Int).toNat IntKind.i64.bits = 8 := by decide
    rw [h1, Int.fdiv_eq_ediv_of_nonneg _ (by decide)]
    congr 2
    omega
  have hc : aConv Try.prog 61 3 (.int .u8 l) = some (.int .i64 l) := by
    have : aConv Try.prog 61 3 (.int .u8 l) = some (.int .i64 (IntKind.i64.wrap l)) := by kernel_rfl
    rw [this, wrap_i64 (by omega)]
  repeat' ((conv => whnf); first
    | (refine Both.intro ?_ ?_ <;> intro _ <;> try (exfalso; omega))
    | (refine Need.intro (by omega) ?_)
    | (refine Does.mono (number_any _ _) ?_; rintro _ _ ⟨b, rfl, hb, rfl⟩; obtain rfl : b = true := hb.2 (by omega))
    | (refine Gives.intro ⟨_, hc, ?_⟩)
    | (refine Gives.intro ⟨_, hs, ?_⟩)
    | fail)
  all_goals (conv => whnf)
  exact ⟨rfl, rfl⟩
/-- What check tells of a trace. -/
def traceF (t : List Nat) : Nat := if 1024 < t.length then 3 else 0
theorem trace8_any (H : AHeap) (a : Option Addr) (m c : Nat) (t : List Nat) (hr : Row H a m c (natL t)) (ht : ∀ x ∈ t, x < 256) :
    Does Try.prog orc 83 [.int .i64 8, .slice a m c] H fun r H' => r = .ret (.int .i64 (traceF t)) ∧ H = H' := by
  have hlen := hr.len; simp at hlen
  have hcap := hr.cap
  refine Does.of Try.func83 (fun _ _ => rfl) rfl ?_
  repeat' ((conv => whnf); first
    | (refine Both.intro ?_ ?_ <;> intro _ <;> try (exfalso; omega))
    | (refine Need.intro (by omega) ?_)
    | (refine Does.mono (number_any _ _) ?_; rintro _ _ ⟨b, rfl, hb, rfl⟩; obtain rfl : b = true := hb.2 (by omega))
    | fail)
  all_goals (conv => whnf)
  · exact ⟨by unfold traceF; rw [if_pos (by omega)]; rfl, rfl⟩
  refine Runs.loop (fun k : Nat => [(15, .int .i64 k), (14, .int .i64 m), (13, .slice a m c), (0, .int .i64 8)]) (fun k H' => H = H' ∧ k ≤ m) (fun k => m - k) 0 ⟨rfl, rfl, rfl, rfl, trivial⟩ ⟨rfl, by omega⟩ ?_
  rintro k _ ⟨rfl, hk⟩
  by_cases hlt : k < m
  · obtain ⟨x, hx⟩ := get_of (l := t) (k := k) (by omega)
    obtain ⟨b, o, st, rfl, hcell⟩ := hr.cell k (.int .u8 x) (by simp [natL, hx])
    have h256 := ht x (List.mem_of_getElem? hx)
    repeat' ((conv => whnf); first
      | (refine Both.intro ?_ ?_ <;> intro _ <;> try (exfalso; omega))
      | (refine Need.intro (by omega) ?_)
      | (refine ⟨_, hcell, ?_⟩)
      | (refine Does.mono (fits8_any _ _ h256) ?_; rintro _ _ ⟨rfl, rfl⟩)
      | fail)
    all_goals (conv => whnf)
    exact ⟨k + 1, ⟨rfl, rfl, rfl, rfl, trivial⟩, ⟨rfl, by omega⟩, by omega⟩
  · skip
    repeat' ((conv => whnf); first
      | (refine Both.intro ?_ ?_ <;> intro _ <;> try (exfalso; omega))
      | (refine Need.intro (by omega) ?_)
      | fail)
    all_goals (conv => whnf)
    exact ⟨by unfold traceF; rw [if_neg (by omega)]; rfl, rfl⟩
def meanE (e : Nat) (t : List Nat) : Nat := if e = 0 then traceF t else e
theorem meanCheck_any (H : AHeap) (e : Nat) (a : Option Addr) (m c : Nat) (t : List Nat) (hr : Row H a m c (natL t)) (ht : ∀ x ∈ t, x < 256) :
    Does Try.prog orc 54 [.int .i64 e, .slice a m c] H fun r H' => r = .ret (.int .i64 (meanE e t)) ∧ H = H' := by
  refine Does.of Try.func54 (fun _ _ => rfl) rfl ?_
  repeat' ((conv => whnf); first
    | (refine Both.intro ?_ ?_ <;> intro _ <;> try (exfalso; omega))
    | (refine Need.intro (by omega) ?_)
    | (refine Does.mono (trace8_any H a m c t hr ht) ?_ ; rintro _ _ ⟨rfl, rfl⟩)
    | fail)
  all_goals (conv => whnf)
  · exact ⟨by unfold meanE; rw [if_neg (by omega)]; rfl, rfl⟩
  · exact ⟨by unfold meanE; rw [if_pos (by omega)]; rfl, rfl⟩
theorem boolTy : AppTy Try.prog #[27, 68] 4 1 where
  t0 := by kernel_rfl
  t1 := by kernel_rfl
  size := by kernel_rfl
  bytes := by kernel_rfl
  pos := by decide
  zero := ⟨.bool false, by kernel_rfl, rfl⟩
/-- The one value that tokens mean. -/
def meanV (n : Nat) (t : List Nat) (ts : List Tk) : Sm := ((evalV n t ts)[0]?).getD smNo
def allE (ts : List Tk) (t : List Nat) : Nat := meanE (termF ts false) t
theorem allE_ok {ts : List Tk} {t : List Nat} (h : allE ts t = 0) : termF ts false = 0 ∧ t.length ≤ 1024 := by
  unfold allE meanE traceF at h
  split at h
  · split at h
    · cases h
    · exact ⟨by assumption, by omega⟩
  · contradiction
theorem bl_one (n : Nat) (f : Nat → Bool) : allOne (bl n f) = true := by
  unfold allOne
  rw [List.all_eq_true]
  intro x hx
  obtain ⟨i, _, rfl⟩ := List.mem_map.1 hx
  rfl
theorem appPl {H : AHeap} {a : Option Addr} {n c : Nat} {f : Nat → Bool} (hr : BRow H a n c f) (hn : 1 ≤ n ∧ n ≤ 2 ^ 40) :
    aAppend Try.prog H #[27, 68] [.slice none 0 0, .slice a n c] = some (.val (.slice (some ⟨H.next, 0, some 0⟩) n n) (H.push (.cells (bl n f) (rowV 4 1) true)) (.eff H (H.push (.cells (bl n f) (rowV 4 1) true)))) :=
  (append_eq boolTy hr.src).trans (appTo_nil (by omega) (by omega) (bl_len n f) (bl_one n f) (by omega))
theorem meanAll_any (H : AHeap) (hw : Wf H) (a : Option Addr) (n c : Nat) (ts : List Tk) (hr : RowS H a n c 2 (ts.map Tk.cells)) (a' : Option Addr) (m c' : Nat) (t : List Nat) (ht : Row H a' m c' (natL t)) (h256 : ∀ x ∈ t, x < 256) :
    Does Try.prog orc 16 [.slice a n c, .slice a' m c'] H fun r H' => Ext H H' ∧ Wf H' ∧ ((allE ts t ≠ 0 ∧ r = .ret (.tuple #[.slice none 0 0, .int .i64 (allE ts t)])) ∨
      (allE ts t = 0 ∧ ∃ b, r = .ret (.tuple #[.slice (some ⟨b, 0, some 0⟩) (m + 1) (m + 1), .int .i64 0]) ∧ H.next ≤ b ∧ BRow H' (some ⟨b, 0, some 0⟩) (m + 1) (m + 1) (meanV m t ts).pl)) := by
  have hlen := hr.len; simp at hlen
  have hlm := ht.len; simp at hlm
  refine Does.of Try.func16 (fun _ _ => rfl) rfl ?_
  have hchk := Check_any H hw a n c ts hr
  by_cases he : allE ts t = 0
  · obtain ⟨h0, hm⟩ := allE_ok he
    obtain ⟨hk, h512⟩ := termF_kinds h0
    have hE : meanE (termF ts false) t = 0 := he
    repeat' ((conv => whnf); first
      | (refine Both.intro ?_ ?_ <;> intro _ <;> try (exfalso; omega))
      | (refine Need.intro (by omega) ?_)
      | (refine Does.mono hchk ?_ ; rintro _ H1 ⟨rfl, e1, w1⟩)
      | (refine Does.mono (meanCheck_any H1 _ a' m c' t (ht.ext hw e1) h256) ?_ ; rintro _ _ ⟨rfl, rfl⟩ ; rw [hE])
      | (refine Does.mono (work_any H1 w1 (ht.ext hw e1) h256 (by omega) a n c ts (hr.ext hw e1) (by omega) hk) ?_ ; rintro _ H2 ⟨x, S, mm, rfl, hx3, hv, hev, hmp, hS, e2, w2⟩ ; obtain ⟨ax, cx, rfl, rx, sx⟩ := hv.at hmp ; have happ := appPl rx (by omega))
      | (refine Gives.intro ⟨.slice ax (m + 1) cx, by kernel_rfl, ?_⟩)
      | (refine Outs.intro ⟨_, _, _, happ, ?_⟩)
      | fail)
    all_goals (conv => whnf)
    refine ⟨(e1.trans e2).trans (Ext.push _ _), w2.push _, .inr ⟨he, _, rfl, by have := e1.next; have := e2.next; omega, ?_⟩⟩
    have hmm : meanV m t ts = mm := by unfold meanV; rw [hev]; rfl
    rw [hmm]
    exact Row.of_block (get_new _ _) (bl_len _ _).symm (Nat.le_refl _) (List.prefix_refl _)
  · have hE : meanE (termF ts false) t = allE ts t := rfl
    repeat' ((conv => whnf); first
      | (refine Both.intro ?_ ?_ <;> intro _ <;> try (exfalso; omega))
      | (refine Need.intro (by omega) ?_)
      | (refine Does.mono hchk ?_ ; rintro _ H1 ⟨rfl, e1, w1⟩)
      | (refine Does.mono (meanCheck_any H1 _ a' m c' t (ht.ext hw e1) h256) ?_ ; rintro _ _ ⟨rfl, rfl⟩ ; rw [hE])
      | fail)
    all_goals (conv => whnf)
    exact ⟨e1, w1, .inl ⟨he, rfl⟩⟩
end Go.AX.Try
