/- term.Un, term.Bin: what is built of formulas. -/
import Derived.Test.YtcalhjlcnapnaaaLTerm
namespace Go.AX.Lw
open Go Go.AX
set_option linter.unusedVariables false
variable {P : Program}
/-- Elements that are appended where there is room. -/
theorem stk_room {H0 H : AHeap} (hw : Wf H) {ts : Array TypeId} {e : TypeId} {sz by_ : Nat} (ty : AppTyS P ts e sz by_) {b n c : Nat} {xs ys : List (List Value)} (hv : Stk H0 H (rowV e sz) sz (some ⟨b, 0, some 0⟩) n c xs)
    {x : Value} {m : Nat} (hx : srcCells H sz x = some (m, ys.flatten)) (hl : m = ys.length) (hy : ∀ y ∈ ys, y.length = sz) (hone : allOne ys.flatten = true) (hroom : n + m ≤ c) (hb : c * by_ ≤ 2 ^ 47) (hb1 : c ≤ 2 ^ 47) :
    ∃ cs', aAppend P H ts [.slice (some ⟨b, 0, some 0⟩) n c, x] = some (.val (.slice (some ⟨b, 0, some 0⟩) (n + m) c) (H.set b (.cells cs' (rowV e sz) true)) (.eff H (H.set b (.cells cs' (rowV e sz) true)))) ∧ Stk H0 (H.set b (.cells cs' (rowV e sz) true)) (rowV e sz) sz (some ⟨b, 0, some 0⟩) (n + m) c (xs ++ ys) ∧ Wf (H.set b (.cells cs' (rowV e sz) true)) := by
  obtain ⟨h1, h2, h3, ⟨h4, _⟩ | ⟨b', cs, h4, hg, hcl, hp, hb0⟩⟩ := hv
  · cases h4
  cases h4
  have hfx := flat_len h3
  have hfy := flat_len hy
  obtain ⟨rest, hrest⟩ := hp
  have hle : (n + m) * sz ≤ c * sz := Nat.mul_le_mul_right sz hroom
  rw [Nat.add_mul] at hle
  have hput := putAt_list cs (0 + n * sz) ys.flatten (by rw [hfy, ← hl, hcl]; omega)
  obtain ⟨cs', hcs'⟩ : ∃ cs', cs' = cs.take (0 + n * sz) ++ ys.flatten ++ cs.drop (0 + n * sz + ys.flatten.length) := ⟨_, rfl⟩
  rw [← hcs'] at hput
  have hnx : n * sz = xs.flatten.length := by rw [hfx, ← h1]
  have hpre : (xs ++ ys).flatten <+: cs' := by
    rw [hcs', List.flatten_append, Nat.zero_add, hnx, ← hrest, List.take_left]
    exact ⟨_, rfl⟩
  have hlen' : cs'.length = c * sz := by
    rw [hcs']
    simp only [List.length_append, List.length_take, List.length_drop]
    rw [hfy, ← hl, hcl]; omega
  refine ⟨cs', ?_, ⟨by simp [h1, hl], hroom, ?_, .inr ⟨b, cs', rfl, by rw [AHeap.get_set, if_pos rfl], hlen', hpre, hb0⟩⟩, hw.set hg _⟩
  · rw [appendS_eq ty hx]
    unfold aAppendTo
    have hm1 : n + m ≤ 2 ^ 47 := by omega
    have hmb : (n + m) * by_ ≤ 2 ^ 47 := Nat.le_trans (Nat.mul_le_mul_right _ hroom) hb
    have c1 : (Nat.ble ((n + m) * by_) (2 ^ 47) && Nat.ble (n + m) (2 ^ 47) && Nat.beq ys.flatten.length (m * sz) && Nat.ble n c && allOne ys.flatten) = true := by
      rw [hfy, ← hl]
      simp only [Bool.and_eq_true, nble hmb, nble hm1, nble h2, nbeq, hone, and_true]
    simp only [c1, cond_true, nble hroom, hg, Bool.true_or, hput]
  · intro y hy'
    rcases List.mem_append.1 hy' with h | h
    · exact h3 y h
    · exact hy y h
theorem repZ_len (z : List Value) : ∀ n, (repZ z n).length = n * z.length
  | 0 => by simp [repZ]
  | n + 1 => by simp only [repZ, List.length_append, repZ_len z n, Nat.succ_mul]; omega
theorem repZ_one {z : List Value} (h : allOne z = true) : ∀ n, allOne (repZ z n) = true
  | 0 => rfl
  | n + 1 => by
    have := repZ_one h n
    unfold allOne at this h ⊢
    simp only [repZ, List.all_append, h, this, Bool.and_self]
end Go.AX.Lw
namespace Go.AX.Try
open Go Go.AX Go.AX.Lw Go.Proofs
set_option linter.unusedVariables false
set_option linter.unusedSimpArgs false
set_option maxRecDepth 100000
theorem tokTy : AppTyS Try.prog #[22, 22] 46 2 2 where
  t0 := by kernel_rfl
  t1 := by kernel_rfl
  size := by kernel_rfl
  bytes := by kernel_rfl
  pos := by decide
  szp := by decide
  szl := by decide
  zero := ⟨.agg #[.int .u8 0, .int .u8 0], by kernel_rfl, rfl⟩
/-- Tokens in memory. -/
def Fm (H : AHeap) (v : Value) (ts : List Tk) : Prop := ∃ a n c, v = .slice a n c ∧ RowS H a n c 2 (ts.map Tk.cells)
theorem Fm.ext {H H' : AHeap} {v : Value} {ts : List Tk} (h : Fm H v ts) (hw : Wf H) (e : Ext H H') : Fm H' v ts := by
  obtain ⟨a, n, c, rfl, hr⟩ := h
  exact ⟨a, n, c, rfl, hr.ext hw e⟩
theorem Fm.nil (H : AHeap) : Fm H (.slice none 0 0) [] := ⟨none, 0, 0, rfl, ⟨rfl, Nat.le_refl _, by simp, by simp⟩⟩
theorem appGrow {H : AHeap} {n : Nat} (hn : 1 ≤ n ∧ n ≤ 2 ^ 30) :
    aAppend Try.prog H #[22, 3] [.slice none 0 0, .int .i64 n] = some (.val (.slice (some ⟨H.next, 0, some 0⟩) n n) (H.push (.cells (repZ [.int .u8 0, .int .u8 0] n) (rowV 46 2) true)) (.eff H (H.push (.cells (repZ [.int .u8 0, .int .u8 0] n) (rowV 46 2) true)))) := by
  have t0 : Try.prog.underlying 22 = some (.slice 46) := by kernel_rfl
  have t1 : Try.prog.underlying 3 = some (.int .i64) := by kernel_rfl
  have ts : sizeT Try.prog 46 = some 2 := by kernel_rfl
  have tb : bytesT Try.prog 46 = some 2 := by kernel_rfl
  have g0 : #[22, 3][0]? = some 22 := rfl
  have g1 : #[22, 3][1]? = some 3 := rfl
  unfold aAppend
  simp only [g0, g1, t0, t1, ts, tb, zTok, isIntD]
  rw [if_pos (by omega)]
  have c0 : (Nat.beq 2 0 || Nat.beq 2 0 || !(Nat.beq (Value.agg #[.int .u8 0, .int .u8 0]).cells.size 2) || Nat.ble 1073741824 2) = false := by decide
  simp only [c0, cond_false, Int.toNat_natCast]
  unfold aAppendTo
  have c1 : (Nat.ble ((0 + n) * 2) (2 ^ 47) && Nat.ble (0 + n) (2 ^ 47) && Nat.beq (repZ [.int .u8 0, .int .u8 0] n).length (n * 2) && Nat.ble 0 0 && allOne (repZ [.int .u8 0, .int .u8 0] n)) = true := by
    rw [repZ_len]
    simp only [Bool.and_eq_true, Nat.zero_add, nble (show n * 2 ≤ 2 ^ 47 by omega), nble (show n ≤ 2 ^ 47 by omega), nble (Nat.le_refl 0), repZ_one (show allOne [.int .u8 0, .int .u8 0] = true from rfl), and_true, List.length_cons, List.length_nil, nbeq]
  have c2 : (Value.agg #[.int .u8 0, .int .u8 0]).cells.toList = [.int .u8 0, .int .u8 0] := rfl
  simp only [c2, c1, cond_true]
  rw [show Nat.beq (0 + n) 0 = false from nbeq_no (by omega)]
  simp only [Nat.zero_add]
  rfl
theorem grow_tok (H : AHeap) (hw : Wf H) (n : Nat) (hn : 1 ≤ n ∧ n ≤ 2 ^ 30) :
    Does Try.prog orc 145 [.slice none 0 0, .int .i64 n] H fun r H' => r = .ret (.slice (some ⟨H.next, 0, some 0⟩) 0 n) ∧ H' = H.push (.cells (repZ [.int .u8 0, .int .u8 0] n) (rowV 46 2) true) := by
  refine Does.of Try.func145 (fun _ _ => rfl) rfl ?_
  have s1 : aSlice Try.prog 22 (.slice none 0 0) none (some (.int .i64 0)) none = some (.slice none 0 0) := by kernel_rfl
  have s2 : aSlice Try.prog 22 (.slice (some ⟨H.next, 0, some 0⟩) n n) none (some (.int .i64 0)) none = some (.slice (some ⟨H.next, 0, some 0⟩) 0 n) := slice_toN (e := 46) (n := 2) (m := 0) (by kernel_rfl) (by kernel_rfl) (Nat.zero_le _)
  have hg := appGrow (H := H) hn
  have hz : ((n : Int) - (0 - 0)) = n := by omega
  repeat' ((conv => whnf); first
    | (refine Both.intro ?_ ?_ <;> intro _ <;> try (exfalso; omega))
    | (refine Need.intro (by omega) ?_)
    | (refine Gives.intro ⟨_, s1, ?_⟩)
    | (refine Outs.intro ⟨_, _, _, hz ▸ hg, ?_⟩)
    | (refine Gives.intro ⟨_, s2, ?_⟩)
    | fail)
  all_goals (conv => whnf)
  exact ⟨rfl, rfl⟩
theorem concat_any (H : AHeap) (hw : Wf H) (a : Option Addr) (k c : Nat) (vs : List Value) (ls : List (List Tk)) (hr : Row H a k c vs) (hl : vs.length = ls.length) (hk : k ≤ 3) (hf : ∀ (j : Nat) v l, vs[j]? = some v → ls[j]? = some l → Fm H v l) (hpos : 1 ≤ ls.flatten.length) (hmax : ls.flatten.length ≤ 2 ^ 20) :
    Does Try.prog orc 109 [.slice a k c] H fun r H' => ∃ v, r = .ret v ∧ Fm H' v ls.flatten ∧ Ext H H' ∧ Wf H' := by
  have hlen := hr.len
  have hcap := hr.cap
  refine Does.of Try.func109 (fun _ _ => rfl) rfl ?_
  have hel : ∀ j, j < k → ∃ b o st aj nj cj l, a = some ⟨b, o, st⟩ ∧ cellAt H b (o + j) = some (.slice aj nj cj) ∧ ls[j]? = some l ∧ RowS H aj nj cj 2 (l.map Tk.cells) ∧ nj = l.length ∧ (ls.take (j + 1)).flatten.length = (ls.take j).flatten.length + nj := fun j hj => by
    have hx := List.getElem?_eq_getElem (l := vs) (i := j) (by omega)
    have hy := List.getElem?_eq_getElem (l := ls) (i := j) (by omega)
    obtain ⟨b, o, st, ha, hc⟩ := hr.cell j _ hx
    obtain ⟨aj, nj, cj, hv, hrow⟩ := hf j _ _ hx hy
    have hn := hrow.len; simp at hn
    exact ⟨b, o, st, aj, nj, cj, _, ha, by rw [hc, hv], hy, hrow, hn, by rw [List.take_add_one, hy, List.flatten_append, List.length_append, hn]; congr 1; exact congrArg List.length (List.append_nil _)⟩
  have hle : ∀ j, (ls.take j).flatten.length ≤ ls.flatten.length := fun j => by
    conv => rhs; rw [← List.take_append_drop j ls, List.flatten_append, List.length_append]
    omega
  repeat' ((conv => whnf); first
    | (refine Both.intro ?_ ?_ <;> intro _ <;> try (exfalso; omega))
    | (refine Need.intro (by omega) ?_)
    | fail)
  all_goals (conv => whnf)
  refine Runs.loop (fun j : Nat => [(11, .int .i64 j), (10, .int .i64 k), (9, .slice a k c), (3, .int .i64 (ls.take j).flatten.length), (0, .slice a k c)]) (fun j H' => H = H' ∧ j ≤ k) (fun j => k - j) 0 ⟨rfl, rfl, rfl, rfl, rfl, trivial⟩ ⟨rfl, Nat.zero_le _⟩ ?_
  rintro j _ ⟨rfl, hj⟩
  by_cases hlt : j < k
  · obtain ⟨b, o, st, aj, nj, cj, l, rfl, hc, hy, hrow, hnj, hsum⟩ := hel j hlt
    have h1 := hle j
    have h2 := hle (j + 1)
    repeat' ((conv => whnf); first
      | (refine Both.intro ?_ ?_ <;> intro _ <;> try (exfalso; omega))
      | (refine Need.intro (by omega) ?_)
      | (refine ⟨_, hc, ?_⟩)
      | fail)
    all_goals (conv => whnf)
    exact ⟨j + 1, ⟨rfl, rfl, rfl, by rw [hsum]; rfl, rfl, trivial⟩, ⟨rfl, by omega⟩, by omega⟩
  · have hjk : j = k := by omega
    have hall : (ls.take j).flatten.length = ls.flatten.length := by rw [List.take_of_length_le (by omega)]
    rw [hall]
    repeat' ((conv => whnf); first
      | (refine Both.intro ?_ ?_ <;> intro _ <;> try (exfalso; omega))
      | (refine Need.intro (by omega) ?_)
      | (refine Does.mono (grow_tok H hw ls.flatten.length (by omega)) ?_ ; rintro _ G ⟨rfl, hG⟩)
      | fail)
    all_goals (conv => whnf)
    have eG : Ext H G := by rw [hG]; exact Ext.push _ _
    have wG : Wf G := by rw [hG]; exact hw.push _
    have st0 : Stk H G (rowV 46 2) 2 (some ⟨H.next, 0, some 0⟩) 0 ls.flatten.length [] :=
      ⟨rfl, Nat.zero_le _, by simp, .inr ⟨H.next, _, rfl, by rw [hG, get_new], by rw [repZ_len]; rfl, List.nil_prefix, Nat.le_refl _⟩⟩
    refine Runs.loop (fun i : Nat => [(27, .int .i64 i), (26, .int .i64 k), (25, .slice a k c), (6, .slice (some ⟨H.next, 0, some 0⟩) (ls.take i).flatten.length ls.flatten.length)])
      (fun i H' => i ≤ k ∧ Ext H H' ∧ Wf H' ∧ Stk H H' (rowV 46 2) 2 (some ⟨H.next, 0, some 0⟩) (ls.take i).flatten.length ls.flatten.length ((ls.take i).flatten.map Tk.cells)) (fun i => k - i) 0 ⟨rfl, rfl, rfl, rfl, trivial⟩ ⟨Nat.zero_le _, eG, wG, st0⟩ ?_
    rintro i H1 ⟨hi, e1, w1, st1⟩
    by_cases hlt : i < k
    · obtain ⟨b, o, st, aj, nj, cj, l, rfl, hc, hy, hrow, hnj, hsum⟩ := hel i hlt
      have hc1 := cellAt_ext hw e1 hc
      have hrow1 := hrow.ext hw e1
      have hncap := hrow.cap
      have h2 := hle (i + 1)
      have hsrc : srcCells H1 2 (.slice aj nj cj) = some (nj, (l.map Tk.cells).flatten) := by
        by_cases h0 : nj = 0
        · have hl0 : l = [] := List.length_eq_zero_iff.1 (by omega)
          subst hl0
          rw [h0]
          cases aj <;> rfl
        · obtain ⟨b', o', st', rfl, hcs⟩ := RowS.flat hrow1 (by omega) (by decide)
          unfold srcCells
          simp only [nbeq_no h0, cond_false, nble hncap, cond_true, hcs]
      obtain ⟨cs', happ, st2, w2⟩ := stk_room w1 tokTy st1 hsrc (by simp [hnj]) (by intro y hy'; obtain ⟨t, _, rfl⟩ := List.mem_map.1 hy'; rfl) (by
        unfold allOne; rw [List.all_eq_true]; intro x hx
        obtain ⟨y, hy', hx'⟩ := List.mem_flatten.1 hx
        obtain ⟨t, _, rfl⟩ := List.mem_map.1 hy'
        simp [Tk.cells] at hx'; rcases hx' with rfl | rfl <;> rfl) (by omega) (by omega) (by omega)
      repeat' ((conv => whnf); first
        | (refine Both.intro ?_ ?_ <;> intro _ <;> try (exfalso; omega))
        | (refine Need.intro (by omega) ?_)
        | (refine ⟨_, hc1, ?_⟩)
        | (refine Outs.intro ⟨_, _, _, happ, ?_⟩)
        | fail)
      all_goals (conv => whnf)
      refine ⟨i + 1, ⟨rfl, rfl, rfl, by rw [hsum]; rfl, trivial⟩, ⟨by omega, e1.set (Nat.le_refl _) _, w2, ?_⟩, by omega⟩
      have hcat : (ls.take (i + 1)).flatten.map Tk.cells = (ls.take i).flatten.map Tk.cells ++ l.map Tk.cells := by rw [List.take_add_one, hy]; simp
      rw [hsum, hcat]
      exact st2
    · skip
      repeat' ((conv => whnf); first
        | (refine Both.intro ?_ ?_ <;> intro _ <;> try (exfalso; omega))
        | (refine Need.intro (by omega) ?_)
        | fail)
      all_goals (conv => whnf)
      have hall : ls.take i = ls := List.take_of_length_le (by omega)
      rw [hall] at st1
      exact ⟨_, by rw [hall]; rfl, ⟨_, _, _, rfl, st1.row⟩, e1, w1⟩
end Go.AX.Try
/- term.Un and Bin, and what the statements of layer 7 build with them. -/
namespace Go.AX.Try
open Go Go.AX Go.AX.Lw Go.Proofs
set_option linter.unusedVariables false
set_option linter.unusedSimpArgs false
set_option maxRecDepth 100000
theorem termCheck_fm (H : AHeap) (hw : Wf H) (v : Value) (ts : List Tk) (hf : Fm H v ts) (path : Bool) :
    Does Try.prog orc 68 [v, .bool path] H fun r H' => r = .ret (.int .i64 (termF ts path)) ∧ Ext H H' ∧ Wf H' := by
  obtain ⟨a, n, c, rfl, hr⟩ := hf
  exact termCheck_any H hw a n c ts hr path
theorem whole_any (H : AHeap) (hw : Wf H) (v : Value) (ts : List Tk) (hf : Fm H v ts) (path : Bool) :
    Does Try.prog orc 108 [v, .bool path] H fun r H' => ∃ v' e, r = .ret (.tuple #[v', .int .i64 e]) ∧ Fm H' v' (if termF ts path = 0 then ts else []) ∧ Ext H H' ∧ Wf H' := by
  refine Does.of Try.func108 (fun _ _ => rfl) rfl ?_
  by_cases h0 : termF ts path = 0
  · skip
    repeat' ((conv => whnf); first
      | (refine Both.intro ?_ ?_ <;> intro _ <;> try (exfalso; omega))
      | (refine Need.intro (by omega) ?_)
      | (refine Does.mono (termCheck_fm H hw v ts hf path) ?_ ; rintro _ H1 ⟨rfl, e1, w1⟩)
      | fail)
    all_goals (conv => whnf)
    exact ⟨_, _, rfl, by rw [if_pos h0]; exact hf.ext hw e1, e1, w1⟩
  · skip
    repeat' ((conv => whnf); first
      | (refine Both.intro ?_ ?_ <;> intro _ <;> try (exfalso; omega))
      | (refine Need.intro (by omega) ?_)
      | (refine Does.mono (termCheck_fm H hw v ts hf path) ?_ ; rintro _ H1 ⟨rfl, e1, w1⟩)
      | fail)
    all_goals (conv => whnf)
    exact ⟨_, _, rfl, by rw [if_neg h0]; exact Fm.nil _, e1, w1⟩
def opT (op : Nat) : Tk := ⟨op, 0⟩
/-- What Un makes; nothing, if that may not be. -/
def unF (op : Nat) (ts : List Tk) : List Tk :=
  if takesT (opT op) ≠ 1 then [] else if termF ts (decide (op = 23)) ≠ 0 then [] else if termF (ts ++ [opT op]) (decide (19 ≤ op)) = 0 then ts ++ [opT op] else []
def binF (op : Nat) (a b : List Tk) : List Tk :=
  if takesT (opT op) ≠ 2 then [] else if termF a (decide (19 ≤ op ∨ op = 17 ∨ op = 18)) ≠ 0 then [] else if termF b (decide (19 ≤ op)) ≠ 0 then [] else
  if termF (a ++ b ++ [opT op]) (decide (19 ≤ op)) = 0 then a ++ b ++ [opT op] else []
theorem takes_fm (H : AHeap) (hw : Wf H) (op : Nat) : Does Try.prog orc 107 [.agg #[.int .u8 op, .int .u8 0]] H fun r H' => r = .ret (.int .i64 (takesT (opT op))) ∧ Ext H H' ∧ Wf H' :=
  ((takesTerm_any H (opT op)).wf hw).mono fun r H' ⟨⟨h1, h2⟩, h3⟩ => ⟨h1, h2, h3⟩
theorem Un_any (H : AHeap) (hw : Wf H) (op : Nat) (v : Value) (ts : List Tk) (hf : Fm H v ts) :
    Does Try.prog orc 81 [.int .u8 op, v] H fun r H' => ∃ v' e, r = .ret (.tuple #[v', .int .i64 e]) ∧ Fm H' v' (unF op ts) ∧ Ext H H' ∧ Wf H' := by
  refine Does.of Try.func81 (fun _ _ => rfl) rfl ?_
  have hb : aBuild Try.prog 46 [(0, .int .u8 op)] = some (.agg #[.int .u8 op, .int .u8 0]) := by kernel_rfl
  by_cases h1 : takesT (opT op) = 1
  · by_cases h2 : termF ts (decide (op = 23)) = 0
    · obtain ⟨-, h512⟩ := termF_kinds h2
      have hbs : aBuildSlice Try.prog 22 1 [(0, .agg #[.int .u8 op, .int .u8 0])] = mkSlice [.int .u8 op, .int .u8 0] 1 1 := by kernel_rfl
      have hbs2 : ∀ x, v = x → ∀ b, aBuildSlice Try.prog 43 2 [(0, v), (1, .slice (some ⟨b, 0, none⟩) 1 1)] = mkSlice [v, .slice (some ⟨b, 0, none⟩) 1 1] 2 2 := fun x _ b => by
        obtain ⟨a, n, c, rfl, _⟩ := hf
        kernel_rfl
      have hcat : ∀ (H2 : AHeap), Wf H2 → Fm H2 v ts → Does Try.prog orc 109 [.slice (some ⟨H2.next + 1, 0, none⟩) 2 2] ((H2.push (.cells [.int .u8 op, .int .u8 0] 0 true)).push (.cells [v, .slice (some ⟨H2.next, 0, none⟩) 1 1] 0 true)) fun r H' => ∃ v', r = .ret v' ∧ Fm H' v' (ts ++ [opT op]) ∧ Ext H2 H' ∧ Wf H' := fun H2 w2 f2 => by
        obtain ⟨T, h_T⟩ : ∃ X, X = ((H2.push (.cells [.int .u8 op, .int .u8 0] 0 true)).push (.cells [v, .slice (some ⟨H2.next, 0, none⟩) 1 1] 0 true)) := ⟨_, rfl⟩
        have n_T : T.next = H2.next + 2 := by rw [h_T]; rfl
        have e_T : Ext H2 T := by rw [h_T]; exact (⟨by first | (simp; done) | (simp; omega), fun b hb => by (simp only [AHeap.get_push, AHeap.get_set, AHeap.next_push, AHeap.next_set]; repeat rw [if_neg (by omega)])⟩)
        have w_T : Wf T := by rw [h_T]; exact (fun b hb => by (simp only [AHeap.get_push, AHeap.get_set, AHeap.next_push, AHeap.next_set] at hb ⊢; repeat rw [if_neg (by omega)]); exact w2 b (by omega))
        have g_T_0 : T.get (H2.next) = some (.cells [.int .u8 op, .int .u8 0] 0 true) := by rw [h_T]; exact (by (simp only [AHeap.get_push, AHeap.get_set, AHeap.next_push, AHeap.next_set, if_true]); repeat (first | rw [if_pos rfl] | rw [if_neg (by omega)]))
        have g_T_1 : T.get (H2.next + 1) = some (.cells [v, .slice (some ⟨H2.next, 0, none⟩) 1 1] 0 true) := by rw [h_T]; exact (by (simp only [AHeap.get_push, AHeap.get_set, AHeap.next_push, AHeap.next_set, if_true]); repeat (first | rw [if_pos rfl] | rw [if_neg (by omega)]))
        have o_T : ∀ b, b < H2.next → T.get b = H2.get b := e_T.get
        have x_T := h_T
        have f3 := f2.ext w2 e_T
        have h := concat_any T w_T (some ⟨H2.next + 1, 0, none⟩) 2 2 [v, .slice (some ⟨H2.next, 0, none⟩) 1 1] [ts, [opT op]] (Row.of_block g_T_1 rfl (Nat.le_refl _) (List.prefix_refl _)) rfl (by decide) (fun j x l hx hl => by
          match j with
          | 0 => cases hx; cases hl; exact f3
          | 1 => cases hx; cases hl; exact ⟨_, _, _, rfl, ⟨rfl, Nat.le_refl _, (by intro x hx; simp at hx; subst hx; rfl), fun i x hx => by
              match i with
              | 0 => cases hx; exact ⟨_, _, _, rfl, cellsAt_all (n := 2) g_T_0 rfl⟩
              | i + 1 => simp at hx⟩⟩
          | j + 2 => simp at hx) (by simp) (by simp; omega)
        rw [← h_T]
        refine h.mono fun r H' ⟨v', h1, h2, h3, h4⟩ => ⟨v', h1, ?_, e_T.trans h3, h4⟩
        simpa using h2
      have hend : ∀ (H3 : AHeap) (w3 : Wf H3) (v3 : Value), Fm H3 v3 (ts ++ [opT op]) → ∀ p, p = decide (19 ≤ op) → Does Try.prog orc 108 [v3, .bool p] H3 fun r H' => ∃ v' e, r = .ret (.tuple #[v', .int .i64 e]) ∧ Fm H' v' (unF op ts) ∧ Ext H3 H' ∧ Wf H' := fun H3 w3 v3 f3 p hp => by
        refine (whole_any H3 w3 v3 _ f3 p).mono fun r H' ⟨v', e, h1', h2', h3', h4'⟩ => ⟨v', e, h1', ?_, h3', h4'⟩
        unfold unF
        rw [if_neg (fun h => h h1), if_neg (fun h => h h2), ← hp]
        exact h2'
      have htk := (takes_fm H hw op).mono (Q' := fun r H' => r = .ret (.int .i64 1) ∧ Ext H H' ∧ Wf H') fun r H' h => by rw [h1] at h; exact h
      by_cases h23 : op = 23
      all_goals by_cases h19 : 19 ≤ op
      all_goals try (exfalso; omega)
      all_goals
        have hck := fun (H1 : AHeap) (w1 : Wf H1) (f1 : Fm H1 v ts) => (termCheck_fm H1 w1 v ts f1 (decide (op = 23))).mono (Q' := fun r H' => r = .ret (.int .i64 0) ∧ Ext H1 H' ∧ Wf H') fun r H' h => by rw [h2] at h; exact h
        first
        | rw [decide_eq_true h23] at hck
        | rw [decide_eq_false h23] at hck
        repeat' ((conv => whnf); first
          | (refine Both.intro ?_ ?_ <;> intro _ <;> try (exfalso; omega))
          | (refine Need.intro (by omega) ?_)
          | (refine Gives.intro ⟨_, hb, ?_⟩)
          | (refine Does.mono htk ?_ ; rintro _ H1 ⟨rfl, e1, w1⟩)
          | (refine Does.mono (hck H1 w1 (hf.ext hw e1)) ?_ ; rintro _ H2 ⟨rfl, e2, w2⟩)
          | (refine ⟨_, hbs, ?_⟩)
          | (refine ⟨_, hbs2 _ rfl _, ?_⟩)
          | (refine Does.mono (hcat H2 w2 ((hf.ext hw e1).ext w1 e2)) ?_ ; rintro _ H3 ⟨v3, rfl, f3, e3, w3⟩)
          | (refine Does.mono (hend H3 w3 v3 f3 _ (by first | exact (decide_eq_true h19).symm | exact (decide_eq_false h19).symm)) ?_ ; rintro _ H4 ⟨v4, e, rfl, f4, e4, w4⟩)
          | fail)
        all_goals (conv => whnf)
        exact ⟨v4, e, rfl, f4, ((e1.trans e2).trans e3).trans e4, w4⟩
    · have hU : unF op ts = [] := by unfold unF; rw [if_neg (fun h => h h1), if_pos h2]
      have htk := (takes_fm H hw op).mono (Q' := fun r H' => r = .ret (.int .i64 1) ∧ Ext H H' ∧ Wf H') fun r H' h => by rw [h1] at h; exact h
      by_cases h23 : op = 23
      all_goals
        have hck := fun (H1 : AHeap) (w1 : Wf H1) (f1 : Fm H1 v ts) => termCheck_fm H1 w1 v ts f1 (decide (op = 23))
        first
        | rw [decide_eq_true h23] at hck h2
        | rw [decide_eq_false h23] at hck h2
        repeat' ((conv => whnf); first
          | (refine Both.intro ?_ ?_ <;> intro _ <;> try (exfalso; omega))
          | (refine Need.intro (by omega) ?_)
          | (refine Gives.intro ⟨_, hb, ?_⟩)
          | (refine Does.mono htk ?_ ; rintro _ H1 ⟨rfl, e1, w1⟩)
          | (refine Does.mono (hck H1 w1 (hf.ext hw e1)) ?_ ; rintro _ H2 ⟨rfl, e2, w2⟩)
          | fail)
        all_goals (conv => whnf)
        exact ⟨_, _, rfl, by rw [hU]; exact Fm.nil _, e1.trans e2, w2⟩
  · have hU : unF op ts = [] := by unfold unF; rw [if_pos h1]
    repeat' ((conv => whnf); first
      | (refine Both.intro ?_ ?_ <;> intro _ <;> try (exfalso; omega))
      | (refine Need.intro (by omega) ?_)
      | (refine Gives.intro ⟨_, hb, ?_⟩)
      | (refine Does.mono (takes_fm H hw op) ?_ ; rintro _ H1 ⟨rfl, e1, w1⟩)
      | fail)
    all_goals (conv => whnf)
    exact ⟨_, _, rfl, by rw [hU]; exact Fm.nil _, e1, w1⟩
theorem Bin_any (H : AHeap) (hw : Wf H) (op : Nat) (v u : Value) (a b : List Tk) (hf : Fm H v a) (hg : Fm H u b) :
    Does Try.prog orc 82 [.int .u8 op, v, u] H fun r H' => ∃ v' e, r = .ret (.tuple #[v', .int .i64 e]) ∧ Fm H' v' (binF op a b) ∧ Ext H H' ∧ Wf H' := by
  refine Does.of Try.func82 (fun _ _ => rfl) rfl ?_
  have hb : aBuild Try.prog 46 [(0, .int .u8 op)] = some (.agg #[.int .u8 op, .int .u8 0]) := by kernel_rfl
  by_cases h1 : takesT (opT op) = 2
  · have htk := (takes_fm H hw op).mono (Q' := fun r H' => r = .ret (.int .i64 2) ∧ Ext H H' ∧ Wf H') fun r H' h => by rw [h1] at h; exact h
    by_cases h2 : termF a (decide (19 ≤ op ∨ op = 17 ∨ op = 18)) = 0
    · by_cases h3 : termF b (decide (19 ≤ op)) = 0
      · obtain ⟨-, h512⟩ := termF_kinds h2
        obtain ⟨-, h513⟩ := termF_kinds h3
        have hbs : aBuildSlice Try.prog 22 1 [(0, .agg #[.int .u8 op, .int .u8 0])] = mkSlice [.int .u8 op, .int .u8 0] 1 1 := by kernel_rfl
        have hbs2 : ∀ x, v = x → ∀ b, aBuildSlice Try.prog 43 3 [(0, v), (1, u), (2, .slice (some ⟨b, 0, none⟩) 1 1)] = mkSlice [v, u, .slice (some ⟨b, 0, none⟩) 1 1] 3 3 := fun x _ b => by
          obtain ⟨a, n, c, rfl, _⟩ := hf
          obtain ⟨a', n', c', rfl, _⟩ := hg
          kernel_rfl
        have hcat : ∀ (H2 : AHeap), Wf H2 → Fm H2 v a → Fm H2 u b → Does Try.prog orc 109 [.slice (some ⟨H2.next + 1, 0, none⟩) 3 3] ((H2.push (.cells [.int .u8 op, .int .u8 0] 0 true)).push (.cells [v, u, .slice (some ⟨H2.next, 0, none⟩) 1 1] 0 true)) fun r H' => ∃ v', r = .ret v' ∧ Fm H' v' (a ++ b ++ [opT op]) ∧ Ext H2 H' ∧ Wf H' := fun H2 w2 f2 g2 => by
          obtain ⟨T, h_T⟩ : ∃ X, X = ((H2.push (.cells [.int .u8 op, .int .u8 0] 0 true)).push (.cells [v, u, .slice (some ⟨H2.next, 0, none⟩) 1 1] 0 true)) := ⟨_, rfl⟩
          have n_T : T.next = H2.next + 2 := by rw [h_T]; rfl
          have e_T : Ext H2 T := by rw [h_T]; exact (⟨by first | (simp; done) | (simp; omega), fun b hb => by (simp only [AHeap.get_push, AHeap.get_set, AHeap.next_push, AHeap.next_set]; repeat rw [if_neg (by omega)])⟩)
          have w_T : Wf T := by rw [h_T]; exact (fun b hb => by (simp only [AHeap.get_push, AHeap.get_set, AHeap.next_push, AHeap.next_set] at hb ⊢; repeat rw [if_neg (by omega)]); exact w2 b (by omega))
          have g_T_0 : T.get (H2.next) = some (.cells [.int .u8 op, .int .u8 0] 0 true) := by rw [h_T]; exact (by (simp only [AHeap.get_push, AHeap.get_set, AHeap.next_push, AHeap.next_set, if_true]); repeat (first | rw [if_pos rfl] | rw [if_neg (by omega)]))
          have g_T_1 : T.get (H2.next + 1) = some (.cells [v, u, .slice (some ⟨H2.next, 0, none⟩) 1 1] 0 true) := by rw [h_T]; exact (by (simp only [AHeap.get_push, AHeap.get_set, AHeap.next_push, AHeap.next_set, if_true]); repeat (first | rw [if_pos rfl] | rw [if_neg (by omega)]))
          have o_T : ∀ b, b < H2.next → T.get b = H2.get b := e_T.get
          have x_T := h_T
          have f3 := f2.ext w2 e_T
          have g3 := g2.ext w2 e_T
          have h := concat_any T w_T (some ⟨H2.next + 1, 0, none⟩) 3 3 [v, u, .slice (some ⟨H2.next, 0, none⟩) 1 1] [a, b, [opT op]] (Row.of_block g_T_1 rfl (Nat.le_refl _) (List.prefix_refl _)) rfl (by decide) (fun j x l hx hl => by
            match j with
            | 0 => cases hx; cases hl; exact f3
            | 1 => cases hx; cases hl; exact g3
            | 2 => cases hx; cases hl; exact ⟨_, _, _, rfl, ⟨rfl, Nat.le_refl _, (by intro x hx; simp at hx; subst hx; rfl), fun i x hx => by
                match i with
                | 0 => cases hx; exact ⟨_, _, _, rfl, cellsAt_all (n := 2) g_T_0 rfl⟩
                | i + 1 => simp at hx⟩⟩
            | j + 3 => simp at hx) (by simp; omega) (by simp; omega)
          rw [← h_T]
          refine h.mono fun r H' ⟨v', h1, h2, h3, h4⟩ => ⟨v', h1, ?_, e_T.trans h3, h4⟩
          simpa using h2
        have hend : ∀ (H3 : AHeap) (w3 : Wf H3) (v3 : Value), Fm H3 v3 (a ++ b ++ [opT op]) → ∀ p, p = decide (19 ≤ op) → Does Try.prog orc 108 [v3, .bool p] H3 fun r H' => ∃ v' e, r = .ret (.tuple #[v', .int .i64 e]) ∧ Fm H' v' (binF op a b) ∧ Ext H3 H' ∧ Wf H' := fun H3 w3 v3 f3 p hp => by
          refine (whole_any H3 w3 v3 _ f3 p).mono fun r H' ⟨v', e, h1', h2', h3', h4'⟩ => ⟨v', e, h1', ?_, h3', h4'⟩
          unfold binF
          rw [if_neg (fun h => h h1), if_neg (fun h => h h2), if_neg (fun h => h h3), ← hp]
          exact h2'
        by_cases h19 : 19 ≤ op
        all_goals by_cases h17 : op = 17
        all_goals by_cases h18 : op = 18
        all_goals try (exfalso; omega)
        all_goals
          have hck := fun (H1 : AHeap) (w1 : Wf H1) (f1 : Fm H1 v a) => (termCheck_fm H1 w1 v a f1 (decide (19 ≤ op ∨ op = 17 ∨ op = 18))).mono (Q' := fun r H' => r = .ret (.int .i64 0) ∧ Ext H1 H' ∧ Wf H') fun r H' h => by rw [h2] at h; exact h
          have hck2 := fun (H1 : AHeap) (w1 : Wf H1) (f1 : Fm H1 u b) => (termCheck_fm H1 w1 u b f1 (decide (19 ≤ op))).mono (Q' := fun r H' => r = .ret (.int .i64 0) ∧ Ext H1 H' ∧ Wf H') fun r H' h => by rw [h3] at h; exact h
          first
          | rw [decide_eq_true (by omega : 19 ≤ op ∨ op = 17 ∨ op = 18)] at hck
          | rw [decide_eq_false (by omega : ¬ (19 ≤ op ∨ op = 17 ∨ op = 18))] at hck
          first
          | rw [decide_eq_true h19] at hck2
          | rw [decide_eq_false h19] at hck2
          repeat' ((conv => whnf); first
            | (refine Both.intro ?_ ?_ <;> intro _ <;> try (exfalso; omega))
            | (refine Need.intro (by omega) ?_)
            | (refine Gives.intro ⟨_, hb, ?_⟩)
            | (refine Does.mono htk ?_ ; rintro _ H1 ⟨rfl, e1, w1⟩)
            | (refine Does.mono (hck H1 w1 (hf.ext hw e1)) ?_ ; rintro _ H2 ⟨rfl, e2, w2⟩)
            | (refine Does.mono (hck2 H2 w2 ((hg.ext hw e1).ext w1 e2)) ?_ ; rintro _ H5 ⟨rfl, e5, w5⟩)
            | (refine ⟨_, hbs, ?_⟩)
            | (refine ⟨_, hbs2 _ rfl _, ?_⟩)
            | (refine Does.mono (hcat H5 w5 (((hf.ext hw e1).ext w1 e2).ext w2 e5) (((hg.ext hw e1).ext w1 e2).ext w2 e5)) ?_ ; rintro _ H3 ⟨v3, rfl, f3, e3, w3⟩)
            | (refine Does.mono (hend H3 w3 v3 f3 _ (by first | exact (decide_eq_true h19).symm | exact (decide_eq_false h19).symm)) ?_ ; rintro _ H4 ⟨v4, e, rfl, f4, e4, w4⟩)
            | fail)
          all_goals (conv => whnf)
          exact ⟨v4, e, rfl, f4, (((e1.trans e2).trans e5).trans e3).trans e4, w4⟩
      · have hU : binF op a b = [] := by unfold binF; rw [if_neg (fun h => h h1), if_neg (fun h => h h2), if_pos h3]
        by_cases h19 : 19 ≤ op
        all_goals by_cases h17 : op = 17
        all_goals by_cases h18 : op = 18
        all_goals try (exfalso; omega)
        all_goals
          have hck := fun (H1 : AHeap) (w1 : Wf H1) (f1 : Fm H1 v a) => (termCheck_fm H1 w1 v a f1 (decide (19 ≤ op ∨ op = 17 ∨ op = 18))).mono (Q' := fun r H' => r = .ret (.int .i64 0) ∧ Ext H1 H' ∧ Wf H') fun r H' h => by rw [h2] at h; exact h
          have hck2 := fun (H1 : AHeap) (w1 : Wf H1) (f1 : Fm H1 u b) => termCheck_fm H1 w1 u b f1 (decide (19 ≤ op))
          first
          | rw [decide_eq_true (by omega : 19 ≤ op ∨ op = 17 ∨ op = 18)] at hck
          | rw [decide_eq_false (by omega : ¬ (19 ≤ op ∨ op = 17 ∨ op = 18))] at hck
          first
          | rw [decide_eq_true h19] at hck2 h3
          | rw [decide_eq_false h19] at hck2 h3
          repeat' ((conv => whnf); first
            | (refine Both.intro ?_ ?_ <;> intro _ <;> try (exfalso; omega))
            | (refine Need.intro (by omega) ?_)
            | (refine Gives.intro ⟨_, hb, ?_⟩)
            | (refine Does.mono htk ?_ ; rintro _ H1 ⟨rfl, e1, w1⟩)
            | (refine Does.mono (hck H1 w1 (hf.ext hw e1)) ?_ ; rintro _ H2 ⟨rfl, e2, w2⟩)
            | (refine Does.mono (hck2 H2 w2 ((hg.ext hw e1).ext w1 e2)) ?_ ; rintro _ H5 ⟨rfl, e5, w5⟩)
            | fail)
          all_goals (conv => whnf)
          exact ⟨_, _, rfl, by rw [hU]; exact Fm.nil _, (e1.trans e2).trans e5, w5⟩
    · have hU : binF op a b = [] := by unfold binF; rw [if_neg (fun h => h h1), if_pos h2]
      by_cases h19 : 19 ≤ op
      all_goals by_cases h17 : op = 17
      all_goals by_cases h18 : op = 18
      all_goals try (exfalso; omega)
      all_goals
        have hck := fun (H1 : AHeap) (w1 : Wf H1) (f1 : Fm H1 v a) => termCheck_fm H1 w1 v a f1 (decide (19 ≤ op ∨ op = 17 ∨ op = 18))
        first
        | rw [decide_eq_true (by omega : 19 ≤ op ∨ op = 17 ∨ op = 18)] at hck h2
        | rw [decide_eq_false (by omega : ¬ (19 ≤ op ∨ op = 17 ∨ op = 18))] at hck h2
        repeat' ((conv => whnf); first
          | (refine Both.intro ?_ ?_ <;> intro _ <;> try (exfalso; omega))
          | (refine Need.intro (by omega) ?_)
          | (refine Gives.intro ⟨_, hb, ?_⟩)
          | (refine Does.mono htk ?_ ; rintro _ H1 ⟨rfl, e1, w1⟩)
          | (refine Does.mono (hck H1 w1 (hf.ext hw e1)) ?_ ; rintro _ H2 ⟨rfl, e2, w2⟩)
          | fail)
        all_goals (conv => whnf)
        exact ⟨_, _, rfl, by rw [hU]; exact Fm.nil _, e1.trans e2, w2⟩
  · have hU : binF op a b = [] := by unfold binF; rw [if_pos h1]
    repeat' ((conv => whnf); first
      | (refine Both.intro ?_ ?_ <;> intro _ <;> try (exfalso; omega))
      | (refine Need.intro (by omega) ?_)
      | (refine Gives.intro ⟨_, hb, ?_⟩)
      | (refine Does.mono (takes_fm H hw op) ?_ ; rintro _ H1 ⟨rfl, e1, w1⟩)
      | fail)
    all_goals (conv => whnf)
    exact ⟨_, _, rfl, by rw [hU]; exact Fm.nil _, e1, w1⟩
theorem un_any (H : AHeap) (hw : Wf H) (op : Nat) (v : Value) (ts : List Tk) (hf : Fm H v ts) :
    Does Try.prog orc 50 [.int .u8 op, v] H fun r H' => ∃ v', r = .ret v' ∧ Fm H' v' (unF op ts) ∧ Ext H H' ∧ Wf H' := by
  refine Does.of Try.func50 (fun _ _ => rfl) rfl ?_
  repeat' ((conv => whnf); first
    | (refine Both.intro ?_ ?_ <;> intro _ <;> try (exfalso; omega))
    | (refine Need.intro (by omega) ?_)
    | (refine Does.mono (Un_any H hw op v ts hf) ?_ ; rintro _ H' ⟨v', e, rfl, h1, h2, h3⟩)
    | fail)
  all_goals (conv => whnf)
  exact ⟨_, rfl, h1, h2, h3⟩
theorem bin_any (H : AHeap) (hw : Wf H) (op : Nat) (v u : Value) (a b : List Tk) (hf : Fm H v a) (hg : Fm H u b) :
    Does Try.prog orc 51 [.int .u8 op, v, u] H fun r H' => ∃ v', r = .ret v' ∧ Fm H' v' (binF op a b) ∧ Ext H H' ∧ Wf H' := by
  refine Does.of Try.func51 (fun _ _ => rfl) rfl ?_
  repeat' ((conv => whnf); first
    | (refine Both.intro ?_ ?_ <;> intro _ <;> try (exfalso; omega))
    | (refine Need.intro (by omega) ?_)
    | (refine Does.mono (Bin_any H hw op v u a b hf hg) ?_ ; rintro _ H' ⟨v', e, rfl, h1, h2, h3⟩)
    | fail)
  all_goals (conv => whnf)
  exact ⟨_, rfl, h1, h2, h3⟩
end Go.AX.Try
