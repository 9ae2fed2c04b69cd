/- LetterAll answers true, over any memory. -/
import Derived.Test.YtgbclgkadlfejaaDoorLCheck
import Derived.Test.YtgbclgkadlfejaaDoorLLNames
namespace Go.AX.Tryd
open Go Go.AX Go.AX.Lw Go.Proofs
set_option linter.unusedVariables false
set_option maxRecDepth 100000

theorem go_zero {rest : List ByteArray} : ∀ {seen : List ByteArray}, checkGo seen rest = 0 → ∀ (k : Nat) s, rest[k]? = some s → s ∉ seen ++ rest.take k := by
  induction rest with
  | nil => intro seen _ k s h; simp at h
  | cons x r ih =>
    intro seen h k s hs
    rw [checkGo] at h
    split at h
    · cases h
    · split at h
      · cases h
      · rename_i hn
        cases k with
        | zero => simp at hs; subst hs; simpa using hn
        | succ k =>
          have := ih h k s (by simpa using hs)
          simpa using this
theorem check_zero {ss : List ByteArray} (h : checkI ss = 0) : ss.length ≤ 8 ∧ ∀ (k : Nat) s, ss[k]? = some s → place ss s k := by
  unfold checkI at h
  split at h
  · cases h
  · refine ⟨by omega, fun k s hs => .inr ⟨k, rfl, hs, fun j x hj hx e => ?_⟩⟩
    subst e
    have := go_zero h k x hs
    rw [List.nil_append] at this
    exact this (mem_take.2 ⟨j, hj, hx⟩)
theorem or_step : ∀ p < 8, ∀ m < 2 ^ p, orStep (m : Nat) (p : Nat) = (m + 2 ^ p : Nat) := by decide +kernel
theorem ofGo_snoc {ss : List ByteArray} {s : ByteArray} {i : Int} (hi : place ss s i) (h0 : 0 ≤ i) : ∀ {xs : List ByteArray} {l l' : Int}, ofGo ss l xs = (l', 0) → ofGo ss l (xs ++ [s]) = (orStep l' i, 0)
  | [], l, l', h => by
    rw [ofGo] at h; cases h
    rw [List.nil_append, ofGo, placeI_eq hi, if_neg (by omega), ofGo]
  | x :: r, l, l', h => by
    rw [ofGo] at h
    split at h
    · cases h
    · rename_i hn
      rw [List.cons_append, ofGo, if_neg hn]
      exact ofGo_snoc hi h0 h
theorem and_one64 : ∀ x < 256, (IntKind.i64.wrap (BitVec.ofInt IntKind.i64.bits (x : Nat) &&& BitVec.ofInt IntKind.i64.bits 1).toNat) = (x % 2 : Nat) := by decide +kernel
theorem strTy : AppTy Tryd.prog #[22, 22] 9 16 where
  t0 := by kernel_rfl
  t1 := by kernel_rfl
  size := by kernel_rfl
  bytes := by kernel_rfl
  pos := by decide
  zero := ⟨.string ⟨#[]⟩, by kernel_rfl, rfl⟩
theorem shr64 {i p : Nat} (hp : p < 64) : Int.fdiv (i : Int) (2 ^ min (p : Int).toNat IntKind.i64.bits) = ((i / 2 ^ p : Nat) : Int) := by
  have : min (p : Int).toNat IntKind.i64.bits = p := by
    show min p 64 = p
    omega
  rw [this, Int.fdiv_eq_ediv_of_nonneg _ (by exact Int.pow_nonneg (by omega))]
  norm_cast

/-- The names that hold in i, of the first p. -/
def onL (ss : List ByteArray) (i : Nat) : Nat → List ByteArray
  | 0 => []
  | p + 1 => onL ss i p ++ (if i / 2 ^ p % 2 = 1 then (ss[p]?).toList else [])
theorem onL_len (ss : List ByteArray) (i : Nat) : ∀ p, (onL ss i p).length ≤ p
  | 0 => Nat.le_refl _
  | p + 1 => by
    have := onL_len ss i p
    simp only [onL, List.length_append]
    split
    · cases ss[p]? <;> simp <;> omega
    · simp; omega
theorem mod_succ (i p : Nat) : i % 2 ^ (p + 1) = i % 2 ^ p + (if i / 2 ^ p % 2 = 1 then 2 ^ p else 0) := by
  rw [Nat.pow_succ, Nat.mod_mul]
  split
  · rename_i h; rw [h, Nat.mul_one]
  · rename_i h
    have : i / 2 ^ p % 2 = 0 := by omega
    rw [this, Nat.mul_zero]
theorem onL_go {ss : List ByteArray} (hpl : ∀ (k : Nat) s, ss[k]? = some s → place ss s k) (h8 : ss.length ≤ 8) (i : Nat) : ∀ p, p ≤ ss.length → ofGo ss 0 (onL ss i p) = (((i % 2 ^ p : Nat) : Int), 0)
  | 0, _ => by simp [onL, ofGo, Nat.mod_one]
  | p + 1, hp => by
    have ih := onL_go hpl h8 i p (by omega)
    rw [mod_succ, onL]
    split
    · obtain ⟨s, hs⟩ := get_of (l := ss) (k := p) (by omega)
      rw [hs]
      have := ofGo_snoc (hpl p s hs) (by omega) ih
      rw [Option.toList_some, this, or_step p (by omega) (i % 2 ^ p) (Nat.mod_lt _ (Nat.two_pow_pos p))]
    · rw [List.append_nil, Nat.add_zero]; exact ih
theorem letterAll_any (H : AHeap) (hw : Wf H) (a : Option Addr) (n c : Nat) (ss : List ByteArray) (hr : Row H a n c (strs ss)) (hn : n ≤ 2 ^ 30) (hz : sizes ss ≤ 2 ^ 60) (m : Int) :
    Does Tryd.prog orc 3 [.slice a n c, .int .i64 m] H fun r H' => r = .ret (.bool true) := by
  have hlen := hr.len; simp at hlen
  have hcap := hr.cap
  refine Does.of Tryd.func3 (fun _ _ => rfl) rfl ?_
  repeat' ((conv => whnf); first
    | (refine Both.intro ?_ ?_ <;> intro _ <;> try (exfalso; omega))
    | (refine Need.intro (by omega) ?_)
    | fail)
  all_goals (conv => whnf)
  refine Does.mono (awake_any H) ?_; rintro _ _ ⟨rfl, rfl⟩
  repeat' ((conv => whnf); first
    | (refine Both.intro ?_ ?_ <;> intro _ <;> try (exfalso; omega))
    | (refine Need.intro (by omega) ?_)
    | fail)
  all_goals (conv => whnf)
  refine Does.mono ((all_any H m).wf hw) ?_; rintro _ H1 ⟨⟨v, rfl, aa⟩, w1⟩
  obtain ⟨oa, ia⟩ := aa.is
  have hxl := allX_len m
  have hra := ia.row
  rw [ia.val]
  unfold lv
  by_cases hm : 0 ≤ m ∧ m ≤ 8
  case neg =>
    have h0 : allX m = [] := by unfold allX; rw [if_neg hm]
    have hl0 : (allX m).length = 0 := by rw [h0]; rfl
    rw [hl0]
    repeat' ((conv => whnf); first
      | (refine Both.intro ?_ ?_ <;> intro _ <;> try (exfalso; omega))
      | (refine Need.intro (by omega) ?_)
      | fail)
    all_goals (conv => whnf)
    all_goals rfl
  obtain ⟨q, rfl⟩ := Int.eq_ofNat_of_zero_le hm.1
  have hq : q ≤ 8 := by omega
  have hp := two_pow_le hq
  have hax : allX (q : Int) = allL (2 ^ q) := by unfold allX; rw [if_pos hm, Int.toNat_natCast]
  have hal : (allX (q : Int)).length = 2 ^ q := by rw [hax, allL_len]
  have he1 := ia.ext
  rw [hal] at hra ⊢
  repeat' ((conv => whnf); first
    | (refine Both.intro ?_ ?_ <;> intro _ <;> try (exfalso; omega))
    | (refine Need.intro (by omega) ?_)
    | (refine Gives.intro ⟨_, shl_ok (by omega), ?_⟩; rw [shl_one hq])
    | fail)
  all_goals (conv => whnf)
  refine Runs.loop (fun k : Nat => [(7, .int .i64 k), (6, .slice (Option.map (fun A => ⟨A, 0, none⟩) oa) (2 ^ q) (2 ^ q)), (5, .bool true), (1, .int .i64 (q : Int)), (0, .slice a n c)]) (fun k H' => H1 = H' ∧ k ≤ 2 ^ q) (fun k => 2 ^ q - k) 0 ⟨rfl, rfl, rfl, rfl, rfl, trivial⟩ ⟨rfl, by omega⟩ ?_
  rintro k _ ⟨rfl, hk⟩
  by_cases hlt : k < 2 ^ q
  · have hx : (lets (allX (q : Int)))[k]? = some (.int .u8 k) := by rw [hax]; simp [lets, allL, hlt]
    obtain ⟨b, o, st, hb, hcell⟩ := hra.cell k _ hx
    cases oa with
    | none => cases hb
    | some A =>
      simp only [Option.map_some, Option.some.injEq] at hb
      cases hb
      have hwk : IntKind.i64.wrap (k : Int) = k := wrap_i64 (by omega)
      repeat' ((conv => whnf); first
        | (refine Both.intro ?_ ?_ <;> intro _ <;> try (exfalso; omega))
        | (refine Need.intro (by omega) ?_)
        | (refine ⟨_, hcell, ?_⟩)
        | (refine Gives.intro ⟨_, rfl, ?_⟩; rw [hwk])
        | (refine Does.mono (fits_any H1 q k (by omega)) ?_; rintro _ _ ⟨b, rfl, hb, rfl⟩; cases b)
        | fail)
      all_goals (conv => whnf)
      · simp only [Bool.false_eq_true, false_iff] at hb
        exact absurd ⟨hm.1, hm.2, by rw [Int.toNat_natCast]; exact hlt⟩ hb
      · exact ⟨k + 1, ⟨rfl, rfl, rfl, rfl, rfl, trivial⟩, ⟨rfl, by omega⟩, by omega⟩
  have hr1 := hr.ext hw he1
  repeat' ((conv => whnf); first
    | (refine Both.intro ?_ ?_ <;> intro _ <;> try (exfalso; omega))
    | (refine Need.intro (by omega) ?_)
    | (refine Does.mono (large_any H1 _ _ _ ss hr1 hz (by omega)) ?_; rintro _ _ ⟨b, rfl, hb, rfl⟩; cases b)
    | (refine Does.mono (check_any H1 w1 _ _ _ ss hr1 hn) ?_; rintro _ H2 ⟨rfl, e2, w2⟩)
    | fail)
  all_goals (conv => whnf)
  case refine_2.false.refine_1 => rfl
  case refine_2.true => rfl
  rename_i hck
  have hck : checkI ss = 0 := Classical.not_not.1 hck
  obtain ⟨h8, hpl⟩ := check_zero hck
  have hpn := two_pow_le h8
  have hr2 := hr1.ext w1 e2
  refine Runs.loop (fun i : Nat => [(8, .int .i64 i), (5, .bool true), (0, .slice a n c)]) (fun i H' => Ext H2 H' ∧ Wf H' ∧ i ≤ 2 ^ ss.length) (fun i => 2 ^ ss.length - i) 0 ⟨rfl, rfl, rfl, trivial⟩ ⟨Ext.refl _, w2, by omega⟩ ?_
  rintro i H3 ⟨e3, w3, hi⟩
  have hr3 := hr2.ext w2 e3
  subst hlen
  by_cases hlt : i < 2 ^ ss.length
  case neg =>
    repeat' ((conv => whnf); first
      | (refine Both.intro ?_ ?_ <;> intro _ <;> try (exfalso; omega))
      | (refine Need.intro (by omega) ?_)
      | (refine Gives.intro ⟨_, shl_ok (by omega), ?_⟩; rw [shl_one h8])
      | fail)
    all_goals (conv => whnf)
    rfl
  repeat' ((conv => whnf); first
    | (refine Both.intro ?_ ?_ <;> intro _ <;> try (exfalso; omega))
    | (refine Need.intro (by omega) ?_)
    | (refine Gives.intro ⟨_, shl_ok (by omega), ?_⟩; rw [shl_one h8])
    | fail)
  all_goals (conv => whnf)
  refine Runs.loop (fun s : Nat × Value => [(10, .int .i64 s.1), (9, s.2), (8, .int .i64 i), (5, .bool true), (0, .slice a ss.length c)]) (fun s H' => s.1 ≤ ss.length ∧ Ext H3 H' ∧ Wf H' ∧ Grown H3 H' (rowV 9 1) s.2 (strs (onL ss i s.1))) (fun s => ss.length - s.1) (0, .slice none 0 0) ⟨rfl, rfl, rfl, rfl, rfl, trivial⟩ ⟨by omega, Ext.refl _, w3, .inl ⟨rfl, rfl⟩⟩ ?_
  rintro ⟨p, v⟩ H4 ⟨hp4, e4, w4, g4⟩
  dsimp only at hp4 g4
  have hr4 := hr3.ext w3 e4
  have hol := onL_len ss i p
  by_cases hpl4 : p < ss.length
  · obtain ⟨s, hs⟩ := get_of hpl4
    obtain ⟨b, o, st, rfl, hcell⟩ := hr4.cell p (.string s) (by simp [hs])
    have hi256 : i / 2 ^ p < 256 := Nat.lt_of_le_of_lt (Nat.div_le_self _ _) (by omega)
    repeat' ((conv => whnf); first
      | (refine Both.intro ?_ ?_ <;> intro _ <;> try (exfalso; omega))
      | (refine Need.intro (by omega) ?_)
      | (refine Gives.intro ⟨_, shr_ok (by omega), ?_⟩; rw [shr64 (by omega)])
      | (refine Gives.intro ⟨_, rfl, ?_⟩; rw [and_one64 _ hi256])
      | (refine ⟨_, hcell, ?_⟩)
      | (refine ⟨_, rfl, ?_⟩)
      | fail)
    all_goals (conv => whnf)
    · rename_i hbit
      have hbit : i / 2 ^ p % 2 = 1 := by omega
      have hx : srcCells (H4.push (.cells [.string s] 0 true)) 1 (.slice (some ⟨H4.next, 0, none⟩) 1 1) = some (1, [.string s]) := src_slice (by rw [AHeap.get_push, if_pos rfl]) rfl (Nat.le_refl _) (by decide)
      obtain ⟨v', H5, ev, ha, hg', he', hw'⟩ := grown_ok (e4.trans (Ext.push H4 (.cells [.string s] 0 true))) (w4.push _) strTy (g4.ext w4 (Ext.push _ _)) hx rfl rfl (by decide) (by simp; omega) (by simp; omega)
      refine Outs.intro ⟨v', H5, ev, ha, ?_⟩
      repeat' ((conv => whnf); first
        | (refine Both.intro ?_ ?_ <;> intro _ <;> try (exfalso; omega))
        | (refine Need.intro (by omega) ?_)
        | fail)
      all_goals (conv => whnf)
      refine ⟨(p + 1, v'), ⟨rfl, rfl, rfl, rfl, rfl, trivial⟩, ⟨by show p + 1 ≤ _; omega, he', hw', ?_⟩, by dsimp only; omega⟩
      show Grown H3 H5 _ v' (strs (onL ss i (p + 1)))
      rw [onL, if_pos hbit, hs]
      simpa using hg'
    · rename_i hbit
      refine ⟨(p + 1, v), ⟨rfl, rfl, rfl, rfl, rfl, trivial⟩, ⟨by show p + 1 ≤ _; omega, e4, w4, ?_⟩, by dsimp only; omega⟩
      show Grown H3 H4 _ v (strs (onL ss i (p + 1)))
      rw [onL, if_neg (by omega), List.append_nil]
      exact g4
  · obtain rfl : p = ss.length := by omega
    obtain ⟨ao, rfl, hro⟩ := g4.row
    have hgo := onL_go hpl h8 i ss.length (Nat.le_refl _)
    rw [Nat.mod_eq_of_lt hlt] at hgo
    have hof : ofI ss (onL ss i ss.length) = (((i : Nat) : Int), 0) := by unfold ofI; rw [if_neg (by simp [hck]), hgo]
    have hwi : IntKind.i64.wrap (i : Int) = i := wrap_i64 (by omega)
    repeat' ((conv => whnf); first
      | (refine Both.intro ?_ ?_ <;> intro _ <;> try (exfalso; omega))
      | (refine Need.intro (by omega) ?_)
      | (refine Does.mono (of_any H4 w4 _ _ _ ss hr4 (by omega) _ _ _ (onL ss i ss.length) hro (by simp; omega)) ?_; rintro _ H5 ⟨rfl, e5, w5⟩; rw [hof])
      | (refine Gives.intro ⟨_, rfl, ?_⟩; rw [hwi])
      | fail)
    all_goals (conv => whnf)
    exact ⟨i + 1, ⟨rfl, rfl, rfl, trivial⟩, ⟨e3.trans (e4.trans e5), w5, by omega⟩, by omega⟩
end Go.AX.Tryd
