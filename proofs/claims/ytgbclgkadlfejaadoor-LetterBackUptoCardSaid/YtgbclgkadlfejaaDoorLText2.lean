/- Contracts: letters and traces as texts, and read. -/
import Derived.Test.YtgbclgkadlfejaaDoorLText
namespace Go.AX.Tryd
open Go Go.AX Go.AX.Lw Go.Proofs
set_option linter.unusedVariables false
set_option maxRecDepth 100000

def mkS (l : List UInt8) : ByteArray := ⟨l.toArray⟩
theorem mkS_bytes (l : List UInt8) : bytes (mkS l) = l := by simp [bytes, mkS]
theorem bytes_inj {a b : ByteArray} (h : bytes a = bytes b) : a = b := ba_eq.1 h
theorem bytes_map {xs ys : List ByteArray} (h : xs.map bytes = ys.map bytes) : xs = ys := by
  induction xs generalizing ys with
  | nil => cases ys with
    | nil => rfl
    | cons _ _ => cases h
  | cons x r ih => cases ys with
    | nil => cases h
    | cons y q =>
      simp only [List.map_cons, List.cons.injEq] at h
      rw [bytes_inj h.1, ih h.2]
/-- A letter's text. -/
def textOf (ss : List ByteArray) (l : Nat) : List UInt8 := if l = 0 then [45] else Lib.join ((onL ss l ss.length).map bytes) [32]
/-- Names that may be. -/
structure Fine (ss : List ByteArray) : Prop where
  len : ss.length ≤ 8
  name : ∀ s ∈ ss, nameP (bytes s)
  place : ∀ (k : Nat) s, ss[k]? = some s → place ss s k
  ok : checkI ss = 0
theorem go_names {rest : List ByteArray} : ∀ {seen : List ByteArray}, checkGo seen rest = 0 → ∀ s ∈ rest, nameP (bytes s) := by
  induction rest with
  | nil => intro seen _ s h; cases h
  | cons x r ih =>
    intro seen h s hs
    rw [checkGo] at h
    split at h
    · cases h
    · rename_i hn
      split at h
      · cases h
      · rcases List.mem_cons.1 hs with rfl | hs
        · exact Classical.not_not.1 hn
        · exact ih h s hs
theorem fine_of {ss : List ByteArray} (h : checkI ss = 0) : Fine ss := by
  obtain ⟨h1, h2⟩ := check_zero h
  refine ⟨h1, ?_, h2, h⟩
  unfold checkI at h
  rw [if_neg (by omega)] at h
  exact go_names h
theorem name_len {l : List UInt8} (h : nameP l) : l.length ≤ 20 := h.2.1
theorem name_ne {l : List UInt8} (h : nameP l) : l ≠ [] := fun e => by subst e; have := h.1; simp at this
theorem name_no {l : List UInt8} (h : nameP l) {c : UInt8} (hc : c.toNat < 48 ∨ 57 < c.toNat ∧ c.toNat < 97) : c ∉ l := fun hm => by
  obtain ⟨i, hi⟩ := List.getElem?_of_mem hm
  have := h.2.2.2 i c hi
  unfold okC at this
  omega
theorem on_mem {ss : List ByteArray} {i : Nat} : ∀ {p : Nat} {s : ByteArray}, s ∈ onL ss i p → s ∈ ss
  | 0, s, h => by cases h
  | p + 1, s, h => by
    rw [onL] at h
    rcases List.mem_append.1 h with h | h
    · exact on_mem h
    · split at h
      · simp at h; exact List.mem_of_getElem? h
      · cases h
theorem join_len {c : UInt8} {B : Nat} : ∀ {xs : List (List UInt8)}, (∀ x ∈ xs, x.length ≤ B) → (Lib.join xs [c]).length ≤ xs.length * (B + 1)
  | [], _ => by simp [Lib.join_nil]
  | [x], h => by
    rw [Lib.join_one]
    have := h x (by simp)
    simp; omega
  | x :: y :: r, h => by
    have ih := join_len (c := c) (xs := y :: r) fun z hz => h z (by simp [hz])
    have e : Lib.join (x :: y :: r) [c] = x ++ c :: Lib.join (y :: r) [c] := by
      rw [Lib.join_cons, Lib.join_cons]; simp [Lib.joinTail]
    have := h x (by simp)
    rw [e]
    simp only [List.length_append, List.length_cons] at ih ⊢
    have e2 : (r.length + 1 + 1) * (B + 1) = (r.length + 1) * (B + 1) + (B + 1) := by rw [Nat.add_mul]; omega
    omega
theorem text_len {ss : List ByteArray} (hf : Fine ss) (l : Nat) : (textOf ss l).length ≤ 200 := by
  unfold textOf
  split
  · simp
  · have h1 := join_len (c := 32) (B := 20) (xs := (onL ss l ss.length).map bytes) (by
      intro x hx
      obtain ⟨s, hs, rfl⟩ := List.mem_map.1 hx
      exact name_len (hf.name s (on_mem hs)))
    have h2 := onL_len ss l ss.length
    have h3 := hf.len
    rw [List.length_map] at h1
    have : (onL ss l ss.length).length * (20 + 1) ≤ 8 * 21 := Nat.mul_le_mul (by omega) (Nat.le_refl _)
    omega
/-- A text's letter; false: it is none. -/
noncomputable def readI (ss : List ByteArray) (s : List UInt8) : Nat × Bool :=
  if s = [45] then (0, true) else
    let on := (splitL 32 s).map mkS
    ((ofI ss on).1.toNat, decide ((ofI ss on).2 = 0 ∧ textOf ss (ofI ss on).1.toNat = s))

theorem shr8 {l p : Nat} (hp : p < 8) : Int.fdiv (l : Int) (2 ^ min (p : Int).toNat IntKind.u8.bits) = ((l / 2 ^ p : Nat) : Int) := by
  have : min (p : Int).toNat IntKind.u8.bits = p := by
    show min p 8 = p
    omega
  rw [this, Int.fdiv_eq_ediv_of_nonneg _ (by exact Int.pow_nonneg (by omega))]
  norm_cast
theorem text_any (H : AHeap) (hw : Wf H) (a : Option Addr) (n c : Nat) (ss : List ByteArray) (hr : Row H a n c (strs ss)) (hf : Fine ss) (l : Nat) (hl : l < 256) :
    Does Tryd.prog orc 34 [.slice a n c, .int .u8 l] H fun r H' => r = .ret (.string (mkS (textOf ss l))) ∧ Ext H H' ∧ Wf H' := by
  have hlen := hr.len; simp at hlen
  have hcap := hr.cap
  have h8 := hf.len
  refine Does.of Tryd.func34 (fun _ _ => rfl) rfl ?_
  repeat' ((conv => whnf); first
    | (refine Both.intro ?_ ?_ <;> intro _ <;> try (exfalso; omega))
    | (refine Need.intro (by omega) ?_)
    | fail)
  all_goals (conv => whnf)
  · rename_i h
    have : l = 0 := by omega
    subst this
    exact ⟨rfl, Ext.refl _, hw⟩
  rename_i hl0
  have htx : textOf ss l = Lib.join ((onL ss l ss.length).map bytes) [32] := by unfold textOf; rw [if_neg (by omega)]
  subst hlen
  refine Runs.loop (fun s : Nat × Value => [(12, .int .i64 s.1), (11, .int .i64 ss.length), (10, .slice a ss.length c), (5, s.2), (1, .int .u8 l)]) (fun s H' => s.1 ≤ ss.length ∧ Ext H H' ∧ Wf H' ∧ Grown H H' (rowV 9 1) s.2 (strs (onL ss l s.1))) (fun s => ss.length - s.1) (0, .slice none 0 0) ⟨rfl, rfl, rfl, rfl, rfl, trivial⟩ ⟨by omega, Ext.refl _, hw, .inl ⟨rfl, rfl⟩⟩ ?_
  rintro ⟨p, v⟩ H4 ⟨hp4, e4, w4, g4⟩
  dsimp only at hp4 g4
  have hr4 := hr.ext hw e4
  have hol := onL_len ss l p
  by_cases hpl4 : p < ss.length
  · obtain ⟨s, hs⟩ := get_of hpl4
    obtain ⟨b, o, st, rfl, hcell⟩ := hr4.cell p (.string s) (by simp [hs])
    have hi256 : l / 2 ^ p < 256 := Nat.lt_of_le_of_lt (Nat.div_le_self _ _) (by omega)
    repeat' ((conv => whnf); first
      | (refine Both.intro ?_ ?_ <;> intro _ <;> try (exfalso; omega))
      | (refine Need.intro (by omega) ?_)
      | (refine Gives.intro ⟨_, shr_ok (by omega), ?_⟩; rw [shr8 (by omega)])
      | (refine Gives.intro ⟨_, rfl, ?_⟩; rw [and_one _ hi256])
      | (refine ⟨_, hcell, ?_⟩)
      | (refine ⟨_, rfl, ?_⟩)
      | fail)
    all_goals (conv => whnf)
    · rename_i hbit
      have hbit : l / 2 ^ p % 2 = 1 := by omega
      have hx : srcCells (H4.push (.cells [.string s] 0 true)) 1 (.slice (some ⟨H4.next, 0, none⟩) 1 1) = some (1, [.string s]) := src_slice (by rw [AHeap.get_push, if_pos rfl]) rfl (Nat.le_refl _) (by decide)
      obtain ⟨v', H5, ev, ha, hg', he', hw'⟩ := grown_ok (e4.trans (Ext.push H4 (.cells [.string s] 0 true))) (w4.push _) strTy (g4.ext w4 (Ext.push _ _)) hx rfl rfl (by decide) (by simp; omega) (by simp; omega)
      refine Outs.intro ⟨v', H5, ev, ha, ?_⟩
      repeat' ((conv => whnf); first
        | (refine Both.intro ?_ ?_ <;> intro _ <;> try (exfalso; omega))
        | (refine Need.intro (by omega) ?_)
        | fail)
      all_goals (conv => whnf)
      refine ⟨(p + 1, v'), ⟨rfl, rfl, rfl, rfl, rfl, trivial⟩, ⟨by show p + 1 ≤ _; omega, he', hw', ?_⟩, by dsimp only; omega⟩
      show Grown H H5 _ v' (strs (onL ss l (p + 1)))
      rw [onL, if_pos hbit, hs]
      simpa using hg'
    · rename_i hbit
      refine ⟨(p + 1, v), ⟨rfl, rfl, rfl, rfl, rfl, trivial⟩, ⟨by show p + 1 ≤ _; omega, e4, w4, ?_⟩, by dsimp only; omega⟩
      show Grown H H4 _ v (strs (onL ss l (p + 1)))
      rw [onL, if_neg (by omega), List.append_nil]
      exact g4
  · obtain rfl : p = ss.length := by omega
    obtain ⟨ao, rfl, hro⟩ := g4.row
    have htl := text_len hf l
    rw [htx] at htl ⊢
    repeat' ((conv => whnf); first
      | (refine Both.intro ?_ ?_ <;> intro _ <;> try (exfalso; omega))
      | (refine Need.intro (by omega) ?_)
      | (refine Does.mono (join_any H4 _ _ _ (onL ss l ss.length) _ hro (by simp; omega) (by show (Lib.join ((onL ss l ss.length).map bytes) [32]).length ≤ _; omega)) ?_; rintro _ _ ⟨rfl, rfl⟩)
      | fail)
    all_goals (conv => whnf)
    exact ⟨rfl, e4, w4⟩
theorem of_range {ss : List ByteArray} (hf : Fine ss) : ∀ {xs : List ByteArray} {l : Nat}, l < 2 ^ ss.length → ∃ m : Nat, m < 2 ^ ss.length ∧ ((ofGo ss l xs).1 = (m : Int))
  | [], l, h => ⟨l, h, rfl⟩
  | x :: r, l, h => by
    rw [ofGo]
    split
    · exact ⟨0, Nat.two_pow_pos _, rfl⟩
    · rename_i hn
      have h8 := hf.len
      have key : ∀ n < 9, ∀ l < 2 ^ n, ∀ i < n, ∃ m, m < 2 ^ n ∧ orStep (l : Nat) (i : Nat) = (m : Nat) := by
        intro n hn l hl i hi
        have h1 : ∀ n < 9, ∀ l < 2 ^ n, ∀ i < n, 0 ≤ orStep (l : Nat) (i : Nat) ∧ (orStep (l : Nat) (i : Nat)).toNat < 2 ^ n := by decide +kernel
        obtain ⟨h2, h3⟩ := h1 n hn l hl i hi
        exact ⟨_, h3, by omega⟩
      have hpi : ∃ i : Nat, i < ss.length ∧ placeI ss x = i := by
        by_cases hx : ∃ i, place ss x i
        · obtain ⟨i, hi⟩ := hx
          have := placeI_eq hi
          have hg := place_ge hi
          exact ⟨i.toNat, by omega, by omega⟩
        · unfold placeI at hn ⊢
          rw [dif_neg hx]
          rcases Classical.em (x ∈ ss) with hm | hm
          · exfalso
            obtain ⟨k, hk⟩ := List.getElem?_of_mem hm
            exact hx ⟨k, hf.place k x hk⟩
          · exfalso
            exact hx ⟨-1, .inl ⟨rfl, fun y hy e => hm (e ▸ hy)⟩⟩
      obtain ⟨i, hi, hpe⟩ := hpi
      obtain ⟨m, hm, hme⟩ := key ss.length (by omega) l h i hi
      rw [hpe, hme]
      exact of_range hf hm
theorem ofI_range {ss : List ByteArray} (hf : Fine ss) (xs : List ByteArray) : ∃ m : Nat, m < 2 ^ ss.length ∧ (ofI ss xs).1 = (m : Int) := by
  unfold ofI
  rw [if_neg (by simp [hf.ok])]
  have := of_range (ss := ss) hf (xs := xs) (l := 0) (Nat.two_pow_pos _)
  simpa using this
theorem read_any (H : AHeap) (hw : Wf H) (a : Option Addr) (n c : Nat) (ss : List ByteArray) (hr : Row H a n c (strs ss)) (hf : Fine ss) (s : ByteArray) (hs : s.size ≤ 2 ^ 20) :
    Does Tryd.prog orc 38 [.slice a n c, .string s] H fun r H' => ∃ b, r = .ret (.tuple #[.int .u8 ((readI ss (bytes s)).1 : Nat), .bool b]) ∧ (b = true ↔ (readI ss (bytes s)).2 = true) ∧ Ext H H' ∧ Wf H' := by
  have hlen := hr.len; simp at hlen
  have h8 := hf.len
  have hsz : s.size = s.data.toList.length := by simp
  refine Does.of Tryd.func38 (fun _ _ => rfl) rfl ?_
  repeat' ((conv => whnf); first
    | (refine Both.intro ?_ ?_ <;> intro _ <;> try (exfalso; omega))
    | (refine Need.intro (by omega) ?_)
    | fail)
  all_goals (conv => whnf)
  · rename_i h
    have : readI ss (bytes s) = (0, true) := by unfold readI; rw [if_pos (show bytes s = [45] from h)]
    exact ⟨true, by rw [this]; rfl, by rw [this], Ext.refl _, hw⟩
  rename_i hne
  refine Does.mono (split_any H hw s _ 32 rfl (by omega)) ?_; rintro _ H1 ⟨a1, n1, ps, rfl, e1, w1, r1, hps⟩
  have hpp : (splitL 32 (bytes s)).map mkS = ps := by
    rw [← hps, List.map_map]
    conv => rhs; rw [← List.map_id ps]
    exact List.map_congr_left fun x _ => bytes_inj (mkS_bytes _)
  have hln := r1.len; simp at hln
  have hcl : ps.length = Lib.countByte (bytes s) 32 + 1 := by rw [← List.length_map (f := bytes), hps, split_len]
  have hcb : Lib.countByte (bytes s) 32 ≤ s.size := by rw [hsz]; exact List.count_le_length
  obtain ⟨m, hm, hme⟩ := ofI_range hf ps
  have hm256 : m < 256 := Nat.lt_of_lt_of_le hm (two_pow_le h8).1
  have hrd : readI ss (bytes s) = (m, decide ((ofI ss ps).2 = 0 ∧ textOf ss m = bytes s)) := by
    unfold readI
    rw [if_neg (show ¬ bytes s = [45] from hne)]
    simp only [hpp, hme, Int.toNat_natCast]
  repeat' ((conv => whnf); first
    | (refine Both.intro ?_ ?_ <;> intro _ <;> try (exfalso; omega))
    | (refine Need.intro (by omega) ?_)
    | fail)
  all_goals (conv => whnf)
  refine Does.mono (of_any H1 w1 _ _ _ ss (hr.ext hw e1) (by omega) _ _ _ ps r1 (by omega)) ?_; rintro _ H2 ⟨rfl, e2, w2⟩
  rw [show ofI ss ps = ((m : Int), (ofI ss ps).2) from Prod.ext hme rfl]
  repeat' ((conv => whnf); first
    | (refine Both.intro ?_ ?_ <;> intro _ <;> try (exfalso; omega))
    | (refine Need.intro (by omega) ?_)
    | (refine Does.mono (text_any H2 w2 _ _ _ ss ((hr.ext hw e1).ext w1 e2) hf m hm256) ?_; rintro _ H3 ⟨rfl, e3, w3⟩)
    | fail)
  all_goals (conv => whnf)
  · rename_i h1 h2
    have h1' : (ofI ss ps).2 = 0 := h1
    have h2' : textOf ss m = bytes s := by rw [← mkS_bytes (textOf ss m)]; exact h2
    exact ⟨true, by rw [hrd]; rfl, by rw [hrd]; simp [h1', h2'], (e1.trans e2).trans e3, w3⟩
  · rename_i h1 h2
    have h2' : ¬ textOf ss m = bytes s := fun e => h2 ((mkS_bytes (textOf ss m)).trans e)
    exact ⟨false, by rw [hrd]; rfl, by rw [hrd]; simp [h2'], (e1.trans e2).trans e3, w3⟩
  · rename_i h1
    have h1' : ¬ (ofI ss ps).2 = 0 := h1
    exact ⟨false, by rw [hrd]; rfl, by rw [hrd]; simp [h1'], e1.trans e2, w2⟩
end Go.AX.Tryd
