/- Letters and traces that are printed are read as they were, and what is read is printed as it was. -/
import Derived.Test.YtgbclgkadlfejaaDoorLText2
namespace Go.AX.Tryd
open Go Go.AX Go.AX.Lw Go.Proofs
set_option linter.unusedVariables false
set_option maxRecDepth 100000

theorem map_mkS (xs : List ByteArray) : (xs.map bytes).map mkS = xs := by
  rw [List.map_map]
  conv => rhs; rw [← List.map_id xs]
  exact List.map_congr_left fun x _ => bytes_inj (mkS_bytes _)
theorem name_bar {l : List UInt8} (h : nameP l) : l ≠ [45] := fun e => by
  subst e
  exact name_no h (c := 45) (by decide) (by simp)
theorem of_on {ss : List ByteArray} (hf : Fine ss) {l : Nat} (hl : l < 2 ^ ss.length) : ofI ss (onL ss l ss.length) = ((l : Int), 0) := by
  have := onL_go hf.place hf.len l ss.length (Nat.le_refl _)
  rw [Nat.mod_eq_of_lt hl] at this
  unfold ofI; rw [if_neg (by simp [hf.ok]), this]
theorem read_text {ss : List ByteArray} (hf : Fine ss) {l : Nat} (hl : l < 2 ^ ss.length) : readI ss (textOf ss l) = (l, true) := by
  by_cases h0 : l = 0
  · subst h0
    unfold readI textOf; rw [if_pos rfl, if_pos rfl]
  have htx : textOf ss l = Lib.join ((onL ss l ss.length).map bytes) [32] := by unfold textOf; rw [if_neg h0]
  have hof := of_on hf hl
  have hne : onL ss l ss.length ≠ [] := fun e => by
    rw [e] at hof
    unfold ofI at hof
    rw [if_neg (by simp [hf.ok]), ofGo] at hof
    simp at hof; omega
  have hno : ∀ x ∈ (onL ss l ss.length).map bytes, nameP x := fun x hx => by
    obtain ⟨s, hs, rfl⟩ := List.mem_map.1 hx
    exact hf.name s (on_mem hs)
  have hsp : splitL 32 (textOf ss l) = (onL ss l ss.length).map bytes := by
    rw [htx]
    exact split_join (by simpa using hne) fun x hx => name_no (hno x hx) (by decide)
  have hb : textOf ss l ≠ [45] := fun e => by
    rw [e] at hsp
    have : splitL 32 [45] = [[45]] := by decide
    rw [this] at hsp
    exact name_bar (hno [45] (by rw [← hsp]; simp)) rfl
  unfold readI
  rw [if_neg hb]
  simp only [hsp, map_mkS, hof, Int.toNat_natCast]
  simp
theorem text_read {ss : List ByteArray} (hf : Fine ss) {s : List UInt8} (h : (readI ss s).2 = true) : textOf ss (readI ss s).1 = s ∧ (readI ss s).1 < 2 ^ ss.length := by
  unfold readI at h ⊢
  split at h
  · rename_i hs
    rw [if_pos hs]
    exact ⟨by unfold textOf; rw [if_pos rfl, hs], Nat.two_pow_pos _⟩
  · rename_i hs
    rw [if_neg hs]
    simp only [decide_eq_true_eq] at h
    refine ⟨h.2, ?_⟩
    obtain ⟨m, hm, hme⟩ := ofI_range hf ((splitL 32 s).map mkS)
    simp only [hme, Int.toNat_natCast]
    exact hm
theorem not_mem_join {c d : UInt8} (hcd : c ≠ d) : ∀ {xs : List (List UInt8)}, (∀ x ∈ xs, c ∉ x) → c ∉ Lib.join xs [d]
  | [], _ => by simp [Lib.join_nil]
  | [x], h => by rw [Lib.join_one]; exact h x (by simp)
  | x :: y :: r, h => by
    have ih := not_mem_join hcd (xs := y :: r) fun z hz => h z (by simp [hz])
    have e : Lib.join (x :: y :: r) [d] = x ++ d :: Lib.join (y :: r) [d] := by
      rw [Lib.join_cons, Lib.join_cons]; simp [Lib.joinTail]
    rw [e]
    simp only [List.mem_append, List.mem_cons, not_or]
    exact ⟨h x (by simp), hcd, ih⟩
theorem text_no {ss : List ByteArray} (hf : Fine ss) (l : Nat) : (59 : UInt8) ∉ textOf ss l := by
  unfold textOf
  split
  · decide
  · exact not_mem_join (by decide) fun x hx => by
      obtain ⟨s, hs, rfl⟩ := List.mem_map.1 hx
      exact name_no (hf.name s (on_mem hs)) (by decide)
theorem text_ne {ss : List ByteArray} (hf : Fine ss) {l : Nat} (hl : l < 2 ^ ss.length) : textOf ss l ≠ [] := fun e => by
  have h := read_text hf hl
  rw [e] at h
  have h1 : splitL 32 [] = [[]] := rfl
  unfold readI at h
  rw [if_neg (by simp)] at h
  simp only [h1, List.map_cons, List.map_nil, Prod.mk.injEq, decide_eq_true_eq] at h
  have hof : ofI ss [mkS []] = (0, 6) := by
    unfold ofI
    rw [if_neg (by simp [hf.ok]), ofGo]
    have : placeI ss (mkS []) = -1 := placeI_eq (.inl ⟨rfl, fun x hx e => by
      subst e
      exact name_ne (hf.name _ hx) (by rw [mkS_bytes])⟩)
    rw [this, if_pos (by decide)]
  rw [hof] at h
  exact absurd h.2.1 (by decide)
def traceT (ss : List ByteArray) (t : List Nat) : List UInt8 := Lib.join (t.map (textOf ss)) [59]
noncomputable def parseGo (ss : List ByteArray) (out : List Nat) : List (List UInt8) → Option (List Nat)
  | [] => some out
  | w :: r => if (readI ss w).2 = false ∨ out.length = 1024 then none else parseGo ss (out ++ [(readI ss w).1]) r
noncomputable def parseT (ss : List ByteArray) (s : List UInt8) : Option (List Nat) := if s = [] then some [] else parseGo ss [] (splitL 59 s)
theorem parse_go {ss : List ByteArray} (hf : Fine ss) : ∀ {t : List Nat} {out : List Nat}, (∀ x ∈ t, x < 2 ^ ss.length) → out.length + t.length ≤ 1024 → parseGo ss out (t.map (textOf ss)) = some (out ++ t)
  | [], out, _, _ => by simp [parseGo]
  | x :: r, out, h, hl => by
    rw [List.map_cons, parseGo, read_text hf (h x (by simp))]
    rw [if_neg (by simp at hl ⊢; omega)]
    rw [parse_go hf (fun y hy => h y (by simp [hy])) (by simp at hl ⊢; omega)]
    simp
theorem parse_trace {ss : List ByteArray} (hf : Fine ss) {t : List Nat} (h : ∀ x ∈ t, x < 2 ^ ss.length) (hl : t.length ≤ 1024) : parseT ss (traceT ss t) = some t := by
  have hne : ∀ x ∈ t.map (textOf ss), x ≠ [] := fun x hx => by
    obtain ⟨l, hl, rfl⟩ := List.mem_map.1 hx
    exact text_ne hf (h l hl)
  unfold parseT traceT
  by_cases h0 : t = []
  · subst h0; rw [if_pos (by simp [Lib.join_nil])]
  · rw [if_neg (fun e => h0 (by simpa using (join_empty hne).1 e)), split_join (by simpa using h0) (fun x hx => by
      obtain ⟨l, hl, rfl⟩ := List.mem_map.1 hx
      exact text_no hf l), parse_go hf h (by simpa using hl)]
    simp
theorem go_parse {ss : List ByteArray} (hf : Fine ss) : ∀ {ws : List (List UInt8)} {out u : List Nat}, out.length ≤ 1024 → parseGo ss out ws = some u → ∃ v, u = out ++ v ∧ v.map (textOf ss) = ws ∧ (∀ x ∈ v, x < 2 ^ ss.length) ∧ u.length ≤ 1024
  | [], out, u, hl, h => by rw [parseGo] at h; cases h; exact ⟨[], by simp, rfl, by simp, hl⟩
  | w :: r, out, u, hl, h => by
    rw [parseGo] at h
    split at h
    · cases h
    · rename_i hn
      have h2 : (readI ss w).2 = true := by cases hb : (readI ss w).2; exact absurd (.inl hb) hn; rfl
      have h3 : out.length ≠ 1024 := fun e => hn (.inr e)
      obtain ⟨v, rfl, hv, hx, hu⟩ := go_parse hf (by simp; omega) h
      obtain ⟨h4, h5⟩ := text_read hf h2
      exact ⟨(readI ss w).1 :: v, by simp, by simp [hv, h4], by
        intro x hx'
        rcases List.mem_cons.1 hx' with rfl | hx'
        · exact h5
        · exact hx x hx', hu⟩
theorem trace_parse {ss : List ByteArray} (hf : Fine ss) {s : List UInt8} {u : List Nat} (h : parseT ss s = some u) : traceT ss u = s ∧ (∀ x ∈ u, x < 2 ^ ss.length) ∧ u.length ≤ 1024 := by
  unfold parseT at h
  split at h
  · rename_i h0; cases h; subst h0; exact ⟨by simp [traceT, Lib.join_nil], by simp, by simp⟩
  · obtain ⟨v, hu, hv, hx, hl⟩ := go_parse hf (by simp) h
    simp at hu; subst hu
    refine ⟨?_, hx, hl⟩
    unfold traceT
    rw [hv, join_split]
end Go.AX.Tryd
