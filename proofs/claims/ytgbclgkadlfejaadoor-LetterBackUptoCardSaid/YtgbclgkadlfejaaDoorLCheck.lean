/- Contracts: whether names may be, and the letter in which some hold. -/
import Derived.Test.YtgbclgkadlfejaaDoorLLent
namespace Go.AX.Tryd
open Go Go.AX Go.AX.Lw Go.Proofs
set_option linter.unusedVariables false
set_option maxRecDepth 100000
open Classical in
/-- What names' check says, behind some that were seen. -/
noncomputable def checkGo (seen : List ByteArray) : List ByteArray → Int
  | [] => 0
  | s :: r => if ¬ nameP s.data.toList then 4 else if s ∈ seen then 5 else checkGo (seen ++ [s]) r
open Classical in
noncomputable def checkI (ss : List ByteArray) : Int := if 8 < ss.length then 3 else checkGo [] ss
theorem go_at {ss : List ByteArray} {k : Nat} {s : ByteArray} (hs : ss[k]? = some s) : ss.drop k = s :: ss.drop (k + 1) ∧ ss.take (k + 1) = ss.take k ++ [s] := by
  have hk : k < ss.length := (List.getElem?_eq_some_iff.1 hs).1
  constructor
  · rw [List.drop_eq_getElem_cons hk]; congr 1; exact (List.getElem?_eq_some_iff.1 hs).2
  · rw [List.take_add_one, hs]; rfl
theorem mem_take {ss : List ByteArray} {k : Nat} {s : ByteArray} : s ∈ ss.take k ↔ ∃ j, j < k ∧ ss[j]? = some s := by
  rw [List.mem_iff_getElem?]
  constructor
  · rintro ⟨j, hj⟩
    rw [List.getElem?_take] at hj
    split at hj
    · exact ⟨j, by assumption, hj⟩
    · cases hj
  · rintro ⟨j, hj, h⟩; exact ⟨j, by rw [List.getElem?_take, if_pos hj]; exact h⟩
/-- The entries of the map of those that were met. -/
def met (ss : List ByteArray) : List (ByteArray × Value) := ss.map fun s => (s, .bool true)
def metV (ss : List ByteArray) : List (Value × Value) := (met ss).map fun e => (.string e.1, e.2)
theorem met_has {ss : List ByteArray} {s : ByteArray} (h : s ∈ ss) {P : Program} {t : TypeId} (ht : P.underlying t = some .string) : ∃ j, findA P t (.string s) (metV ss) 0 = some (some (j, .bool true)) :=
  findA_some ht s _ _ 0 (by simp [met]) ⟨(s, .bool true), by simpa [met] using h, rfl⟩
theorem met_not {ss : List ByteArray} {s : ByteArray} (h : s ∉ ss) {P : Program} {t : TypeId} (ht : P.underlying t = some .string) : findA P t (.string s) (metV ss) 0 = some none :=
  findA_none ht s _ 0 (by intro e he; simp only [met, List.mem_map] at he; obtain ⟨x, hx, rfl⟩ := he; rintro rfl; exact h hx)

theorem check_any (H : AHeap) (hw : Wf H) (a : Option Addr) (n c : Nat) (ss : List ByteArray) (hr : Row H a n c (strs ss)) (hn : n ≤ 2 ^ 30) :
    Does Tryd.prog orc 11 [.slice a n c] H fun r H' => r = .ret (.int .i64 (checkI ss)) ∧ Ext H H' ∧ Wf H' := by
  have hlen := hr.len; simp at hlen
  have hcap := hr.cap
  refine (Does.wf (Q := fun r H' => r = .ret (.int .i64 (checkI ss)) ∧ Ext H H') ?_ hw).mono fun r H' ⟨⟨h1, h2⟩, h4⟩ => ⟨h1, h2, h4⟩
  refine Does.of Tryd.func11 (fun _ _ => rfl) rfl ?_
  repeat' ((conv => whnf); first
    | (refine Both.intro ?_ ?_ <;> intro _ <;> try (exfalso; omega))
    | (refine Need.intro (by omega) ?_)
    | fail)
  all_goals (conv => whnf)
  · exact ⟨by unfold checkI; rw [if_pos (by omega)]; rfl, Ext.refl _⟩
  have hgo : checkI ss = checkGo [] ss := by unfold checkI; rw [if_neg (by omega)]
  rw [hgo]
  refine Runs.loop (fun k : Nat => [(12, .int .i64 k), (11, .int .i64 n), (10, .slice a n c), (3, .map (some H.next))]) (fun k H' => k ≤ n ∧ Ext H H' ∧ Wf H' ∧ H'.get H.next = some (.map (metV (ss.take k))) ∧ checkGo (ss.take k) (ss.drop k) = checkGo [] ss) (fun k => n - k) 0 ⟨rfl, rfl, rfl, rfl, trivial⟩ ⟨by omega, Ext.push _ _, hw.push _, by rw [get_new]; simp [metV, met], by simp⟩ ?_
  rintro k H1 ⟨hk, he, hw1, hg, hgo'⟩
  by_cases hlt : k < n
  · obtain ⟨s, hs⟩ := get_of (l := ss) (k := k) (by omega)
    obtain ⟨b, o, st, rfl, hcell⟩ := (hr.ext hw he).cell k (.string s) (by simp [hs])
    obtain ⟨hdrop, htake⟩ := go_at hs
    rw [hdrop, checkGo] at hgo'
    repeat' ((conv => whnf); first
      | (refine Both.intro ?_ ?_ <;> intro _ <;> try (exfalso; omega))
      | (refine Need.intro (by omega) ?_)
      | (refine ⟨_, hcell, ?_⟩)
      | (refine Does.mono (name_any _ _) ?_; rintro _ _ ⟨b, rfl, hb, rfl⟩; cases b <;> simp at hb)
      | fail)
    all_goals (conv => whnf)
    · rw [if_pos hb] at hgo'
      exact ⟨by rw [← hgo']; rfl, he⟩
    · rw [if_neg (Classical.not_not.2 hb)] at hgo'
      by_cases hm : s ∈ ss.take k
      · rw [if_pos hm] at hgo'
        obtain ⟨j, hj⟩ := met_has hm (P := Tryd.prog) (t := 9) Tryd.underlying9
        refine Outs.intro ⟨_, _, _, lookup_ok Tryd.underlying53 (keyText Tryd.underlying9 s) hg (z := .bool false) (by kernel_rfl) hj false, ?_⟩
        repeat' ((conv => whnf); first
          | (refine Both.intro ?_ ?_ <;> intro _ <;> try (exfalso; omega))
          | (refine Need.intro (by omega) ?_)
          | fail)
        all_goals (conv => whnf)
        exact ⟨by rw [← hgo']; rfl, he⟩
      · rw [if_neg hm, ← htake] at hgo'
        have hj := met_not hm (P := Tryd.prog) (t := 9) Tryd.underlying9
        refine Outs.intro ⟨_, _, _, lookup_no Tryd.underlying53 (keyText Tryd.underlying9 s) hg (z := .bool false) (by kernel_rfl) hj false, ?_⟩
        repeat' ((conv => whnf); first
          | (refine Both.intro ?_ ?_ <;> intro _ <;> try (exfalso; omega))
          | (refine Need.intro (by omega) ?_)
          | fail)
        all_goals (conv => whnf)
        refine Outs.intro ⟨_, _, _, update_new (e := 4) Tryd.underlying53 (keyText Tryd.underlying9 s) rfl hg hj, ?_⟩
        repeat' ((conv => whnf); first
          | (refine Both.intro ?_ ?_ <;> intro _ <;> try (exfalso; omega))
          | (refine Need.intro (by omega) ?_)
          | fail)
        all_goals (conv => whnf)
        refine ⟨k + 1, ⟨rfl, rfl, rfl, rfl, trivial⟩, ⟨by omega, he.set (Nat.le_refl _) _, hw1.set hg _, ?_, hgo'⟩, by omega⟩
        rw [AHeap.get_set, if_pos rfl, htake]
        simp [metV, met]
  · obtain rfl : k = n := by omega
    rw [List.drop_of_length_le (by omega)] at hgo'
    repeat' ((conv => whnf); first
      | (refine Both.intro ?_ ?_ <;> intro _ <;> try (exfalso; omega))
      | (refine Need.intro (by omega) ?_)
      | fail)
    all_goals (conv => whnf)
    exact ⟨by rw [← hgo']; rfl, he⟩
theorem refCheck_any (H : AHeap) (a : Option Addr) (n c : Nat) (ss : List ByteArray) (hr : Row H a n c (strs ss)) (hn : n ≤ 2 ^ 30) :
    Does Tryd.prog orc 35 [.slice a n c] H fun r H' => r = .ret (.int .i64 (checkI ss)) ∧ H = H' := by
  have hlen := hr.len; simp at hlen
  have hcap := hr.cap
  refine Does.of Tryd.func35 (fun _ _ => rfl) rfl ?_
  repeat' ((conv => whnf); first
    | (refine Both.intro ?_ ?_ <;> intro _ <;> try (exfalso; omega))
    | (refine Need.intro (by omega) ?_)
    | fail)
  all_goals (conv => whnf)
  · exact ⟨by unfold checkI; rw [if_pos (by omega)]; rfl, rfl⟩
  have hgo : checkI ss = checkGo [] ss := by unfold checkI; rw [if_neg (by omega)]
  rw [hgo]
  refine Runs.loop (fun k : Nat => [(3, .int .i64 k), (0, .slice a n c)]) (fun k H' => k ≤ n ∧ H = H' ∧ checkGo (ss.take k) (ss.drop k) = checkGo [] ss) (fun k => n - k) 0 ⟨rfl, rfl, trivial⟩ ⟨by omega, rfl, by simp⟩ ?_
  rintro k _ ⟨hk, rfl, hgo'⟩
  by_cases hlt : k < n
  · obtain ⟨s, hs⟩ := get_of (l := ss) (k := k) (by omega)
    obtain ⟨b, o, st, rfl, hcell⟩ := hr.cell k (.string s) (by simp [hs])
    obtain ⟨hdrop, htake⟩ := go_at hs
    rw [hdrop, checkGo] at hgo'
    have hrt : Row H (some ⟨b, o, st⟩) k c (strs (ss.take k)) := by
      have := hr.take (k := k) (by omega)
      rwa [← List.map_take] at this
    repeat' ((conv => whnf); first
      | (refine Both.intro ?_ ?_ <;> intro _ <;> try (exfalso; omega))
      | (refine Need.intro (by omega) ?_)
      | (refine ⟨_, hcell, ?_⟩)
      | (refine Gives.intro ⟨_, slice_toN Tryd.underlying22 (n := 1) (by kernel_rfl) (by omega), ?_⟩)
      | (refine Does.mono (refName_any _ _) ?_; rintro _ _ ⟨b, rfl, hb, rfl⟩; cases b <;> simp at hb)
      | (refine Does.mono (at_any _ _ _ _ _ hrt (by omega) s) ?_; rintro _ _ ⟨i, rfl, hi, rfl⟩)
      | (refine Need.intro (DrawP.intro (by kernel_rfl)) ?_)
      | fail)
    all_goals (conv => whnf)
    · rw [if_pos hb] at hgo'
      exact ⟨by rw [← hgo']; rfl, rfl⟩
    · rename_i h
      rw [if_neg (Classical.not_not.2 hb)] at hgo'
      have hm : s ∈ ss.take k := by
        rcases hi with ⟨rfl, _⟩ | ⟨j, -, hj, _⟩
        · omega
        · exact List.mem_of_getElem? hj
      rw [if_pos hm] at hgo'
      exact ⟨by rw [← hgo']; rfl, rfl⟩
    · rename_i h
      rw [if_neg (Classical.not_not.2 hb)] at hgo'
      have hm : s ∉ ss.take k := by
        rcases hi with ⟨rfl, hno⟩ | ⟨j, rfl, hj, _⟩
        · exact fun h => hno s h rfl
        · omega
      rw [if_neg hm, ← htake] at hgo'
      exact ⟨k + 1, ⟨rfl, rfl, trivial⟩, ⟨by omega, rfl, hgo'⟩, by omega⟩
  · obtain rfl : k = n := by omega
    rw [List.drop_of_length_le (by omega)] at hgo'
    repeat' ((conv => whnf); first
      | (refine Both.intro ?_ ?_ <;> intro _ <;> try (exfalso; omega))
      | (refine Need.intro (by omega) ?_)
      | fail)
    all_goals (conv => whnf)
    exact ⟨by rw [← hgo']; rfl, rfl⟩
theorem place_eq {ss : List ByteArray} {s : ByteArray} {i j : Int} (h : place ss s i) (h' : place ss s j) : i = j := by
  rcases h with ⟨rfl, h⟩ | ⟨k, rfl, hk, hb⟩ <;> rcases h' with ⟨rfl, h'⟩ | ⟨k', rfl, hk', hb'⟩
  · rfl
  · exact absurd rfl (h s (List.mem_of_getElem? hk'))
  · exact absurd rfl (h' s (List.mem_of_getElem? hk))
  · rcases Nat.lt_trichotomy k k' with hl | rfl | hl
    · exact absurd rfl (hb' k s hl hk)
    · rfl
    · exact absurd rfl (hb k' s hl hk')
/-- The letter l with the proposition i besides. -/
def orStep (l i : Int) : Int := IntKind.u8.wrap (BitVec.ofInt IntKind.u8.bits l ||| BitVec.ofInt IntKind.u8.bits (IntKind.u8.wrap (1 * 2 ^ min i.toNat IntKind.u8.bits))).toNat
open Classical in
/-- Where a name stands; -1: nowhere. -/
noncomputable def placeI (ss : List ByteArray) (s : ByteArray) : Int := if h : ∃ i, place ss s i then h.choose else 0
theorem placeI_eq {ss : List ByteArray} {s : ByteArray} {i : Int} (h : place ss s i) : placeI ss s = i := by
  have h' : ∃ i, place ss s i := ⟨i, h⟩
  unfold placeI; rw [dif_pos h']; exact place_eq h'.choose_spec h
noncomputable def ofGo (names : List ByteArray) (l : Int) : List ByteArray → Int × Int
  | [] => (l, 0)
  | s :: r => if placeI names s < 0 then (0, 6) else ofGo names (orStep l (placeI names s)) r
noncomputable def ofI (names on : List ByteArray) : Int × Int := if checkI names ≠ 0 then (0, checkI names) else ofGo names 0 on
theorem place_ge {ss : List ByteArray} {s : ByteArray} {i : Int} (h : place ss s i) : -1 ≤ i ∧ (i < ss.length) := by
  rcases h with ⟨rfl, h⟩ | ⟨k, rfl, hk, hb⟩
  · omega
  · have := (List.getElem?_eq_some_iff.1 hk).1; omega
def pairV (p : Int × Int) : Value := .tuple #[.int .u8 p.1, .int .i64 p.2]

theorem of_any (H : AHeap) (hw : Wf H) (a : Option Addr) (n c : Nat) (ss : List ByteArray) (hr : Row H a n c (strs ss)) (hn : n ≤ 2 ^ 30) (a' : Option Addr) (n' c' : Nat) (ts : List ByteArray) (hr' : Row H a' n' c' (strs ts)) (hn' : n' ≤ 2 ^ 30) :
    Does Tryd.prog orc 12 [.slice a n c, .slice a' n' c'] H fun r H' => r = .ret (pairV (ofI ss ts)) ∧ Ext H H' ∧ Wf H' := by
  have hlen' := hr'.len; simp at hlen'
  have hcap' := hr'.cap
  refine Does.of Tryd.func12 (fun _ _ => rfl) rfl ?_
  repeat' ((conv => whnf); first
    | (refine Both.intro ?_ ?_ <;> intro _ <;> try (exfalso; omega))
    | (refine Need.intro (by omega) ?_)
    | (refine Does.mono (check_any H hw _ _ _ ss hr hn) ?_; rintro _ H1 ⟨rfl, he, hw1⟩)
    | fail)
  all_goals (conv => whnf)
  · rename_i h
    exact ⟨by unfold ofI; rw [if_pos h]; rfl, he, hw1⟩
  rename_i h
  have hgo : ofI ss ts = ofGo ss 0 ts := by unfold ofI; rw [if_neg h]
  rw [hgo]
  have hr1 := hr.ext hw he
  have hr1' := hr'.ext hw he
  refine Runs.loop (fun s : Nat × Int => [(18, .int .i64 s.1), (17, .int .i64 n'), (16, .slice a' n' c'), (7, .int .u8 s.2), (0, .slice a n c)]) (fun s H' => s.1 ≤ n' ∧ H1 = H' ∧ ofGo ss s.2 (ts.drop s.1) = ofGo ss 0 ts) (fun s => n' - s.1) (0, 0) ⟨rfl, rfl, rfl, rfl, rfl, trivial⟩ ⟨by omega, rfl, by simp⟩ ?_
  rintro ⟨k, l⟩ _ ⟨hk, rfl, hgo'⟩
  dsimp only at hk hgo'
  by_cases hlt : k < n'
  · obtain ⟨s, hs⟩ := get_of (l := ts) (k := k) (by omega)
    obtain ⟨b, o, st, rfl, hcell⟩ := hr1'.cell k (.string s) (by simp [hs])
    rw [(go_at hs).1, ofGo] at hgo'
    repeat' ((conv => whnf); first
      | (refine Both.intro ?_ ?_ <;> intro _ <;> try (exfalso; omega))
      | (refine Need.intro (by omega) ?_)
      | (refine ⟨_, hcell, ?_⟩)
      | (refine Does.mono (index_any _ _ _ _ _ hr1 (by omega) s) ?_; rintro _ _ ⟨i, rfl, hi, rfl⟩)
      | (refine Gives.intro ⟨_, shl_ok (by omega), ?_⟩)
      | (refine Gives.intro ⟨_, rfl, ?_⟩)
      | fail)
    all_goals (conv => whnf)
    · rename_i h
      rw [placeI_eq hi, if_pos h] at hgo'
      exact ⟨by rw [← hgo']; rfl, he, hw1⟩
    · rename_i h
      rw [placeI_eq hi, if_neg h] at hgo'
      exact ⟨(k + 1, orStep l i), ⟨rfl, rfl, rfl, rfl, rfl, trivial⟩, ⟨by show k + 1 ≤ n'; omega, rfl, hgo'⟩, by dsimp only; omega⟩
  · obtain rfl : k = n' := by omega
    rw [List.drop_of_length_le (by omega)] at hgo'
    repeat' ((conv => whnf); first
      | (refine Both.intro ?_ ?_ <;> intro _ <;> try (exfalso; omega))
      | (refine Need.intro (by omega) ?_)
      | fail)
    all_goals (conv => whnf)
    exact ⟨by rw [← hgo']; rfl, he, hw1⟩
end Go.AX.Tryd
