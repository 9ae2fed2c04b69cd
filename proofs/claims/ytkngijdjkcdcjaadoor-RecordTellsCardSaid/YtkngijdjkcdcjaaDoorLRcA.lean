/- Automata, strategies: lists compared. -/
import Derived.Test.YtkngijdjkcdcjaaDoorLDrw
namespace Go.AX.Tryd
open Go Go.AX Go.AX.Lw Go.Proofs
set_option linter.unusedVariables false
set_option linter.unusedSimpArgs false
set_option maxRecDepth 100000
abbrev ints (l : List Int) : List Value := l.map (.int .i64)
abbrev bools (l : List Bool) : List Value := l.map .bool
/-- A node: its proposition, where it leads. -/
abbrev Nd := Int × Int × Int
def ndC (x : Nd) : List Value := [.int .i64 x.1, .int .i64 x.2.1, .int .i64 x.2.2]
abbrev nds (l : List Nd) : List (List Value) := l.map ndC
theorem sameInts_any (H : AHeap) (a a' : Option Addr) (n c n' c' : Nat) (ss ts : List Int) (hr : Row H a n c (ints ss)) (hr' : Row H a' n' c' (ints ts)) (hn : n ≤ 2 ^ 60) (hn' : n' ≤ 2 ^ 60) :
    Does Tryd.prog orc 26 [.slice a n c, .slice a' n' c'] H fun r H' => ∃ b, r = .ret (.bool b) ∧ (b = true ↔ ss = ts) ∧ H = H' := by
  have hlen := hr.len; simp at hlen
  have hcap := hr.cap
  have hlen' := hr'.len; simp at hlen'
  have hcap' := hr'.cap
  refine Does.of Tryd.func26 (fun _ _ => rfl) rfl ?_
  repeat' ((conv => whnf); first
    | (refine Both.intro ?_ ?_ <;> intro _ <;> try (exfalso; omega))
    | (refine Need.intro (by omega) ?_)
    | fail)
  all_goals (conv => whnf)
  · exact ⟨_, rfl, iff_of_false (by simp) (fun e => by subst e; omega), rfl⟩
  have hnn : n = n' := by omega
  subst hnn
  refine Runs.loop (fun k : Nat => [(5, .int .i64 k), (0, .slice a n c), (1, .slice a' n c')]) (fun k H' => H = H' ∧ k ≤ n ∧ ∀ (j : Nat) x, j < k → ss[j]? = some x → ts[j]? = some x) (fun k => n - k) 0 ⟨rfl, rfl, rfl, trivial⟩ ⟨rfl, by omega, by omega⟩ ?_
  rintro k _ ⟨rfl, hk, hall⟩
  by_cases hlt : k < n
  · obtain ⟨x, hx⟩ := get_of (l := ss) (k := k) (by omega)
    obtain ⟨y, hy⟩ := get_of (l := ts) (k := k) (by omega)
    obtain ⟨b, o, st, rfl, hcell⟩ := hr.cell k (.int .i64 x) (by simp [ints, hx])
    obtain ⟨b', o', st', rfl, hcell'⟩ := hr'.cell k (.int .i64 y) (by simp [ints, hy])
    repeat' ((conv => whnf); first
      | (refine Both.intro ?_ ?_ <;> intro _ <;> try (exfalso; omega))
      | (refine Need.intro (by omega) ?_)
      | (refine ⟨_, hcell, ?_⟩)
      | (refine ⟨_, hcell', ?_⟩)
      | (refine Need.intro (DrawP.intro (by kernel_rfl)) ?_)
      | fail)
    all_goals (conv => whnf)
    · rename_i h
      exact ⟨_, rfl, iff_of_false (by simp) (fun e => h (by subst e; rw [hx] at hy; cases hy; rfl)), rfl⟩
    · rename_i h
      exact ⟨k + 1, ⟨rfl, rfl, rfl, trivial⟩, ⟨rfl, by omega, all_step (R := fun j x => ts[j]? = some x) hall hx (by rw [hy, Classical.not_not.1 h])⟩, by omega⟩
  · skip
    repeat' ((conv => whnf); first
      | (refine Both.intro ?_ ?_ <;> intro _ <;> try (exfalso; omega))
      | (refine Need.intro (by omega) ?_)
      | fail)
    all_goals (conv => whnf)
    exact ⟨_, rfl, iff_of_true rfl (list_eq_of (by omega) fun j x hj hx => hall j x (by omega) hx), rfl⟩
theorem sameBools_any (H : AHeap) (a a' : Option Addr) (n c n' c' : Nat) (ss ts : List Bool) (hr : Row H a n c (bools ss)) (hr' : Row H a' n' c' (bools ts)) (hn : n ≤ 2 ^ 60) (hn' : n' ≤ 2 ^ 60) :
    Does Tryd.prog orc 34 [.slice a n c, .slice a' n' c'] H fun r H' => ∃ b, r = .ret (.bool b) ∧ (b = true ↔ ss = ts) ∧ H = H' := by
  have hlen := hr.len; simp at hlen
  have hcap := hr.cap
  have hlen' := hr'.len; simp at hlen'
  have hcap' := hr'.cap
  refine Does.of Tryd.func34 (fun _ _ => rfl) rfl ?_
  repeat' ((conv => whnf); first
    | (refine Both.intro ?_ ?_ <;> intro _ <;> try (exfalso; omega))
    | (refine Need.intro (by omega) ?_)
    | fail)
  all_goals (conv => whnf)
  · exact ⟨_, rfl, iff_of_false (by simp) (fun e => by subst e; omega), rfl⟩
  have hnn : n = n' := by omega
  subst hnn
  refine Runs.loop (fun k : Nat => [(5, .int .i64 k), (0, .slice a n c), (1, .slice a' n c')]) (fun k H' => H = H' ∧ k ≤ n ∧ ∀ (j : Nat) x, j < k → ss[j]? = some x → ts[j]? = some x) (fun k => n - k) 0 ⟨rfl, rfl, rfl, trivial⟩ ⟨rfl, by omega, by omega⟩ ?_
  rintro k _ ⟨rfl, hk, hall⟩
  by_cases hlt : k < n
  · obtain ⟨x, hx⟩ := get_of (l := ss) (k := k) (by omega)
    obtain ⟨y, hy⟩ := get_of (l := ts) (k := k) (by omega)
    obtain ⟨b, o, st, rfl, hcell⟩ := hr.cell k (.bool x) (by simp [bools, hx])
    obtain ⟨b', o', st', rfl, hcell'⟩ := hr'.cell k (.bool y) (by simp [bools, hy])
    by_cases hxy : x = y
    · have hne : aBin Tryd.prog .neq 4 false false (.bool x) (.bool y) = some (.bool false) := by subst hxy; cases x <;> rfl
      repeat' ((conv => whnf); first
        | (refine Both.intro ?_ ?_ <;> intro _ <;> try (exfalso; omega))
        | (refine Need.intro (by omega) ?_)
        | (refine ⟨_, hcell, ?_⟩)
        | (refine ⟨_, hcell', ?_⟩)
        | (refine Gives.intro ⟨_, hne, ?_⟩)
        | (refine Need.intro (DrawP.intro (by kernel_rfl)) ?_)
        | fail)
      all_goals (conv => whnf)
      exact ⟨k + 1, ⟨rfl, rfl, rfl, trivial⟩, ⟨rfl, by omega, all_step (R := fun j x => ts[j]? = some x) hall hx (by rw [hy, hxy])⟩, by omega⟩
    · have hne : aBin Tryd.prog .neq 4 false false (.bool x) (.bool y) = some (.bool true) := by
        cases x <;> cases y <;> first | rfl | exact absurd rfl hxy
      repeat' ((conv => whnf); first
        | (refine Both.intro ?_ ?_ <;> intro _ <;> try (exfalso; omega))
        | (refine Need.intro (by omega) ?_)
        | (refine ⟨_, hcell, ?_⟩)
        | (refine ⟨_, hcell', ?_⟩)
        | (refine Gives.intro ⟨_, hne, ?_⟩)
        | (refine Need.intro (DrawP.intro (by kernel_rfl)) ?_)
        | fail)
      all_goals (conv => whnf)
      exact ⟨_, rfl, iff_of_false (by simp) (fun e => hxy (by subst e; rw [hx] at hy; cases hy; rfl)), rfl⟩
  · skip
    repeat' ((conv => whnf); first
      | (refine Both.intro ?_ ?_ <;> intro _ <;> try (exfalso; omega))
      | (refine Need.intro (by omega) ?_)
      | fail)
    all_goals (conv => whnf)
    exact ⟨_, rfl, iff_of_true rfl (list_eq_of (by omega) fun j x hj hx => hall j x (by omega) hx), rfl⟩
theorem nd_eqA (a b c d e f : Int) : aEqIn Tryd.prog 50 53 (.agg #[.int .i64 a, .int .i64 b, .int .i64 c]) (.agg #[.int .i64 d, .int .i64 e, .int .i64 f]) = (match some (a == d) with | some true => (match some (b == e) with | some true => (match some (c == f) with | some true => some true | x => x) | x => x) | x => x) := by kernel_rfl
theorem nd_eq (x y : Nd) : aEqIn Tryd.prog 50 53 (.agg (ndC x).toArray) (.agg (ndC y).toArray) = some (decide (x = y)) := by
  obtain ⟨a, b, c⟩ := x
  obtain ⟨d, e, f⟩ := y
  refine (nd_eqA a b c d e f).trans ?_
  by_cases h1 : a = d
  · subst h1
    by_cases h2 : b = e
    · subst h2
      by_cases h3 : c = f
      · subst h3; simp
      · simp [h3]
    · simp [h2]
  · simp [h1]
theorem nd_neq (x y : Nd) (cx cy : Bool) : aBin Tryd.prog .neq 53 cx cy (.agg (ndC x).toArray) (.agg (ndC y).toArray) = some (.bool (decide (x ≠ y))) := by
  have h : Tryd.prog.eqGuardType Tryd.prog.depth 53 = false := by kernel_rfl
  unfold aBin
  simp only [h, Bool.not_false, cond_true, nd_eq, Option.map_some, decide_not]
theorem nd_eql (x y : Nd) (cx cy : Bool) : aBin Tryd.prog .eql 53 cx cy (.agg (ndC x).toArray) (.agg (ndC y).toArray) = some (.bool (decide (x = y))) := by
  have h : Tryd.prog.eqGuardType Tryd.prog.depth 53 = false := by kernel_rfl
  unfold aBin
  simp only [h, Bool.not_false, cond_true, nd_eq, Option.map_some]
theorem sameNodes_any (H : AHeap) (a a' : Option Addr) (n c n' c' : Nat) (ss ts : List Nd) (hr : RowS H a n c 3 (nds ss)) (hr' : RowS H a' n' c' 3 (nds ts)) (hn : n ≤ 2 ^ 60) (hn' : n' ≤ 2 ^ 60) :
    Does Tryd.prog orc 35 [.slice a n c, .slice a' n' c'] H fun r H' => ∃ b, r = .ret (.bool b) ∧ (b = true ↔ ss = ts) ∧ H = H' := by
  have hlen := hr.len; simp at hlen
  have hcap := hr.cap
  have hlen' := hr'.len; simp at hlen'
  have hcap' := hr'.cap
  refine Does.of Tryd.func35 (fun _ _ => rfl) rfl ?_
  repeat' ((conv => whnf); first
    | (refine Both.intro ?_ ?_ <;> intro _ <;> try (exfalso; omega))
    | (refine Need.intro (by omega) ?_)
    | fail)
  all_goals (conv => whnf)
  · exact ⟨_, rfl, iff_of_false (by simp) (fun e => by subst e; omega), rfl⟩
  have hnn : n = n' := by omega
  subst hnn
  refine Runs.loop (fun k : Nat => [(5, .int .i64 k), (0, .slice a n c), (1, .slice a' n c')]) (fun k H' => H = H' ∧ k ≤ n ∧ ∀ (j : Nat) x, j < k → ss[j]? = some x → ts[j]? = some x) (fun k => n - k) 0 ⟨rfl, rfl, rfl, trivial⟩ ⟨rfl, by omega, by omega⟩ ?_
  rintro k _ ⟨rfl, hk, hall⟩
  by_cases hlt : k < n
  · obtain ⟨x, hx⟩ := get_of (l := ss) (k := k) (by omega)
    obtain ⟨y, hy⟩ := get_of (l := ts) (k := k) (by omega)
    obtain ⟨b, o, st, rfl, hcell⟩ := hr.cell k (ndC x) (by simp [hx])
    obtain ⟨b', o', st', rfl, hcell'⟩ := hr'.cell k (ndC y) (by simp [hy])
    by_cases hxy : x = y
    · have hq := nd_neq x y
      rw [decide_eq_false (not_not_intro hxy)] at hq
      repeat' ((conv => whnf); first
        | (refine Both.intro ?_ ?_ <;> intro _ <;> try (exfalso; omega))
        | (refine Need.intro (by omega) ?_)
        | (refine ⟨_, hcell, ?_⟩)
        | (refine ⟨_, hcell', ?_⟩)
        | (refine Gives.intro ⟨_, hq _ _, ?_⟩)
        | (refine Need.intro (DrawP.intro (by kernel_rfl)) ?_)
        | fail)
      all_goals (conv => whnf)
      exact ⟨k + 1, ⟨rfl, rfl, rfl, trivial⟩, ⟨rfl, by omega, all_step (R := fun j x => ts[j]? = some x) hall hx (by rw [hy, hxy])⟩, by omega⟩
    · have hq := nd_neq x y
      rw [decide_eq_true hxy] at hq
      repeat' ((conv => whnf); first
        | (refine Both.intro ?_ ?_ <;> intro _ <;> try (exfalso; omega))
        | (refine Need.intro (by omega) ?_)
        | (refine ⟨_, hcell, ?_⟩)
        | (refine ⟨_, hcell', ?_⟩)
        | (refine Gives.intro ⟨_, hq _ _, ?_⟩)
        | (refine Need.intro (DrawP.intro (by kernel_rfl)) ?_)
        | fail)
      all_goals (conv => whnf)
      exact ⟨_, rfl, iff_of_false (by simp) (fun e => hxy (by subst e; rw [hx] at hy; cases hy; rfl)), rfl⟩
  · skip
    repeat' ((conv => whnf); first
      | (refine Both.intro ?_ ?_ <;> intro _ <;> try (exfalso; omega))
      | (refine Need.intro (by omega) ?_)
      | fail)
    all_goals (conv => whnf)
    exact ⟨_, rfl, iff_of_true rfl (list_eq_of (by omega) fun j x hj hx => hall j x (by omega) hx), rfl⟩
/-- An automaton. -/
structure Aut where
  pr : Int
  acc : List Bool
  gd : List Int
  nd : List Nd
/-- Its lists lie so. -/
structure AutR (H : AHeap) (A : Aut) (a1 : Option Addr) (n1 c1 : Nat) (a2 : Option Addr) (n2 c2 : Nat) (a3 : Option Addr) (n3 c3 : Nat) : Prop where
  acc : Row H a1 n1 c1 (bools A.acc)
  gd : Row H a2 n2 c2 (ints A.gd)
  nd : RowS H a3 n3 c3 3 (nds A.nd)
theorem AutR.ext {H H' : AHeap} {A : Aut} {a1 a2 a3 : Option Addr} {n1 c1 n2 c2 n3 c3 : Nat} (hw : Wf H) (e : Ext H H') (h : AutR H A a1 n1 c1 a2 n2 c2 a3 n3 c3) : AutR H' A a1 n1 c1 a2 n2 c2 a3 n3 c3 := ⟨h.acc.ext hw e, h.gd.ext hw e, h.nd.ext hw e⟩
/-- An automaton as a value. -/
abbrev autV (A : Aut) (a1 : Option Addr) (n1 c1 : Nat) (a2 : Option Addr) (n2 c2 : Nat) (a3 : Option Addr) (n3 c3 : Nat) : Value := .agg #[.int .i64 A.pr, .slice a1 n1 c1, .slice a2 n2 c2, .slice a3 n3 c3]
abbrev autC (A : Aut) (a1 : Option Addr) (n1 c1 : Nat) (a2 : Option Addr) (n2 c2 : Nat) (a3 : Option Addr) (n3 c3 : Nat) : List Value := [.int .i64 A.pr, .slice a1 n1 c1, .slice a2 n2 c2, .slice a3 n3 c3]
/-- A strategy. -/
structure Str where
  wins : Bool
  ranks : List Int
  reply : List (List Int)
  choice : List Int
/-- A list of lists of letters lies so. -/
structure Rows8 (H : AHeap) (a : Option Addr) (n c : Nat) (ll : List (List Int)) : Prop where
  row : ∃ vs, Row H a n c vs ∧ vs.length = ll.length ∧ ∀ (j : Nat) w, vs[j]? = some w → ∃ b m k zs, w = .slice b m k ∧ ll[j]? = some zs ∧ Row H b m k (lets zs) ∧ m ≤ 2 ^ 47
theorem Rows8.ext {H H' : AHeap} {a : Option Addr} {n c : Nat} {ll : List (List Int)} (hw : Wf H) (e : Ext H H') (h : Rows8 H a n c ll) : Rows8 H' a n c ll := by
  obtain ⟨vs, h1, h2, h3⟩ := h.row
  exact ⟨vs, h1.ext hw e, h2, fun j w hj => by obtain ⟨b, m, k, zs, q1, q2, q3, q4⟩ := h3 j w hj; exact ⟨b, m, k, zs, q1, q2, q3.ext hw e, q4⟩⟩
theorem Rows8.len {H : AHeap} {a : Option Addr} {n c : Nat} {ll : List (List Int)} (h : Rows8 H a n c ll) : n = ll.length ∧ n ≤ c := by
  obtain ⟨vs, h1, h2, h3⟩ := h.row
  exact ⟨by rw [h1.len, h2], h1.cap⟩
theorem Rows8.at {H : AHeap} {a : Option Addr} {n c : Nat} {ll : List (List Int)} (h : Rows8 H a n c ll) {j : Nat} (hj : j < n) : ∃ b o st bb m k zs, a = some ⟨b, o, st⟩ ∧ cellAt H b (o + j) = some (.slice bb m k) ∧ ll[j]? = some zs ∧ Row H bb m k (lets zs) ∧ m ≤ 2 ^ 47 := by
  obtain ⟨vs, h1, h2, h3⟩ := h.row
  obtain ⟨w, hw⟩ := get_of (l := vs) (k := j) (by have := h1.len; omega)
  obtain ⟨b, m, k, zs, rfl, q2, q3, q4⟩ := h3 j w hw
  obtain ⟨b1, o, st, ha, hc⟩ := h1.cell j _ hw
  exact ⟨b1, o, st, b, m, k, zs, ha, hc, q2, q3, q4⟩
structure StrR (H : AHeap) (X : Str) (a1 : Option Addr) (n1 c1 : Nat) (a2 : Option Addr) (n2 c2 : Nat) (a3 : Option Addr) (n3 c3 : Nat) : Prop where
  ranks : Row H a1 n1 c1 (ints X.ranks)
  reply : Rows8 H a2 n2 c2 X.reply
  choice : Row H a3 n3 c3 (lets X.choice)
theorem StrR.ext {H H' : AHeap} {X : Str} {a1 a2 a3 : Option Addr} {n1 c1 n2 c2 n3 c3 : Nat} (hw : Wf H) (e : Ext H H') (h : StrR H X a1 n1 c1 a2 n2 c2 a3 n3 c3) : StrR H' X a1 n1 c1 a2 n2 c2 a3 n3 c3 := ⟨h.ranks.ext hw e, h.reply.ext hw e, h.choice.ext hw e⟩
abbrev strV (X : Str) (a1 : Option Addr) (n1 c1 : Nat) (a2 : Option Addr) (n2 c2 : Nat) (a3 : Option Addr) (n3 c3 : Nat) : Value := .agg #[.bool X.wins, .slice a1 n1 c1, .slice a2 n2 c2, .slice a3 n3 c3]
abbrev strC (X : Str) (a1 : Option Addr) (n1 c1 : Nat) (a2 : Option Addr) (n2 c2 : Nat) (a3 : Option Addr) (n3 c3 : Nat) : List Value := [.bool X.wins, .slice a1 n1 c1, .slice a2 n2 c2, .slice a3 n3 c3]
end Go.AX.Tryd
