/- kernel, the plain law: what both forms of a formula are, and what they say of themselves. -/
import Derived.Test.YtcalhjlcnapnaaaLJoin
namespace Go.AX.Try
open Go Go.AX Go.AX.Lw Go.Proofs
set_option linter.unusedVariables false
set_option linter.unusedSimpArgs false
set_option maxRecDepth 100000
/-- Two lists, element by element. -/
def All2 {α β : Type} (R : α → β → Prop) : List α → List β → Prop
  | [], [] => True
  | a :: l, b :: m => R a b ∧ All2 R l m
  | _, _ => False
theorem All2.len {α β : Type} {R : α → β → Prop} : ∀ {l : List α} {m : List β}, All2 R l m → l.length = m.length
  | [], [], _ => rfl
  | a :: l, b :: m, h => by simp [All2.len h.2]
  | [], b :: m, h => h.elim
  | a :: l, [], h => h.elim
theorem All2.take {α β : Type} {R : α → β → Prop} : ∀ {l : List α} {m : List β} (k : Nat), All2 R l m → All2 R (l.take k) (m.take k)
  | [], [], k, _ => by simp [All2]
  | a :: l, b :: m, 0, h => True.intro
  | a :: l, b :: m, k + 1, h => ⟨h.1, All2.take k h.2⟩
  | [], b :: m, _, h => h.elim
  | a :: l, [], _, h => h.elim
theorem All2.drop {α β : Type} {R : α → β → Prop} : ∀ {l : List α} {m : List β} (k : Nat), All2 R l m → All2 R (l.drop k) (m.drop k)
  | [], [], k, _ => by simp [All2]
  | a :: l, b :: m, 0, h => h
  | a :: l, b :: m, k + 1, h => All2.drop k h.2
  | [], b :: m, _, h => h.elim
  | a :: l, [], _, h => h.elim
theorem All2.snoc {α β : Type} {R : α → β → Prop} {a : α} {b : β} (hr : R a b) : ∀ {l : List α} {m : List β}, All2 R l m → All2 R (l ++ [a]) (m ++ [b])
  | [], [], _ => ⟨hr, True.intro⟩
  | x :: l, y :: m, h => ⟨h.1, All2.snoc hr h.2⟩
  | [], b :: m, h => h.elim
  | a :: l, [], h => h.elim
theorem All2.one {α β : Type} {R : α → β → Prop} {a : α} {m : List β} (h : All2 R [a] m) : ∃ b, m = [b] ∧ R a b := by
  match m, h with
  | [b], h => exact ⟨b, rfl, h.1⟩
theorem All2.two {α β : Type} {R : α → β → Prop} {a a' : α} {m : List β} (h : All2 R [a, a'] m) : ∃ b b', m = [b, b'] ∧ R a b ∧ R a' b' := by
  match m, h with
  | [b, b'], h => exact ⟨b, b', rfl, h.1, h.2.1⟩
theorem len_one {α : Type} {l : List α} (h : l.length = 1) : ∃ a, l = [a] := List.length_eq_one_iff.1 h
theorem len_two {α : Type} {l : List α} (h : l.length = 2) : ∃ a b, l = [a, b] := by
  match l, h with
  | [a, b], _ => exact ⟨a, b, rfl⟩
/-- What a token makes of parts. -/
def partP (t : Tk) (a : List Pr) : Pr := if takesF t.op = 0 then leafP t else joinP t.op a
def stepP (st : List Pr) (t : Tk) : List Pr := st.take (st.length - takesF t.op) ++ [partP t (st.drop (st.length - takesF t.op))]
def formsF (ts : List Tk) : Pr := ((ts.foldl stepP [])[0]?).getD ⟨[], []⟩
theorem stepP_0 {t : Tk} (h : takesF t.op = 0) (st : List Pr) : stepP st t = st ++ [leafP t] := by
  unfold stepP partP; rw [h, if_pos rfl]; simp
theorem stepP_1 {t : Tk} (h : takesF t.op = 1) (st : List Pr) (x : Pr) : stepP (st ++ [x]) t = st ++ [joinP t.op [x]] := by
  unfold stepP partP; rw [h, if_neg (by decide)]; simp
theorem stepP_2 {t : Tk} (h : takesF t.op = 2) (st : List Pr) (x y : Pr) : stepP (st ++ [x] ++ [y]) t = st ++ [joinP t.op [x, y]] := by
  unfold stepP partP; rw [h, if_neg (by decide)]; simp
theorem stepS_0 {t : Tk} (h : takesF t.op = 0) {s : So} (hw : wordF t [] = (s, true)) (ss : List So) : stepS (some ss) t = some (ss ++ [s]) := by
  unfold stepS; simp [h, hw]
theorem stepS_1 {t : Tk} (h : takesF t.op = 1) {s a : So} (hw : wordF t [a] = (s, true)) (ss : List So) : stepS (some (ss ++ [a])) t = some (ss ++ [s]) := by
  unfold stepS; simp [h, hw]
theorem stepS_2 {t : Tk} (h : takesF t.op = 2) {s a b : So} (hw : wordF t [a, b] = (s, true)) (ss : List So) : stepS (some (ss ++ [a] ++ [b])) t = some (ss ++ [s]) := by
  unfold stepS
  have : ¬ ss.length + 1 + 1 < 2 := by omega
  simp [h, hw]
/-- A list of tokens is a kernel formula or path, and n is its negation (of a path: none). -/
structure KF (path plain : Bool) (y n : List Tk) : Prop where
  fy : ∀ st, y.foldl stepP st = st ++ [⟨y, n⟩]
  fn : path = false → ∀ st, n.foldl stepP st = st ++ [⟨n, y⟩]
  fe : path = true → n = []
  sy : ∀ ss, ∃ s : So, y.foldl stepS (some ss) = some (ss ++ [s]) ∧ s.path = path ∧ (plain = true → s.plain = true)
  sn : path = false → ∀ ss, ∃ s : So, n.foldl stepS (some ss) = some (ss ++ [s]) ∧ s.path = false ∧ (plain = true → s.plain = true)
theorem KF.swap {pl : Bool} {y n : List Tk} (h : KF false pl y n) : KF false pl n y := ⟨h.fn rfl, fun _ => h.fy, (fun e => by cases e), h.sn rfl, fun _ => h.sy⟩
theorem KF.weak {p pl pl' : Bool} {y n : List Tk} (h : KF p pl y n) (hp : pl' = true → pl = true) : KF p pl' y n :=
  ⟨h.fy, h.fn, h.fe, fun ss => by obtain ⟨s, h1, h2, h3⟩ := h.sy ss; exact ⟨s, h1, h2, fun e => h3 (hp e)⟩, fun e ss => by obtain ⟨s, h1, h2, h3⟩ := h.sn e ss; exact ⟨s, h1, h2, fun e => h3 (hp e)⟩⟩
/-- One half of it. -/
structure HF (path plain : Bool) (y n : List Tk) : Prop where
  f : ∀ st, y.foldl stepP st = st ++ [⟨y, n⟩]
  s : ∀ ss, ∃ s : So, y.foldl stepS (some ss) = some (ss ++ [s]) ∧ s.path = path ∧ (plain = true → s.plain = true)
theorem KF.of {pl : Bool} {y n : List Tk} (h : HF false pl y n) (h' : HF false pl n y) : KF false pl y n := ⟨h.f, fun _ => h'.f, (fun e => by cases e), h.s, fun _ => h'.s⟩
theorem KF.ofPath {pl : Bool} {y : List Tk} (h : HF true pl y []) : KF true pl y [] := ⟨h.f, (fun e => by cases e), fun _ => rfl, h.s, fun e => by cases e⟩
theorem KF.y {p pl : Bool} {y n : List Tk} (h : KF p pl y n) : HF p pl y n := ⟨h.fy, h.sy⟩
theorem KF.n {pl : Bool} {y n : List Tk} (h : KF false pl y n) : HF false pl n y := ⟨h.fn rfl, h.sn rfl⟩
theorem hf_0 {t : Tk} {p pl : Bool} {n : List Tk} (h : takesF t.op = 0) (hl : leafP t = ⟨[t], n⟩) {s : So} (hw : wordF t [] = (s, true)) (hp : s.path = p) (hpl : pl = true → s.plain = true) : HF p pl [t] n :=
  ⟨fun st => by show stepP st t = _; rw [stepP_0 h, hl], fun ss => ⟨s, stepS_0 h hw ss, hp, hpl⟩⟩
theorem hf_1 {op : Nat} {p pl p1 pl1 : Bool} {y n n' : List Tk} (h : takesF op = 1) (hy : HF p1 pl1 y n) (hj : joinP op [⟨y, n⟩] = ⟨y ++ [opT op], n'⟩)
    (hw : ∀ a : So, a.path = p1 → (pl1 = true → a.plain = true) → ∃ s, wordF (opT op) [a] = (s, true) ∧ s.path = p ∧ (pl = true → s.plain = true)) : HF p pl (y ++ [opT op]) n' :=
  ⟨fun st => by rw [List.foldl_append, hy.f]; show stepP _ _ = _; rw [stepP_1 (t := opT op) h]; exact congrArg (fun z => st ++ [z]) hj, fun ss => by
    obtain ⟨a, h1, h2, h3⟩ := hy.s ss
    obtain ⟨s, q1, q2, q3⟩ := hw a h2 h3
    exact ⟨s, by rw [List.foldl_append, h1]; exact stepS_1 (t := opT op) h q1 ss, q2, q3⟩⟩
theorem hf_2 {op : Nat} {p pl p1 pl1 p2 pl2 : Bool} {y n z m n' : List Tk} (h : takesF op = 2) (hy : HF p1 pl1 y n) (hz : HF p2 pl2 z m) (hj : joinP op [⟨y, n⟩, ⟨z, m⟩] = ⟨put2 op y z, n'⟩)
    (hw : ∀ a b : So, a.path = p1 → (pl1 = true → a.plain = true) → b.path = p2 → (pl2 = true → b.plain = true) → ∃ s, wordF (opT op) [a, b] = (s, true) ∧ s.path = p ∧ (pl = true → s.plain = true)) : HF p pl (put2 op y z) n' :=
  ⟨fun st => by unfold put2; rw [List.foldl_append, List.foldl_append, hy.f, hz.f]; show stepP _ _ = _; rw [stepP_2 (t := opT op) h]; exact congrArg (fun z => st ++ [z]) hj, fun ss => by
    obtain ⟨a, h1, h2, h3⟩ := hy.s ss
    obtain ⟨b, g1, g2, g3⟩ := hz.s (ss ++ [a])
    obtain ⟨s, q1, q2, q3⟩ := hw a b h2 h3 g2 g3
    exact ⟨s, by unfold put2; rw [List.foldl_append, List.foldl_append, h1, g1]; exact stepS_2 (t := opT op) h q1 ss, q2, q3⟩⟩
/-- A part of a checked formula, and its forms. -/
def KP (p : Pt) (x : Pr) : Prop := (∃ n, KF p.path p.plain x.yes n) ∧ (p.path = false → ∃ n, KF false p.plain x.no n) ∧ (p.path = true → x.no = [])
theorem kf_true : KF false true [opT 0] [opT 1] := .of (hf_0 rfl rfl (s := ⟨false, true, false⟩) rfl rfl fun _ => rfl) (hf_0 rfl rfl (s := ⟨false, true, false⟩) rfl rfl fun _ => rfl)
theorem kf_more : KF false false [opT 4] [opT 5] := .of (hf_0 rfl rfl (s := no) rfl rfl fun h => by cases h) (hf_0 rfl rfl (s := no) rfl rfl fun h => by cases h)
theorem kf_prop {p : Nat} (hp : p < 8) : KF false true [⟨2, p⟩] [⟨2, p⟩, opT 6] := by
  have hw : wordF ⟨2, p⟩ [] = (⟨false, true, true⟩, true) := by
    unfold wordF; dsimp only; rw [if_neg (by omega), if_neg (by omega), if_pos rfl]
  have h0 : HF false true [⟨2, p⟩] [⟨2, p⟩, opT 6] := hf_0 (t := ⟨2, p⟩) rfl rfl hw rfl fun _ => rfl
  refine .of h0 ⟨fun st => ?_, fun ss => ⟨⟨false, true, false⟩, ?_, rfl, fun _ => rfl⟩⟩
  · show stepP (stepP st ⟨2, p⟩) (opT 6) = _
    rw [stepP_0 (t := ⟨2, p⟩) rfl, stepP_1 (t := opT 6) rfl]; rfl
  · show stepS (stepS (some ss) ⟨2, p⟩) (opT 6) = _
    rw [stepS_0 (t := ⟨2, p⟩) rfl hw, stepS_1 (t := opT 6) rfl (s := ⟨false, true, false⟩) rfl]
theorem all_two (a b : So) (f : So → Bool) : ([a, b].all f) = (f a && f b) := by simp
theorem all_one (a : So) (f : So → Bool) : ([a].all f) = f a := by simp
/-- And, Or; of formulas that are plain, plain. -/
theorem kf_and {op op' : Nat} (ho : op = 11 ∧ op' = 12 ∨ op = 12 ∧ op' = 11) {a b : Bool} {y n z m : List Tk} (hy : KF false a y n) (hz : KF false b z m) : KF false (a && b) (put2 op y z) (put2 op' n m) := by
  rcases ho with ⟨rfl, rfl⟩ | ⟨rfl, rfl⟩
  all_goals
    refine .of (hf_2 rfl hy.y hz.y rfl fun u v h1 h2 h3 h4 => ⟨⟨false, u.plain && v.plain, false⟩, ?_, rfl, fun h => ?_⟩) (hf_2 rfl hy.n hz.n rfl fun u v h1 h2 h3 h4 => ⟨⟨false, u.plain && v.plain, false⟩, ?_, rfl, fun h => ?_⟩)
    · simp [wordF, opT, h1, h3]
    · simp only [Bool.and_eq_true] at h ⊢; exact ⟨h2 h.1, h4 h.2⟩
    · simp [wordF, opT, h1, h3]
    · simp only [Bool.and_eq_true] at h ⊢; exact ⟨h2 h.1, h4 h.2⟩
theorem kf_until {op op' : Nat} (ho : op = 15 ∧ op' = 16 ∨ op = 16 ∧ op' = 15) {a b : Bool} {y n z m : List Tk} (hy : KF false a y n) (hz : KF false b z m) : KF false false (put2 op y z) (put2 op' n m) := by
  rcases ho with ⟨rfl, rfl⟩ | ⟨rfl, rfl⟩
  all_goals
    refine .of (hf_2 rfl hy.y hz.y rfl fun u v h1 h2 h3 h4 => ⟨no, ?_, rfl, fun h => by cases h⟩) (hf_2 rfl hy.n hz.n rfl fun u v h1 h2 h3 h4 => ⟨no, ?_, rfl, fun h => by cases h⟩)
    · simp [wordF, opT, h1, h3]
    · simp [wordF, opT, h1, h3]
theorem kf_next {op op' : Nat} (ho : op = 7 ∧ op' = 8 ∨ op = 8 ∧ op' = 7) {a : Bool} {y n : List Tk} (hy : KF false a y n) : KF false false (y ++ [opT op]) (n ++ [opT op']) := by
  rcases ho with ⟨rfl, rfl⟩ | ⟨rfl, rfl⟩
  all_goals
    refine .of (hf_1 rfl hy.y rfl fun u h1 h2 => ⟨no, ?_, rfl, fun h => by cases h⟩) (hf_1 rfl hy.n rfl fun u h1 h2 => ⟨no, ?_, rfl, fun h => by cases h⟩)
    · simp [wordF, opT, h1]
    · simp [wordF, opT, h1]
theorem kf_dia {op op' : Nat} (ho : op = 17 ∧ op' = 18 ∨ op = 18 ∧ op' = 17) {a b : Bool} {y n z m : List Tk} (hy : KF true a y n) (hz : KF false b z m) : KF false false (put2 op y z) (put2 op' y m) := by
  rcases ho with ⟨rfl, rfl⟩ | ⟨rfl, rfl⟩
  all_goals
    refine .of (hf_2 rfl hy.y hz.y rfl fun u v h1 h2 h3 h4 => ⟨no, ?_, rfl, fun h => by cases h⟩) (hf_2 rfl hy.y hz.n rfl fun u v h1 h2 h3 h4 => ⟨no, ?_, rfl, fun h => by cases h⟩)
    · simp [wordF, opT, h1, h3]
    · simp [wordF, opT, h1, h3]
theorem kf_step {y n : List Tk} (hy : KF false true y n) : KF true false (y ++ [opT 19]) [] :=
  .ofPath (hf_1 rfl hy.y rfl fun u h1 h2 => ⟨⟨true, false, false⟩, by simp [wordF, opT, h1, h2 rfl], rfl, fun h => by cases h⟩)
theorem kf_test {a : Bool} {y n : List Tk} (hy : KF false a y n) : KF true false (y ++ [opT 20]) [] :=
  .ofPath (hf_1 rfl hy.y rfl fun u h1 h2 => ⟨⟨true, false, false⟩, by simp [wordF, opT, h1], rfl, fun h => by cases h⟩)
theorem kf_star {a : Bool} {y n : List Tk} (hy : KF true a y n) : KF true false (y ++ [opT 23]) [] :=
  .ofPath (hf_1 rfl hy.y rfl fun u h1 h2 => ⟨⟨true, false, false⟩, by simp [wordF, opT, h1], rfl, fun h => by cases h⟩)
theorem kf_seq {op : Nat} (ho : op = 21 ∨ op = 22) {a b : Bool} {y n z m : List Tk} (hy : KF true a y n) (hz : KF true b z m) : KF true false (put2 op y z) [] := by
  rcases ho with rfl | rfl
  all_goals exact .ofPath (hf_2 rfl hy.y hz.y rfl fun u v h1 h2 h3 h4 => ⟨⟨true, false, false⟩, by simp [wordF, opT, h1, h3], rfl, fun h => by cases h⟩)
end Go.AX.Try
/- kernel.forms. -/
namespace Go.AX.Try
open Go Go.AX Go.AX.Lw Go.Proofs
set_option linter.unusedVariables false
set_option linter.unusedSimpArgs false
set_option maxRecDepth 100000
theorem pairTy : AppTyS Try.prog #[116, 116] 78 2 48 where
  t0 := by kernel_rfl
  t1 := by kernel_rfl
  size := by kernel_rfl
  bytes := by kernel_rfl
  pos := by decide
  szp := by decide
  szl := by decide
  zero := ⟨.agg #[.slice none 0 0, .slice none 0 0], by kernel_rfl, rfl⟩
/-- Cells that hold both forms of a part. -/
def VP (S : Nat → Prop) (H : AHeap) (v : List Value) (x : Pr) : Prop := ∃ v1 v2, v = [v1, v2] ∧ PrC S H v1 v2 x
theorem VP.wide {S S' : Nat → Prop} {H H' : AHeap} {v : List Value} {x : Pr} (h : VP S H v x) (hk : ∀ b, S b → H'.get b = H.get b) (hs : ∀ b, S b → S' b) : VP S' H' v x := by
  obtain ⟨v1, v2, rfl, h1, h2⟩ := h
  exact ⟨v1, v2, rfl, h1.wide hk hs, h2.wide hk hs⟩
theorem VP.ext {S S' : Nat → Prop} {H H' : AHeap} {v : List Value} {x : Pr} (h : VP S H v x) (hw : Wf H) (e : Ext H H') (hs : ∀ b, S b → S' b) : VP S' H' v x := by
  obtain ⟨v1, v2, rfl, h1, h2⟩ := h
  exact ⟨v1, v2, rfl, h1.ext hw e hs, h2.ext hw e hs⟩
theorem VP.len {S : Nat → Prop} {H : AHeap} {v : List Value} {x : Pr} (h : VP S H v x) : v.length = 2 ∧ allOne v = true := by
  obtain ⟨v1, v2, rfl, h1, h2⟩ := h
  obtain ⟨a, n, c, rfl, -⟩ := h1
  obtain ⟨a', n', c', rfl, -⟩ := h2
  exact ⟨rfl, rfl⟩
theorem All2.imp {α β : Type} {R Q : α → β → Prop} (h : ∀ a b, R a b → Q a b) : ∀ {l : List α} {m : List β}, All2 R l m → All2 Q l m
  | [], [], _ => True.intro
  | a :: l, b :: m, hh => ⟨h a b hh.1, All2.imp h hh.2⟩
  | [], b :: m, hh => hh.elim
  | a :: l, [], hh => hh.elim
theorem kinds_take {ts : List Tk} {k : Nat} {r ps : List Bool} {t : Tk} (h : kinds ts = some r) (ht : ts[k]? = some t) (hp : kinds (ts.take k) = some ps) :
    (t.op ≤ 23 ∧ t.p < 8 ∧ takesF t.op ≤ ps.length ∧ fitK t.op (ps.drop (ps.length - takesF t.op)) = true) ∧ kinds (ts.take (k + 1)) = some (ps.take (ps.length - takesF t.op) ++ [decide (19 ≤ t.op)]) := by
  have h1 : kinds (ts.take (k + 1)) = stepK (some ps) t := by
    unfold kinds at hp ⊢
    rw [List.take_add_one, ht, List.foldl_append, hp]; rfl
  by_cases hc : t.op ≤ 23 ∧ t.p < 8 ∧ takesF t.op ≤ ps.length ∧ fitK t.op (ps.drop (ps.length - takesF t.op)) = true
  · exact ⟨hc, by rw [h1, stepK, if_pos hc]⟩
  · have : kinds ts = (ts.drop (k + 1)).foldl stepK (kinds (ts.take (k + 1))) := by unfold kinds; rw [← List.foldl_append, List.take_append_drop]
    rw [this, h1, stepK, if_neg hc, foldK_none] at h; cases h
/-- Where forms stands. -/
structure FI (Z H : AHeap) (ts : List Tk) (k : Nat) (vs : List (List Value)) (sa : Option Addr) (sc : Nat) (S : Nat → Prop) : Prop where
  kle : k ≤ ts.length
  e : Ext Z H
  w : Wf H
  st : Stk Z H (rowV 78 2) 2 sa vs.length sc vs
  lt : ∀ b, S b → b < H.next
  ge : ∀ b, S b → Z.next ≤ b
  off : ∀ b o s, sa = some ⟨b, o, s⟩ → ¬ S b
  lk : vs.length ≤ k
  val : All2 (VP S H) vs ((ts.take k).foldl stepP [])
  kd : ∃ ps, kinds (ts.take k) = some ps ∧ ps.length = vs.length
theorem FI.push {Z H H5 : AHeap} {ts : List Tk} {k : Nat} {vs : List (List Value)} {sa : Option Addr} {sc : Nat} {S : Nat → Prop} (h : FI Z H ts k vs sa sc S) {r : List Bool} (hr : kinds ts = some r) {t : Tk} (ht : ts[k]? = some t) (hk : k < ts.length)
    (hts : ts.length ≤ 2 ^ 20) (e5 : Ext H H5) (w5 : Wf H5) {v1 v2 : Value} {m : Nat} (hm : m = vs.length - takesF t.op) (hx : VP (SNew S H H5) H5 [v1, v2] (partP t (((ts.take k).foldl stepP []).drop m))) :
    ∃ a' c' H9, aAppend Try.prog (H5.push (.cells [v1, v2] 0 true)) #[116, 116] [.slice sa m sc, .slice (some ⟨H5.next, 0, none⟩) 1 1] = some (.val (.slice a' (m + 1) c') H9 (.eff (H5.push (.cells [v1, v2] 0 true)) H9)) ∧
      FI Z H9 ts (k + 1) (vs.take m ++ [[v1, v2]]) a' c' (SNew S H H5) := by
  have hlk := h.lk
  obtain ⟨ps, hps, hpl⟩ := h.kd
  obtain ⟨⟨-, -, htk, -⟩, hkd⟩ := kinds_take hr ht hps
  have st5 := (h.st.ext h.w e5).ext w5 (Ext.push H5 (.cells [v1, v2] 0 true))
  obtain ⟨a', c', H9, happ, st9, e9, w9, n9, hk9, hn9⟩ := stk_push ((h.e.trans e5).trans (Ext.push H5 (.cells [v1, v2] 0 true))) (w5.push _) pairTy st5 (m := m) (by omega) (srcS (get_new _ _) hx.len.1) hx.len.1 hx.len.2 (by omega) (by omega)
  have hS5 := SNew.lt h.lt e5.next
  have hoff : ∀ b, SNew S H H5 b → ∀ o s, sa ≠ some ⟨b, o, s⟩ := fun b hb o s e => by
    rcases hb with hb | hb
    · exact h.off b o s e hb
    · have := (h.st.lt h.w e).2; omega
  have hkp : ∀ b, SNew S H H5 b → H9.get b = H5.get b := fun b hb => by
    rw [hk9 b (by have := hS5 b hb; simp; omega) (hoff b hb), AHeap.get_push, if_neg (by have := hS5 b hb; omega)]
  have h59 : H5.next ≤ H9.next := by simp at n9; omega
  have hln : (vs.take m ++ [[v1, v2]]).length = m + 1 := by rw [List.length_append, List.length_take, Nat.min_eq_left (by omega)]; rfl
  have hl := h.val.len
  have hstep : (ts.take (k + 1)).foldl stepP [] = ((ts.take k).foldl stepP []).take m ++ [partP t (((ts.take k).foldl stepP []).drop m)] := by
    rw [List.take_add_one, ht, List.foldl_append]
    show stepP _ t = _
    rw [stepP, ← hl, ← hm]
  refine ⟨a', c', H9, happ, ⟨by omega, e9, w9, by rw [hln]; exact st9, fun b hb => by have := hS5 b hb; omega, (fun b hb => by
    rcases hb with hb | hb
    · exact h.ge b hb
    · have := h.e.next; omega), fun b o s e hb => ?_, by rw [hln]; omega, ?_, _, hkd, by rw [List.length_append, List.length_take, hln, Nat.min_eq_left (by omega), hpl, hm]; rfl⟩⟩
  · rcases hn9 b o s e with h1 | h1
    · exact hoff b hb o s h1
    · have := hS5 b hb; simp at h1; omega
  · rw [hstep]
    refine All2.snoc (hx.wide hkp fun b h => h) ((h.val.take m).imp fun v x hv => (hv.ext h.w e5 fun b h => h).wide (fun b hb => hkp b (.inl hb)) fun b h => .inl h)
theorem join_any (S : Nat → Prop) (H : AHeap) (hw : Wf H) (hS : ∀ b, S b → b < H.next) (op : Nat) (hop : op ≤ 23) (a : Option Addr) (n c : Nat) (vs : List (List Value)) (xs : List Pr) (hr : RowS H a n c 2 vs) (hv : All2 (VP S H) vs xs) (hn : n = takesF op) (h0 : takesF op ≠ 0) (hb : ∀ x ∈ xs, x.yes.length ≤ 2 ^ 16 ∧ x.no.length ≤ 2 ^ 16) :
    Does Try.prog orc 91 [.int .u8 op, .slice a n c] H fun r H' => ∃ v, r = .ret v ∧ PrS (SNew S H H') H' v (joinP op xs) ∧ Ext H H' ∧ Wf H' := by
  have hlen := hr.len
  have h2 := takesF_le op
  by_cases h1 : takesF op = 1
  · obtain ⟨v, rfl⟩ := len_one (show vs.length = 1 by omega)
    obtain ⟨x, rfl, v1, v2, rfl, hp⟩ := hv.one
    exact join1_any S H hw op a n c v1 v2 x hS hr hp h1 hop (hb x (by simp))
  · obtain ⟨v, v', rfl⟩ := len_two (show vs.length = 2 by omega)
    obtain ⟨x, y, rfl, ⟨v1, v2, rfl, hp⟩, v3, v4, rfl, hp'⟩ := hv.two
    exact join2_any S H hw op a n c v1 v2 v3 v4 x y hS hr hp hp' (by omega) hop (hb x (by simp)) (hb y (by simp))
set_option maxHeartbeats 2000000 in
theorem forms_any (H : AHeap) (hw : Wf H) (a : Option Addr) (n c : Nat) (ts : List Tk) (hr : RowS H a n c 2 (ts.map Tk.cells)) (hn : n ≤ 2 ^ 20) (hkd : kinds ts = some [false]) (hbd : ∀ k, ∀ x ∈ (ts.take k).foldl stepP [], x.yes.length ≤ 2 ^ 16 ∧ x.no.length ≤ 2 ^ 16) :
    Does Try.prog orc 57 [.slice a n c] H fun r H' => ∃ v S, r = .ret v ∧ PrS S H' v (formsF ts) ∧ Ext H H' ∧ Wf H' := by
  have hlen := hr.len; simp at hlen
  have hcap := hr.cap
  have hz0 : zeroOf Try.prog 78 = some (.agg #[.slice none 0 0, .slice none 0 0]) := by kernel_rfl
  have hzt : zeroOf Try.prog 46 = some (.agg #[.int .u8 0, .int .u8 0]) := by kernel_rfl
  refine Does.of Try.func57 (fun _ _ => rfl) rfl ?_
  have g0 := get_new H (.cells [.slice none 0 0, .slice none 0 0] (typedV 78) true)
  obtain ⟨Z, hZ⟩ : ∃ Z, Z = H.push (.cells [.slice none 0 0, .slice none 0 0] (typedV 78) true) := ⟨_, rfl⟩
  have eZ : Ext H Z := by rw [hZ]; exact Ext.push _ _
  have wZ : Wf Z := by rw [hZ]; exact hw.push _
  have nZ : Z.next = H.next + 1 := by rw [hZ]; rfl
  rw [← hZ] at g0
  repeat' ((conv => whnf); first
    | (refine Both.intro ?_ ?_ <;> intro _ <;> try (exfalso; omega))
    | (refine Need.intro (by omega) ?_)
    | (refine Gives.intro ⟨_, hz0, ?_⟩)
    | fail)
  all_goals (conv => whnf)
  refine Runs.loop (fun x : Nat × List (List Value) × Option Addr × Nat × (Nat → Prop) => [(10, .int .i64 x.1), (9, .int .i64 n), (8, .slice a n c), (3, .slice x.2.2.1 x.2.1.length x.2.2.2.1), (2, .pointer (some ⟨H.next, 0, none⟩))])
    (fun x H' => FI Z H' ts x.1 x.2.1 x.2.2.1 x.2.2.2.1 x.2.2.2.2) (fun x => n - x.1) (0, [], none, 0, fun _ => False)
    ⟨rfl, rfl, rfl, rfl, rfl, trivial⟩ ⟨by omega, hZ ▸ Ext.refl _, hZ ▸ wZ, Stk.nil _ _ _ _, (fun _ h => h.elim), (fun _ h => h.elim), (fun _ _ _ h => by cases h), by simp, True.intro, ⟨_, rfl, rfl⟩⟩ ?_
  rintro ⟨k, vs, sa, sc, S⟩ H1 fi
  dsimp only at fi
  show vc _ _ _ _ _ [(10, .int .i64 k), (9, .int .i64 n), (8, .slice a n c), (3, .slice sa vs.length sc), (2, .pointer (some ⟨H.next, 0, none⟩))] _ _
  have hkl := fi.kle
  have e1 := fi.e
  have w1 := fi.w
  have hsc := fi.st.2.1
  have hsk := fi.lk
  by_cases hlt : k < n
  · obtain ⟨t, ht⟩ := get_of (l := ts) (k := k) (by omega)
    have hr1 := hr.ext hw (eZ.trans e1)
    obtain ⟨b, o, st, rfl, hcell⟩ := hr1.cell k t.cells (by simp [ht])
    obtain ⟨ps, hps, hpl⟩ := fi.kd
    obtain ⟨⟨hop, hp8, htk, hfit⟩, hkd1⟩ := kinds_take hkd ht hps
    have hT := takesF_le t.op
    obtain ⟨m, hm⟩ : ∃ m, m = vs.length - takesF t.op := ⟨_, rfl⟩
    have hmi : ((vs.length : Int) - (takesF t.op : Int)) = (m : Int) := by omega
    have g2 := get_new H1 (.cells [.int .u8 0, .int .u8 0] (typedV 46) true)
    have w2 := w1.push (.cells [.int .u8 0, .int .u8 0] (typedV 46) true)
    have g3 : ((H1.push (.cells [.int .u8 0, .int .u8 0] (typedV 46) true)).set H1.next (.cells t.cells (typedV 46) true)).get H1.next = some (.cells t.cells (typedV 46) true) := by rw [AHeap.get_set, if_pos rfl]
    have w3 := w2.set g2 (.cells t.cells (typedV 46) true)
    have e3 := ((Ext.refl H1).trans (Ext.push H1 (.cells [.int .u8 0, .int .u8 0] (typedV 46) true))).set (Nat.le_refl _) (.cells t.cells (typedV 46) true)
    have q0 := cellAt_of g3 (o := 0) (v := .int .u8 t.op) rfl
    have qa := cellsAt_all (n := 2) g3 rfl
    obtain ⟨H3, hH3⟩ : ∃ H3, H3 = (H1.push (.cells [.int .u8 0, .int .u8 0] (typedV 46) true)).set H1.next (.cells t.cells (typedV 46) true) := ⟨_, rfl⟩
    repeat' ((conv => whnf); first
      | (refine Both.intro ?_ ?_ <;> intro _ <;> try (exfalso; omega))
      | (refine Need.intro (by omega) ?_)
      | (refine ⟨_, hcell, ?_⟩)
      | (refine Gives.intro ⟨_, hzt, ?_⟩)
      | (refine Outs.intro ⟨_, _, _, storeAgg_ok (vs := [.int .u8 _, .int .u8 _]) (by kernel_rfl) rfl g2 rfl, ?_⟩)
      | (refine ⟨_, q0, ?_⟩)
      | (refine Does.mono (takes_any _ t.op) ?_ ; rintro _ H' ⟨rfl, rfl⟩)
      | (refine ⟨_, qa, ?_⟩)
      | (refine Does.mono (kleaf_any _ w3 t) ?_ ; rintro _ H4 ⟨v, rfl, ⟨v1, v2, rfl, f1, f2⟩, e4, w4⟩)
      | fail)
    all_goals (conv => whnf)
    have f1' := f1
    have f2' := f2
    obtain ⟨a1, n1, c1, rfl, -, -⟩ := f1'
    obtain ⟨a2, n2, c2, rfl, -, -⟩ := f2'
    rw [← hH3] at e3 w3 e4 f1 f2 g3
    have n3 := e3.next
    have n4 := e4.next
    have g4 := get_new H4 (.cells [.slice none 0 0, .slice none 0 0] (typedV 78) true)
    have g5 : ((H4.push (.cells [.slice none 0 0, .slice none 0 0] (typedV 78) true)).set H4.next (.cells [.slice a1 n1 c1, .slice a2 n2 c2] (typedV 78) true)).get H4.next = some (.cells [.slice a1 n1 c1, .slice a2 n2 c2] (typedV 78) true) := by rw [AHeap.get_set, if_pos rfl]
    have w5 := (w4.push (.cells [.slice none 0 0, .slice none 0 0] (typedV 78) true)).set g4 (.cells [.slice a1 n1 c1, .slice a2 n2 c2] (typedV 78) true)
    have e5 := (Ext.push H4 (.cells [.slice none 0 0, .slice none 0 0] (typedV 78) true)).set (Nat.le_refl _) (.cells [.slice a1 n1 c1, .slice a2 n2 c2] (typedV 78) true)
    have q5 := cellsAt_all (n := 2) g5 rfl
    obtain ⟨H5, hH5⟩ : ∃ H5, H5 = (H4.push (.cells [.slice none 0 0, .slice none 0 0] (typedV 78) true)).set H4.next (.cells [.slice a1 n1 c1, .slice a2 n2 c2] (typedV 78) true) := ⟨_, rfl⟩
    have w5' := w5
    have e5' := e5
    have g5' := g5
    rw [← hH5] at w5' e5' g5'
    have n5 : H5.next = H4.next + 1 := by rw [hH5]; simp
    have hbs : ∀ (a b : Option Addr) (n m c d : Nat), aBuildSlice Try.prog 116 1 [(0, .agg #[.slice a n c, .slice b m d])] = mkSlice [.slice a n c, .slice b m d] 1 1 := fun a b n m c d => by kernel_rfl
    have hdl := fi.val.len
    have hst5 := fi.st.ext w1 (e3.trans (e4.trans e5'))
    by_cases h0 : takesF t.op = 0
    · have hm0 : m = vs.length := by omega
      have hx : VP (SNew S H1 H5) H5 [.slice a1 n1 c1, .slice a2 n2 c2] (partP t (((ts.take k).foldl stepP []).drop m)) := by
        unfold partP; rw [if_pos h0]
        exact ⟨_, _, rfl, f1.ext w4 e5' fun b hb => .inr ⟨by have := hb.1; omega, by have := hb.2; omega⟩, f2.ext w4 e5' fun b hb => .inr ⟨by have := hb.1; omega, by have := hb.2; omega⟩⟩
      obtain ⟨a9, c9, H9, happ, fi9⟩ := fi.push hkd ht (by omega) (by omega) (e3.trans (e4.trans e5')) w5' hm hx
      rw [hH5] at happ
      repeat' ((conv => whnf); first
        | (refine Both.intro ?_ ?_ <;> intro _ <;> try (exfalso; omega))
        | (refine Need.intro (by omega) ?_)
        | (refine Gives.intro ⟨_, hz0, ?_⟩)
        | (refine Outs.intro ⟨_, _, _, storeAgg_ok (vs := [.slice _ _ _, .slice _ _ _]) (by kernel_rfl) rfl g4 rfl, ?_⟩)
        | (refine Gives.intro ⟨_, slice_fromI (e := 78) (n := 2) (by kernel_rfl) (by kernel_rfl) hmi (by omega) hsc fi.st.spot, ?_⟩)
        | (refine Gives.intro ⟨_, slice_toI (e := 78) (n := 2) (by kernel_rfl) (by kernel_rfl) hmi (by omega), ?_⟩)
        | (refine ⟨_, q5, ?_⟩)
        | (refine ⟨_, hbs _ _ _ _ _ _, ?_⟩)
        | (refine Outs.intro ⟨_, _, _, happ, ?_⟩)
        | (refine Need.intro (DrawP.intro (by kernel_rfl)) ?_)
        | fail)
      all_goals (conv => whnf)
      have hln : (vs.take m ++ [[Value.slice a1 n1 c1, Value.slice a2 n2 c2]]).length = m + 1 := by rw [List.length_append, List.length_take, Nat.min_eq_left (by omega)]; rfl
      exact ⟨(k + 1, vs.take m ++ [[.slice a1 n1 c1, .slice a2 n2 c2]], a9, c9, SNew S H1 H5), ⟨rfl, rfl, rfl, by dsimp only; rw [hln]; rfl, rfl, trivial⟩, fi9, by dsimp only; omega⟩
    · have hmlt : m < vs.length := by omega
      have hx5 : Ext H3 H5 := e4.trans e5'
      have q0' := cellAt_ext w3 hx5 (cellAt_of g3 (o := 0) (v := .int .u8 t.op) rfl)
      rw [hH5] at q0'
      have hrest := hst5.rest (m := m) (by omega)
      have hv5 : All2 (VP S H5) (vs.drop m) (((ts.take k).foldl stepP []).drop m) := (fi.val.drop m).imp fun v x hv => hv.ext w1 (e3.trans hx5) fun b h => h
      have hjoin := join_any S H5 w5' (fun b hb => by have := fi.lt b hb; omega) t.op hop _ _ _ _ _ hrest hv5 (by omega) h0 fun x hx => hbd k x (List.mem_of_mem_drop hx)
      rw [hH5] at hjoin
      repeat' ((conv => whnf); first
        | (refine Both.intro ?_ ?_ <;> intro _ <;> try (exfalso; omega))
        | (refine Need.intro (by omega) ?_)
        | (refine Gives.intro ⟨_, hz0, ?_⟩)
        | (refine Outs.intro ⟨_, _, _, storeAgg_ok (vs := [.slice _ _ _, .slice _ _ _]) (by kernel_rfl) rfl g4 rfl, ?_⟩)
        | (refine ⟨_, q0', ?_⟩)
        | (refine Gives.intro ⟨_, slice_fromI (e := 78) (n := 2) (by kernel_rfl) (by kernel_rfl) hmi (by omega) hsc fi.st.spot, ?_⟩)
        | (refine Does.mono hjoin ?_ ; rintro _ H6 ⟨v, rfl, ⟨u1, u2, rfl, k1, k2⟩, e6, w6⟩)
        | fail)
      all_goals (conv => whnf)
      rw [← hH5] at k1 k2 e6
      have k1' := k1
      have k2' := k2
      obtain ⟨a3, n3', c3, rfl, -, -⟩ := k1'
      obtain ⟨a4, n4', c4, rfl, -, -⟩ := k2'
      have n6 := e6.next
      have g6 := (e6.get H4.next (by omega)).trans g5'
      have w7 := w6.set g6 (.cells [.slice a3 n3' c3, .slice a4 n4' c4] (typedV 78) true)
      have g7 : (H6.set H4.next (.cells [.slice a3 n3' c3, .slice a4 n4' c4] (typedV 78) true)).get H4.next = some (.cells [.slice a3 n3' c3, .slice a4 n4' c4] (typedV 78) true) := by rw [AHeap.get_set, if_pos rfl]
      have q7 := cellsAt_all (n := 2) g7 rfl
      have e7 : Ext H1 (H6.set H4.next (.cells [.slice a3 n3' c3, .slice a4 n4' c4] (typedV 78) true)) := ((e3.trans hx5).trans e6).set (by omega) _
      have hk7 : ∀ b, SNew S H5 H6 b → (H6.set H4.next (.cells [.slice a3 n3' c3, .slice a4 n4' c4] (typedV 78) true)).get b = H6.get b := fun b hb => by
        rw [AHeap.get_set, if_neg]
        rcases hb with hb | hb
        · have := fi.lt b hb; omega
        · omega
      have hs7 : ∀ b, SNew S H5 H6 b → SNew S H1 (H6.set H4.next (.cells [.slice a3 n3' c3, .slice a4 n4' c4] (typedV 78) true)) b := fun b hb => by
        rcases hb with hb | hb
        · exact .inl hb
        · exact .inr ⟨by omega, by simpa using hb.2⟩
      have hx : VP (SNew S H1 (H6.set H4.next (.cells [.slice a3 n3' c3, .slice a4 n4' c4] (typedV 78) true))) (H6.set H4.next (.cells [.slice a3 n3' c3, .slice a4 n4' c4] (typedV 78) true)) [.slice a3 n3' c3, .slice a4 n4' c4] (partP t (((ts.take k).foldl stepP []).drop m)) := by
        unfold partP; rw [if_neg h0]
        exact ⟨_, _, rfl, k1.wide hk7 hs7, k2.wide hk7 hs7⟩
      obtain ⟨a9, c9, H9, happ, fi9⟩ := fi.push hkd ht (by omega) (by omega) e7 w7 hm hx
      repeat' ((conv => whnf); first
        | (refine Both.intro ?_ ?_ <;> intro _ <;> try (exfalso; omega))
        | (refine Need.intro (by omega) ?_)
        | (refine Outs.intro ⟨_, _, _, storeAgg_ok (vs := [.slice _ _ _, .slice _ _ _]) (by kernel_rfl) rfl g6 rfl, ?_⟩)
        | (refine Gives.intro ⟨_, slice_toI (e := 78) (n := 2) (by kernel_rfl) (by kernel_rfl) hmi (by omega), ?_⟩)
        | (refine ⟨_, q7, ?_⟩)
        | (refine ⟨_, hbs _ _ _ _ _ _, ?_⟩)
        | (refine Outs.intro ⟨_, _, _, happ, ?_⟩)
        | (refine Need.intro (DrawP.intro (by kernel_rfl)) ?_)
        | fail)
      all_goals (conv => whnf)
      have hln : (vs.take m ++ [[Value.slice a3 n3' c3, Value.slice a4 n4' c4]]).length = m + 1 := by rw [List.length_append, List.length_take, Nat.min_eq_left (by omega)]; rfl
      exact ⟨(k + 1, vs.take m ++ [[.slice a3 n3' c3, .slice a4 n4' c4]], a9, c9, _), ⟨rfl, rfl, rfl, by dsimp only; rw [hln]; rfl, rfl, trivial⟩, fi9, by dsimp only; omega⟩
  · obtain rfl : k = n := by omega
    obtain ⟨ps, hps, hpl⟩ := fi.kd
    rw [List.take_of_length_le (by omega), hkd] at hps
    cases hps
    obtain ⟨v, rfl⟩ := len_one (show vs.length = 1 by rw [← hpl]; rfl)
    have hval := fi.val
    rw [List.take_of_length_le (by omega)] at hval
    obtain ⟨x, hx, v1, v2, rfl, p1, p2⟩ := hval.one
    have hF : formsF ts = x := by unfold formsF; rw [hx]; rfl
    rw [hF]
    obtain ⟨b, o, st, rfl, hc⟩ := fi.st.row.cell 0 [v1, v2] rfl
    have g1 := e1.get H.next (by omega)
    rw [g0] at g1
    have p1' := p1
    have p2' := p2
    obtain ⟨a1, n1, c1, rfl, -, -⟩ := p1'
    obtain ⟨a2, n2, c2, rfl, -, -⟩ := p2'
    have hsc1 : 1 ≤ sc := hsc
    repeat' ((conv => whnf); first
      | (refine Both.intro ?_ ?_ <;> intro _ <;> try (exfalso; omega))
      | (refine Need.intro (by omega) ?_)
      | (refine Need.intro (by simp; omega) ?_)
      | (refine ⟨_, hc, ?_⟩)
      | (refine Outs.intro ⟨_, _, _, storeAgg_ok (vs := [.slice _ _ _, .slice _ _ _]) (by kernel_rfl) rfl g1 rfl, ?_⟩)
      | (refine ⟨_, cellsAt_all (n := 2) (by rw [AHeap.get_set, if_pos rfl]) rfl, ?_⟩)
      | fail)
    all_goals (conv => whnf)
    have hkw : ∀ b, S b → (H1.set H.next (.cells [.slice a1 n1 c1, .slice a2 n2 c2] (typedV 78) true)).get b = H1.get b := fun b hb => by
      rw [AHeap.get_set, if_neg (by have := fi.ge b hb; omega)]
    exact ⟨_, S, rfl, ⟨_, _, rfl, p1.wide hkw fun b h => h, p2.wide hkw fun b h => h⟩, (eZ.trans e1).set (Nat.le_refl _) _, w1.set g1 _⟩
end Go.AX.Try
/- kernel, the plain law, second part: a checked formula's forms, their lengths and bounds. -/
namespace Go.AX.Try
open Go Go.AX Go.AX.Lw Go.Proofs
set_option linter.unusedVariables false
set_option linter.unusedSimpArgs false
set_option maxRecDepth 100000
theorem okT_p {t : Tk} (h : okT t = true) : t.op ≤ 23 ∧ t.p < 8 ∧ (t.op ≠ 2 → t.p = 0) := by
  unfold okT at h
  have := of_decide_eq_true h
  omega
theorem pair_eta (x : Pr) : x = ⟨x.yes, x.no⟩ := rfl
theorem kp_leaf (i : Nat) (t : Tk) (ht : okT t = true) (h0 : takesF t.op = 0) : KP (partF i t []) (leafP t) := by
  obtain ⟨h1, h2, h3⟩ := okT_p ht
  obtain ⟨op, p⟩ := t
  dsimp only at h0 h1 h2 h3
  have hop : op = 0 ∨ op = 1 ∨ op = 2 ∨ op = 3 ∨ op = 4 ∨ op = 5 := by
    unfold takesF at h0
    split at h0
    · omega
    · split at h0 <;> cases h0
  rcases hop with rfl | rfl | rfl | rfl | rfl | rfl
  · obtain rfl := h3 (by decide)
    exact ⟨⟨_, kf_true⟩, fun _ => ⟨_, kf_true.swap⟩, fun h => by cases h⟩
  · obtain rfl := h3 (by decide)
    exact ⟨⟨_, kf_true.swap⟩, fun _ => ⟨_, kf_true⟩, fun h => by cases h⟩
  · exact ⟨⟨_, kf_prop h2⟩, fun _ => ⟨_, (kf_prop h2).swap⟩, fun h => by cases h⟩
  · obtain rfl := h3 (by decide)
    refine ⟨⟨put2 12 [opT 5] ([opT 0] ++ [opT 7]), ?_⟩, fun _ => ⟨put2 11 [opT 4] ([opT 1] ++ [opT 8]), ?_⟩, fun h => by cases h⟩
    · exact kf_and (.inl ⟨rfl, rfl⟩) kf_more (kf_next (.inr ⟨rfl, rfl⟩) kf_true.swap)
    · exact kf_and (.inr ⟨rfl, rfl⟩) kf_more.swap (kf_next (.inl ⟨rfl, rfl⟩) kf_true)
  · obtain rfl := h3 (by decide)
    exact ⟨⟨_, kf_more⟩, fun _ => ⟨_, kf_more.swap⟩, fun h => by cases h⟩
  · obtain rfl := h3 (by decide)
    exact ⟨⟨_, kf_more.swap⟩, fun _ => ⟨_, kf_more⟩, fun h => by cases h⟩
theorem kp_one (i : Nat) (t : Tk) (ht : okT t = true) (h0 : takesF t.op = 1) (p : Pt) (x : Pr) (hx : KP p x) (hf : fitsF t.op [p] = true) : KP (partF i t [p]) (joinP t.op [x]) := by
  obtain ⟨h1, h2, h3⟩ := okT_p ht
  obtain ⟨op, q⟩ := t
  dsimp only at h0 h1 h2 h3 hf
  have hop : op = 6 ∨ op = 7 ∨ op = 8 ∨ op = 9 ∨ op = 10 ∨ op = 19 ∨ op = 20 ∨ op = 23 := by
    unfold takesF at h0
    split at h0
    · cases h0
    · split at h0
      · assumption
      · cases h0
  obtain ⟨pa, pl, dp, sr⟩ := p
  obtain ⟨y, n⟩ := x
  obtain ⟨⟨k1, hk1⟩, hk2, hk3⟩ := hx
  dsimp only at hk1 hk2 hk3
  rcases hop with rfl | rfl | rfl | rfl | rfl | rfl | rfl | rfl
  · obtain rfl : pa = false := by simpa [fitsF] using hf
    obtain ⟨k2, hk2⟩ := hk2 rfl
    exact ⟨⟨_, hk2.weak (by simp [partF, partG, plainF])⟩, fun _ => ⟨_, hk1.weak (by simp [partF, partG, plainF])⟩, fun h => by cases h⟩
  · obtain rfl : pa = false := by simpa [fitsF] using hf
    obtain ⟨k2, hk2⟩ := hk2 rfl
    exact ⟨⟨_, (kf_next (.inl ⟨rfl, rfl⟩) hk1).weak (by simp [partF, partG, plainF])⟩, fun _ => ⟨_, (kf_next (.inr ⟨rfl, rfl⟩) hk2).weak (by simp [partF, partG, plainF])⟩, fun h => by cases h⟩
  · obtain rfl : pa = false := by simpa [fitsF] using hf
    obtain ⟨k2, hk2⟩ := hk2 rfl
    exact ⟨⟨_, (kf_next (.inr ⟨rfl, rfl⟩) hk1).weak (by simp [partF, partG, plainF])⟩, fun _ => ⟨_, (kf_next (.inl ⟨rfl, rfl⟩) hk2).weak (by simp [partF, partG, plainF])⟩, fun h => by cases h⟩
  · obtain rfl : pa = false := by simpa [fitsF] using hf
    obtain ⟨k2, hk2⟩ := hk2 rfl
    exact ⟨⟨_, (kf_until (.inl ⟨rfl, rfl⟩) kf_true hk1).weak (by simp [partF, partG, plainF])⟩, fun _ => ⟨_, (kf_until (.inr ⟨rfl, rfl⟩) kf_true.swap hk2).weak (by simp [partF, partG, plainF])⟩, fun h => by cases h⟩
  · obtain rfl : pa = false := by simpa [fitsF] using hf
    obtain ⟨k2, hk2⟩ := hk2 rfl
    exact ⟨⟨_, (kf_until (.inr ⟨rfl, rfl⟩) kf_true.swap hk1).weak (by simp [partF, partG, plainF])⟩, fun _ => ⟨_, (kf_until (.inl ⟨rfl, rfl⟩) kf_true hk2).weak (by simp [partF, partG, plainF])⟩, fun h => by cases h⟩
  · have hf' : pa = false ∧ pl = true := by simpa [fitsF] using hf
    obtain ⟨rfl, rfl⟩ := hf'
    exact ⟨⟨_, (kf_step hk1).weak (by simp [partF, partG, plainF])⟩, (fun h => by cases h), fun _ => rfl⟩
  · obtain rfl : pa = false := by simpa [fitsF] using hf
    exact ⟨⟨_, (kf_test hk1).weak (by simp [partF, partG, plainF])⟩, (fun h => by cases h), fun _ => rfl⟩
  · obtain rfl : pa = true := by simpa [fitsF] using hf
    exact ⟨⟨_, (kf_star hk1).weak (by simp [partF, partG, plainF])⟩, (fun h => by cases h), fun _ => rfl⟩
theorem kp_two (i : Nat) (t : Tk) (ht : okT t = true) (h0 : takesF t.op = 2) (p q : Pt) (x z : Pr) (hx : KP p x) (hz : KP q z) (hf : fitsF t.op [p, q] = true) : KP (partF i t [p, q]) (joinP t.op [x, z]) := by
  obtain ⟨h1, h2, h3⟩ := okT_p ht
  obtain ⟨op, u⟩ := t
  dsimp only at h0 h1 h2 h3 hf
  have hop : op = 11 ∨ op = 12 ∨ op = 13 ∨ op = 14 ∨ op = 15 ∨ op = 16 ∨ op = 17 ∨ op = 18 ∨ op = 21 ∨ op = 22 := by
    unfold takesF at h0
    split at h0
    · cases h0
    · split at h0
      · cases h0
      · omega
  obtain ⟨pa, pl, dp, sr⟩ := p
  obtain ⟨qa, ql, dq, sq⟩ := q
  obtain ⟨y, n⟩ := x
  obtain ⟨y2, n2⟩ := z
  obtain ⟨⟨k1, hk1⟩, hk2, hk3⟩ := hx
  obtain ⟨⟨l1, hl1⟩, hl2, hl3⟩ := hz
  dsimp only at hk1 hk2 hk3 hl1 hl2 hl3
  by_cases hform : op = 11 ∨ op = 12 ∨ op = 13 ∨ op = 14 ∨ op = 15 ∨ op = 16
  · have hf' : pa = false ∧ qa = false := by rcases hform with rfl | rfl | rfl | rfl | rfl | rfl <;> simpa [fitsF] using hf
    obtain ⟨rfl, rfl⟩ := hf'
    obtain ⟨k2, hk2⟩ := hk2 rfl
    obtain ⟨l2, hl2⟩ := hl2 rfl
    rcases hform with rfl | rfl | rfl | rfl | rfl | rfl
    · exact ⟨⟨_, (kf_and (.inl ⟨rfl, rfl⟩) hk1 hl1).weak (by simp [partF, partG, plainF])⟩, fun _ => ⟨_, (kf_and (.inr ⟨rfl, rfl⟩) hk2 hl2).weak (by simp [partF, partG, plainF])⟩, fun h => by cases h⟩
    · exact ⟨⟨_, (kf_and (.inr ⟨rfl, rfl⟩) hk1 hl1).weak (by simp [partF, partG, plainF])⟩, fun _ => ⟨_, (kf_and (.inl ⟨rfl, rfl⟩) hk2 hl2).weak (by simp [partF, partG, plainF])⟩, fun h => by cases h⟩
    · exact ⟨⟨_, (kf_and (.inr ⟨rfl, rfl⟩) hk2 hl1).weak (by simp [partF, partG, plainF])⟩, fun _ => ⟨_, (kf_and (.inl ⟨rfl, rfl⟩) hk1 hl2).weak (by simp [partF, partG, plainF])⟩, fun h => by cases h⟩
    · exact ⟨⟨_, (kf_and (.inr ⟨rfl, rfl⟩) (kf_and (.inl ⟨rfl, rfl⟩) hk1 hl1) (kf_and (.inl ⟨rfl, rfl⟩) hk2 hl2)).weak (by simp [partF, partG, plainF])⟩, fun _ => ⟨_, (kf_and (.inr ⟨rfl, rfl⟩) (kf_and (.inl ⟨rfl, rfl⟩) hk1 hl2) (kf_and (.inl ⟨rfl, rfl⟩) hk2 hl1)).weak (by simp [partF, partG, plainF])⟩, fun h => by cases h⟩
    · exact ⟨⟨_, (kf_until (.inl ⟨rfl, rfl⟩) hk1 hl1).weak (by simp [partF, partG, plainF])⟩, fun _ => ⟨_, (kf_until (.inr ⟨rfl, rfl⟩) hk2 hl2).weak (by simp [partF, partG, plainF])⟩, fun h => by cases h⟩
    · exact ⟨⟨_, (kf_until (.inr ⟨rfl, rfl⟩) hk1 hl1).weak (by simp [partF, partG, plainF])⟩, fun _ => ⟨_, (kf_until (.inl ⟨rfl, rfl⟩) hk2 hl2).weak (by simp [partF, partG, plainF])⟩, fun h => by cases h⟩
  · have hop' : op = 17 ∨ op = 18 ∨ op = 21 ∨ op = 22 := by omega
    rcases hop' with rfl | rfl | rfl | rfl
    · have hf' : pa = true ∧ qa = false := by simpa [fitsF] using hf
      obtain ⟨rfl, rfl⟩ := hf'
      obtain ⟨l2, hl2⟩ := hl2 rfl
      exact ⟨⟨_, (kf_dia (.inl ⟨rfl, rfl⟩) hk1 hl1).weak (by simp [partF, partG, plainF])⟩, fun _ => ⟨_, (kf_dia (.inr ⟨rfl, rfl⟩) hk1 hl2).weak (by simp [partF, partG, plainF])⟩, fun h => by cases h⟩
    · have hf' : pa = true ∧ qa = false := by simpa [fitsF] using hf
      obtain ⟨rfl, rfl⟩ := hf'
      obtain ⟨l2, hl2⟩ := hl2 rfl
      exact ⟨⟨_, (kf_dia (.inr ⟨rfl, rfl⟩) hk1 hl1).weak (by simp [partF, partG, plainF])⟩, fun _ => ⟨_, (kf_dia (.inl ⟨rfl, rfl⟩) hk1 hl2).weak (by simp [partF, partG, plainF])⟩, fun h => by cases h⟩
    · have hf' : pa = true ∧ qa = true := by simpa [fitsF] using hf
      obtain ⟨rfl, rfl⟩ := hf'
      exact ⟨⟨_, (kf_seq (.inl rfl) hk1 hl1).weak (by simp [partF, partG, plainF])⟩, (fun h => by cases h), fun _ => rfl⟩
    · have hf' : pa = true ∧ qa = true := by simpa [fitsF] using hf
      obtain ⟨rfl, rfl⟩ := hf'
      exact ⟨⟨_, (kf_seq (.inr rfl) hk1 hl1).weak (by simp [partF, partG, plainF])⟩, (fun h => by cases h), fun _ => rfl⟩
/-- What is read and what is formed go side by side. -/
theorem kp_fold : ∀ (ts : List Tk) (i : Nat) (ps : List Pt) (xs : List Pr) (j : Nat) (qs : List Pt), All2 KP ps xs → ts.foldl stepR (some (i, ps)) = some (j, qs) → All2 KP qs (ts.foldl stepP xs)
  | [], i, ps, xs, j, qs, ha, h => by simp at h; rw [← h.2]; exact ha
  | t :: r, i, ps, xs, j, qs, ha, h => by
    simp only [List.foldl_cons] at h ⊢
    by_cases hc : okT t = true ∧ takesF t.op ≤ ps.length ∧ fitsF t.op (ps.drop (ps.length - takesF t.op)) = true
    · rw [stepR, if_pos hc] at h
      have hl := ha.len
      refine kp_fold r _ _ _ j qs ?_ h
      rw [stepP, ← hl]
      obtain ⟨c1, c2, c3⟩ := hc
      refine All2.snoc ?_ (ha.take _)
      have hd := ha.drop (ps.length - takesF t.op)
      obtain ⟨ys, has⟩ : ∃ ys, ys = ps.drop (ps.length - takesF t.op) := ⟨_, rfl⟩
      obtain ⟨bs, hbs⟩ : ∃ bs, bs = xs.drop (ps.length - takesF t.op) := ⟨_, rfl⟩
      have hal : ys.length = takesF t.op := by rw [has, List.length_drop]; omega
      rw [← has] at c3 hd ⊢
      rw [← hbs] at hd ⊢
      have hT := takesF_le t.op
      unfold partP
      by_cases h0 : takesF t.op = 0
      · rw [if_pos h0]
        obtain rfl := List.length_eq_zero_iff.1 (hal.trans h0)
        exact kp_leaf i t c1 h0
      · rw [if_neg h0]
        by_cases h1 : takesF t.op = 1
        · obtain ⟨p, rfl⟩ := len_one (hal.trans h1)
          obtain ⟨x, rfl, hx⟩ := hd.one
          exact kp_one i t c1 h1 p x hx c3
        · obtain ⟨p, q, rfl⟩ := len_two (show ys.length = 2 by omega)
          obtain ⟨x, z, rfl, hx, hz⟩ := hd.two
          exact kp_two i t c1 (by omega) p q x z hx hz c3
    · rw [stepR, if_neg hc, foldR_none] at h; cases h
/-- The forms of a checked formula. -/
theorem forms_ok {ts : List Tk} (h : termF ts false = 0) : ∃ (x : Pr) (pl : Bool), ts.foldl stepP [] = [x] ∧ (∃ n, KF false pl x.yes n) ∧ ∃ n, KF false pl x.no n := by
  unfold termF at h
  split at h
  · cases h
  · unfold readF at h
    cases hf : foldR ts with
    | none => simp [hf] at h
    | some z =>
      obtain ⟨j, qs⟩ := z
      rcases qs with _ | ⟨q, _ | ⟨q2, r⟩⟩
      · simp [hf] at h
      · simp only [hf] at h
        split at h
        · cases h
        · rename_i hp
          have hq : q.path = false := by simpa using hp
          obtain ⟨x, hx, k1, k2, k3⟩ := (kp_fold ts 0 [] [] j [q] True.intro hf).one
          rw [hq] at k1
          exact ⟨x, q.plain, hx, k1, k2 hq⟩
      · simp [hf] at h
/-- Lengths, told up to 2049. -/
def ZR (z : Sz) (x : Pr) : Prop := z.yes = min x.yes.length 2049 ∧ z.no = min x.no.length 2049
theorem op_one {op : Nat} (h : takesF op = 1) : op = 6 ∨ op = 7 ∨ op = 8 ∨ op = 9 ∨ op = 10 ∨ op = 19 ∨ op = 20 ∨ op = 23 := by
  unfold takesF at h
  split at h
  · cases h
  · split at h
    · assumption
    · cases h
theorem op_none {op : Nat} (h : takesF op = 0) : op = 0 ∨ op = 1 ∨ op = 2 ∨ op = 3 ∨ op = 4 ∨ op = 5 := by
  unfold takesF at h
  split at h
  · omega
  · split at h <;> cases h
theorem op_two {op : Nat} (h : takesF op = 2) (h23 : op ≤ 23) : op = 11 ∨ op = 12 ∨ op = 13 ∨ op = 14 ∨ op = 15 ∨ op = 16 ∨ op = 17 ∨ op = 18 ∨ op = 21 ∨ op = 22 := by
  unfold takesF at h
  split at h
  · cases h
  · split at h
    · cases h
    · omega
theorem zr_part (t : Tk) (h23 : t.op ≤ 23) (zs : List Sz) (xs : List Pr) (h : All2 ZR zs xs) (hl : zs.length = takesF t.op) : ZR (longF t zs) (partP t xs) := by
  obtain ⟨op, p⟩ := t
  dsimp only at h23 hl
  have hT := takesF_le op
  by_cases h0 : takesF op = 0
  · obtain rfl := List.length_eq_zero_iff.1 (hl.trans h0)
    rcases op_none h0 with rfl | rfl | rfl | rfl | rfl | rfl <;> exact ⟨rfl, rfl⟩
  · by_cases h1 : takesF op = 1
    · obtain ⟨z, rfl⟩ := len_one (hl.trans h1)
      obtain ⟨x, rfl, hx⟩ := h.one
      obtain ⟨zy, zn⟩ := z
      obtain ⟨y, n⟩ := x
      obtain ⟨hx1, hx2⟩ := hx
      dsimp only at hx1 hx2
      rcases op_one h1 with rfl | rfl | rfl | rfl | rfl | rfl | rfl | rfl
      all_goals simp [ZR, longF, partP, takesF, joinP, put2, opT, addF]
      all_goals omega
    · obtain ⟨z, z', rfl⟩ := len_two (show zs.length = 2 by omega)
      obtain ⟨x, x', rfl, hx, hx'⟩ := h.two
      obtain ⟨zy, zn⟩ := z
      obtain ⟨y, n⟩ := x
      obtain ⟨zy', zn'⟩ := z'
      obtain ⟨y', n'⟩ := x'
      obtain ⟨hx1, hx2⟩ := hx
      obtain ⟨hx3, hx4⟩ := hx'
      dsimp only at hx1 hx2 hx3 hx4
      rcases op_two (show takesF op = 2 by omega) h23 with rfl | rfl | rfl | rfl | rfl | rfl | rfl | rfl | rfl | rfl
      all_goals simp [ZR, longF, partP, takesF, joinP, put2, opT, addF]
      all_goals omega
theorem zr_fold : ∀ (ts : List Tk) (zs : List Sz) (xs : List Pr) (ps r : List Bool), All2 ZR zs xs → ps.length = zs.length → ts.foldl stepK (some ps) = some r → ∃ zs', ts.foldl stepZ (some zs) = some zs' ∧ All2 ZR zs' (ts.foldl stepP xs)
  | [], zs, xs, ps, r, ha, hl, h => ⟨zs, rfl, ha⟩
  | t :: ts, zs, xs, ps, r, ha, hl, h => by
    simp only [List.foldl_cons] at h ⊢
    by_cases hc : t.op ≤ 23 ∧ t.p < 8 ∧ takesF t.op ≤ ps.length ∧ fitK t.op (ps.drop (ps.length - takesF t.op)) = true
    · rw [stepK, if_pos hc] at h
      obtain ⟨c1, c2, c3, c4⟩ := hc
      have hla := ha.len
      have e1 : stepZ (some zs) t = some (zs.take (zs.length - takesF t.op) ++ [longF t (zs.drop (zs.length - takesF t.op))]) := by
        simp only [stepZ]; rw [if_pos ⟨c1, by omega⟩]
      rw [e1]
      refine zr_fold ts _ _ _ r ?_ ?_ h
      · rw [stepP, ← hla]
        exact All2.snoc (zr_part t c1 _ _ (ha.drop _) (by rw [List.length_drop]; omega)) (ha.take _)
      · simp only [List.length_append, List.length_take, hl]; rfl
    · rw [stepK, if_neg hc, foldK_none] at h; cases h
/-- How long a part's two forms are, beside each other. -/
def BP (p : Bool) (x : Pr) : Prop := (p = true → x.no = []) ∧ (p = false → x.no.length ≤ 2 * x.yes.length ∧ x.yes.length ≤ 2 * x.no.length)
def mP (p : Bool) (x : Pr) : Nat := if p then x.yes.length else min x.yes.length x.no.length
theorem bp_part (t : Tk) (h23 : t.op ≤ 23) (ps : List Bool) (xs : List Pr) (h : All2 BP ps xs) (hl : ps.length = takesF t.op) (hf : fitK t.op ps = true) : BP (decide (19 ≤ t.op)) (partP t xs) ∧ All2 (fun p x => mP p x ≤ mP (decide (19 ≤ t.op)) (partP t xs)) ps xs := by
  obtain ⟨op, q⟩ := t
  dsimp only at h23 hl hf
  have hT := takesF_le op
  by_cases h0 : takesF op = 0
  · obtain rfl := List.length_eq_zero_iff.1 (hl.trans h0)
    have hx0 : xs = [] := List.length_eq_zero_iff.1 (by rw [← h.len]; rfl)
    subst hx0
    refine ⟨?_, True.intro⟩
    rcases op_none h0 with rfl | rfl | rfl | rfl | rfl | rfl <;> exact ⟨(fun h => by cases h), fun _ => ⟨Nat.le_of_ble_eq_true rfl, Nat.le_of_ble_eq_true rfl⟩⟩
  · by_cases h1 : takesF op = 1
    · obtain ⟨p, rfl⟩ := len_one (hl.trans h1)
      obtain ⟨x, rfl, hx1, hx2⟩ := h.one
      obtain ⟨y, n⟩ := x
      dsimp only at hx1 hx2
      rcases op_one h1 with rfl | rfl | rfl | rfl | rfl | rfl | rfl | rfl
      all_goals
        have hp : p = false ∨ p = true := by cases p <;> simp
        rcases hp with rfl | rfl
        all_goals first
        | (exact absurd hf (by decide))
        | (simp [BP, mP, All2, partP, takesF, joinP, put2, opT] at hx1 hx2 ⊢; first | done | omega)
        | (simp [BP, mP, All2, partP, takesF, joinP, put2, opT] at hx1 hx2 ⊢; subst hx1; simp)
    · obtain ⟨p, p', rfl⟩ := len_two (show ps.length = 2 by omega)
      obtain ⟨x, x', rfl, ⟨hx1, hx2⟩, hx3, hx4⟩ := h.two
      obtain ⟨y, n⟩ := x
      obtain ⟨y', n'⟩ := x'
      dsimp only at hx1 hx2 hx3 hx4
      rcases op_two (show takesF op = 2 by omega) h23 with rfl | rfl | rfl | rfl | rfl | rfl | rfl | rfl | rfl | rfl
      all_goals
        have hp : p = false ∨ p = true := by cases p <;> simp
        have hp' : p' = false ∨ p' = true := by cases p' <;> simp
        rcases hp with rfl | rfl <;> rcases hp' with rfl | rfl
        all_goals first
        | (exact absurd hf (by decide))
        | (simp [BP, mP, All2, partP, takesF, joinP, put2, opT] at hx1 hx2 hx3 hx4 ⊢; first | done | omega)
theorem All2.unsnoc {α β : Type} {R : α → β → Prop} {a : α} {b : β} : ∀ {l : List α} {m : List β}, l.length = m.length → All2 R (l ++ [a]) (m ++ [b]) → All2 R l m ∧ R a b
  | [], [], _, h => ⟨True.intro, h.1⟩
  | x :: l, y :: m, hl, h => ⟨⟨h.1, (All2.unsnoc (by simpa using hl) h.2).1⟩, (All2.unsnoc (by simpa using hl) h.2).2⟩
  | [], b :: m, hl, h => by simp at hl
  | a :: l, [], hl, h => by simp at hl
theorem All2.join {α β : Type} {R : α → β → Prop} : ∀ (k : Nat) {l : List α} {m : List β}, All2 R (l.take k) (m.take k) → All2 R (l.drop k) (m.drop k) → All2 R l m
  | 0, l, m, _, h => h
  | k + 1, [], [], _, _ => True.intro
  | k + 1, a :: l, b :: m, h, h' => ⟨h.1, All2.join k h.2 h'⟩
  | k + 1, [], b :: m, h, _ => h.elim
  | k + 1, a :: l, [], h, _ => h.elim
theorem bp_fold : ∀ (ts : List Tk) (ps : List Bool) (xs : List Pr) (r : List Bool), All2 BP ps xs → ts.foldl stepK (some ps) = some r → All2 BP r (ts.foldl stepP xs) ∧ ∀ M, All2 (fun p x => mP p x ≤ M) r (ts.foldl stepP xs) → All2 (fun p x => mP p x ≤ M) ps xs
  | [], ps, xs, r, ha, h => by cases h; exact ⟨ha, fun M hM => hM⟩
  | t :: ts, ps, xs, r, ha, h => by
    simp only [List.foldl_cons] at h ⊢
    by_cases hc : t.op ≤ 23 ∧ t.p < 8 ∧ takesF t.op ≤ ps.length ∧ fitK t.op (ps.drop (ps.length - takesF t.op)) = true
    · rw [stepK, if_pos hc] at h
      obtain ⟨c1, c2, c3, c4⟩ := hc
      have hla := ha.len
      have hb := bp_part t c1 _ _ (ha.drop (ps.length - takesF t.op)) (by rw [List.length_drop]; omega) c4
      have e2 : stepP xs t = xs.take (ps.length - takesF t.op) ++ [partP t (xs.drop (ps.length - takesF t.op))] := by rw [stepP, ← hla]
      rw [e2]
      obtain ⟨i1, i2⟩ := bp_fold ts _ _ r (All2.snoc hb.1 (ha.take (ps.length - takesF t.op))) h
      refine ⟨i1, fun M hM => ?_⟩
      obtain ⟨j1, j2⟩ := All2.unsnoc (by rw [List.length_take, List.length_take, hla]) (i2 M hM)
      exact All2.join _ j1 (hb.2.imp fun p x h => Nat.le_trans h j2)
    · rw [stepK, if_neg hc, foldK_none] at h; cases h
theorem All2.mem {α β : Type} {R : α → β → Prop} {b : β} : ∀ {l : List α} {m : List β}, All2 R l m → b ∈ m → ∃ a, R a b
  | [], [], _, h => by cases h
  | a :: l, c :: m, h, hb => by
    rcases List.mem_cons.1 hb with rfl | hb
    · exact ⟨a, h.1⟩
    · exact All2.mem h.2 hb
  | [], b :: m, h, _ => h.elim
  | a :: l, [], h, _ => h.elim
theorem All2.and {α β : Type} {R Q : α → β → Prop} : ∀ {l : List α} {m : List β}, All2 R l m → All2 Q l m → All2 (fun a b => R a b ∧ Q a b) l m
  | [], [], _, _ => True.intro
  | a :: l, b :: m, h, h' => ⟨⟨h.1, h'.1⟩, All2.and h.2 h'.2⟩
  | [], b :: m, h, _ => h.elim
  | a :: l, [], h, _ => h.elim
/-- No part's forms are long where one of the whole's two forms is not. -/
theorem forms_bound {ts : List Tk} (hk : kinds ts = some [false]) {x : Pr} (hx : ts.foldl stepP [] = [x]) (hm : min x.yes.length x.no.length ≤ 2048) : ∀ k, ∀ y ∈ (ts.take k).foldl stepP [], y.yes.length ≤ 2 ^ 16 ∧ y.no.length ≤ 2 ^ 16 := by
  intro k y hy
  have hk' : (ts.drop k).foldl stepK (kinds (ts.take k)) = some [false] := by unfold kinds at hk ⊢; rw [← List.foldl_append, List.take_append_drop]; exact hk
  have hx' : (ts.drop k).foldl stepP ((ts.take k).foldl stepP []) = [x] := by rw [← List.foldl_append, List.take_append_drop]; exact hx
  cases hps : kinds (ts.take k) with
  | none => rw [hps, foldK_none] at hk'; cases hk'
  | some ps =>
    rw [hps] at hk'
    have hB := (bp_fold (ts.take k) [] [] ps True.intro hps).1
    obtain ⟨-, hM⟩ := bp_fold (ts.drop k) ps _ _ hB hk'
    rw [hx'] at hM
    obtain ⟨p, ⟨h1, h2⟩, h3⟩ := (hB.and (hM 2048 ⟨by unfold mP; simpa using hm, True.intro⟩)).mem hy
    cases p with
    | true => rw [h1 rfl]; unfold mP at h3; simp at h3 ⊢; omega
    | false => have := h2 rfl; unfold mP at h3; simp at h3; omega
/-- Lengths of a formula's two forms. -/
theorem meas_ok {ts : List Tk} (hk : kinds ts = some [false]) {x : Pr} (hx : ts.foldl stepP [] = [x]) : ts.foldl stepZ (some []) = some [⟨min x.yes.length 2049, min x.no.length 2049⟩] := by
  obtain ⟨zs, h1, h2⟩ := zr_fold ts [] [] [] [false] True.intro rfl hk
  rw [hx] at h2
  match zs, h2 with
  | [z], h2 => rw [h1]; obtain ⟨zy, zn⟩ := z; obtain ⟨⟨e1, e2⟩, -⟩ := h2; dsimp only at e1 e2; rw [e1, e2]
end Go.AX.Try
/- kernel.Of, Neg, Size. -/
namespace Go.AX.Try
open Go Go.AX Go.AX.Lw Go.Proofs
set_option linter.unusedVariables false
set_option linter.unusedSimpArgs false
set_option maxRecDepth 100000
/-- A new copy of tokens. -/
theorem copyTk {H : AHeap} (hw : Wf H) {v : Value} {l : List Tk} (hf : Fm H v l) (hl : l.length ≤ 2 ^ 20) :
    ∃ v' H' ev, aAppend Try.prog H #[22, 22] [.slice none 0 0, v] = some (.val v' H' ev) ∧ Fm H' v' l ∧ Ext H H' ∧ Wf H' := by
  obtain ⟨a, n, c, rfl, hr⟩ := hf
  have hn := hr.len; simp at hn
  obtain ⟨a', c', H9, h1, h2, h3, h4, -⟩ := stk_app (Ext.refl H) hw tokTy (Stk.nil H H _ 2) (tk_src hr) (by simp [hn]) (tk_two l) (tk_one l) (by omega) (by omega)
  refine ⟨_, _, _, h1, ⟨a', 0 + n, c', rfl, ?_⟩, h3, h4⟩
  have := h2.row
  simpa using this
def ofE (ts : List Tk) : Nat := if termF ts false = 0 then (if (formsF ts).yes.length ≤ 2048 then 0 else 3) else termF ts false
def ofF (ts : List Tk) : List Tk := if ofE ts = 0 then (formsF ts).yes else []
theorem meas_any (H : AHeap) (hw : Wf H) (a : Option Addr) (n c : Nat) (ts : List Tk) (hr : RowS H a n c 2 (ts.map Tk.cells)) (hk : kinds ts = some [false]) (hn : n ≤ 2 ^ 30) {x : Pr} (hx : ts.foldl stepP [] = [x]) (Y N : Nat) (hY : Y = min x.yes.length 2049) (hN : N = min x.no.length 2049) :
    Does Try.prog orc 56 [.slice a n c] H fun r H' => r = .ret (.agg #[.int .i64 Y, .int .i64 N]) ∧ Ext H H' ∧ Wf H' := by
  subst hY; subst hN
  exact measure_any H hw a n c ts hr hn _ (meas_ok hk hx)
theorem fld0 (Y N : Nat) : aField Try.prog 75 (.agg #[.int .i64 Y, .int .i64 N]) 0 = some (.int .i64 Y) := by kernel_rfl
theorem fld1 (Y N : Nat) : aField Try.prog 75 (.agg #[.int .i64 Y, .int .i64 N]) 1 = some (.int .i64 N) := by kernel_rfl
theorem pfld0 (a b : Option Addr) (n c m d : Nat) : aField Try.prog 78 (.agg #[.slice a n c, .slice b m d]) 0 = some (.slice a n c) := by kernel_rfl
theorem pfld1 (a b : Option Addr) (n c m d : Nat) : aField Try.prog 78 (.agg #[.slice a n c, .slice b m d]) 1 = some (.slice b m d) := by kernel_rfl
theorem Of_any (H : AHeap) (hw : Wf H) (a : Option Addr) (n c : Nat) (ts : List Tk) (hr : RowS H a n c 2 (ts.map Tk.cells)) :
    Does Try.prog orc 20 [.slice a n c] H fun r H' => ∃ v, r = .ret (.tuple #[v, .int .i64 (ofE ts)]) ∧ Fm H' v (ofF ts) ∧ Ext H H' ∧ Wf H' := by
  have hlen := hr.len; simp at hlen
  have hcap := hr.cap
  refine Does.of Try.func20 (fun _ _ => rfl) rfl ?_
  by_cases h0 : termF ts false = 0
  · obtain ⟨hk, h512⟩ := termF_kinds h0
    obtain ⟨x, pl, hx, -, -⟩ := forms_ok h0
    have hF : formsF ts = x := by unfold formsF; rw [hx]; rfl
    obtain ⟨Y, hY⟩ : ∃ Y, Y = min x.yes.length 2049 := ⟨_, rfl⟩
    obtain ⟨N, hN⟩ : ∃ N, N = min x.no.length 2049 := ⟨_, rfl⟩
    by_cases h1 : x.yes.length ≤ 2048
    · have hof : ofE ts = 0 := by unfold ofE; rw [if_pos h0, hF, if_pos h1]
      have hff : ofF ts = x.yes := by unfold ofF; rw [if_pos hof, hF]
      rw [hof, hff]
      repeat' ((conv => whnf); first
        | (refine Both.intro ?_ ?_ <;> intro _ <;> try (exfalso; omega))
        | (refine Need.intro (by omega) ?_)
        | (refine Does.mono (Check_any H hw a n c ts hr) ?_ ; rintro _ H1 ⟨rfl, e1, w1⟩)
        | (refine Does.mono (meas_any H1 w1 a n c ts (hr.ext hw e1) hk (by omega) hx Y N hY hN) ?_ ; rintro _ H2 ⟨rfl, e2, w2⟩)
        | (refine Gives.intro ⟨_, fld0 _ _, ?_⟩)
        | (refine Gives.intro ⟨_, pfld0 _ _ _ _ _ _, ?_⟩)
        | (refine Does.mono (forms_any H2 w2 a n c ts (hr.ext hw (e1.trans e2)) (by omega) hk (forms_bound hk hx (by omega))) ?_ ; rintro _ H3 ⟨v, S, rfl, ⟨v1, v2, rfl, p1, p2⟩, e3, w3⟩ ; rw [hF] at p1 p2 ; have p1' := p1 ; have p2' := p2 ; obtain ⟨a1, n1, c1, rfl, -, -⟩ := p1' ; obtain ⟨a2, n2, c2, rfl, -, -⟩ := p2' ; obtain ⟨v', H4, ev, happ, f4, e4, w4⟩ := copyTk w3 p1.fm (by omega))
        | (refine Outs.intro ⟨_, _, _, happ, ?_⟩)
        | fail)
      all_goals (conv => whnf)
      exact ⟨_, rfl, f4, e1.trans (e2.trans (e3.trans e4)), w4⟩
    · have hof : ofE ts = 3 := by unfold ofE; rw [if_pos h0, hF, if_neg h1]
      have hff : ofF ts = [] := by unfold ofF; rw [if_neg (by rw [hof]; decide)]
      rw [hof, hff]
      repeat' ((conv => whnf); first
        | (refine Both.intro ?_ ?_ <;> intro _ <;> try (exfalso; omega))
        | (refine Need.intro (by omega) ?_)
        | (refine Does.mono (Check_any H hw a n c ts hr) ?_ ; rintro _ H1 ⟨rfl, e1, w1⟩)
        | (refine Does.mono (meas_any H1 w1 a n c ts (hr.ext hw e1) hk (by omega) hx Y N hY hN) ?_ ; rintro _ H2 ⟨rfl, e2, w2⟩)
        | (refine Gives.intro ⟨_, fld0 _ _, ?_⟩)
        | (refine Gives.intro ⟨_, pfld0 _ _ _ _ _ _, ?_⟩)
        | fail)
      all_goals (conv => whnf)
      exact ⟨_, rfl, Fm.nil _, e1.trans e2, w2⟩
  · have hof : ofE ts = termF ts false := by unfold ofE; rw [if_neg h0]
    have hff : ofF ts = [] := by unfold ofF; rw [if_neg (by rw [hof]; exact h0)]
    rw [hof, hff]
    repeat' ((conv => whnf); first
      | (refine Both.intro ?_ ?_ <;> intro _ <;> try (exfalso; omega))
      | (refine Need.intro (by omega) ?_)
      | (refine Does.mono (Check_any H hw a n c ts hr) ?_ ; rintro _ H1 ⟨rfl, e1, w1⟩)
      | fail)
    all_goals (conv => whnf)
    exact ⟨_, rfl, Fm.nil _, e1, w1⟩
def sizeF (ts : List Tk) : Nat := if termF ts false = 0 then min (formsF ts).yes.length 2049 else 0
theorem Size_any (H : AHeap) (hw : Wf H) (a : Option Addr) (n c : Nat) (ts : List Tk) (hr : RowS H a n c 2 (ts.map Tk.cells)) :
    Does Try.prog orc 24 [.slice a n c] H fun r H' => r = .ret (.tuple #[.int .i64 (sizeF ts), .int .i64 (termF ts false)]) ∧ Ext H H' ∧ Wf H' := by
  have hlen := hr.len; simp at hlen
  have hcap := hr.cap
  refine Does.of Try.func24 (fun _ _ => rfl) rfl ?_
  by_cases h0 : termF ts false = 0
  · obtain ⟨hk, h512⟩ := termF_kinds h0
    obtain ⟨x, pl, hx, -, -⟩ := forms_ok h0
    have hF : formsF ts = x := by unfold formsF; rw [hx]; rfl
    obtain ⟨Y, hY⟩ : ∃ Y, Y = min x.yes.length 2049 := ⟨_, rfl⟩
    obtain ⟨N, hN⟩ : ∃ N, N = min x.no.length 2049 := ⟨_, rfl⟩
    have hs : sizeF ts = Y := by unfold sizeF; rw [if_pos h0, hF, hY]
    rw [hs, h0]
    repeat' ((conv => whnf); first
      | (refine Both.intro ?_ ?_ <;> intro _ <;> try (exfalso; omega))
      | (refine Need.intro (by omega) ?_)
      | (refine Does.mono (Check_any H hw a n c ts hr) ?_ ; rintro _ H1 ⟨rfl, e1, w1⟩)
      | (refine Does.mono (meas_any H1 w1 a n c ts (hr.ext hw e1) hk (by omega) hx Y N hY hN) ?_ ; rintro _ H2 ⟨rfl, e2, w2⟩)
      | (refine Gives.intro ⟨_, fld0 _ _, ?_⟩)
      | fail)
    all_goals (conv => whnf)
    exact ⟨rfl, e1.trans e2, w2⟩
  · have hs : sizeF ts = 0 := by unfold sizeF; rw [if_neg h0]
    rw [hs]
    repeat' ((conv => whnf); first
      | (refine Both.intro ?_ ?_ <;> intro _ <;> try (exfalso; omega))
      | (refine Need.intro (by omega) ?_)
      | (refine Does.mono (Check_any H hw a n c ts hr) ?_ ; rintro _ H1 ⟨rfl, e1, w1⟩)
      | fail)
    all_goals (conv => whnf)
    exact ⟨rfl, e1, w1⟩
/-- What word lets pass fits. -/
theorem word_kinds (t : Tk) (a : List So) (hl : a.length = takesF t.op) (hi : ∀ s ∈ a, s.prop = true → s.path = false) (h : (wordF t a).2 = true) :
    t.op ≤ 23 ∧ t.p < 8 ∧ fitK t.op (a.map So.path) = true ∧ (wordF t a).1.path = decide (19 ≤ t.op) ∧ ((wordF t a).1.prop = true → (wordF t a).1.path = false) := by
  obtain ⟨op, p⟩ := t
  dsimp only at hl
  have hp8 : p < 8 := by
    by_cases hc : p < 8
    · exact hc
    · unfold wordF at h; dsimp only at h; rw [if_pos (by omega)] at h; cases h
  have h23 : op ≤ 23 := by
    by_cases hc : op ≤ 23
    · exact hc
    · unfold wordF at h; dsimp only at h
      by_cases hz : op ≠ 2 ∧ p ≠ 0 ∨ p ≥ 8
      · rw [if_pos hz] at h; cases h
      · rw [if_neg hz, if_neg (by omega), if_neg (by omega), if_neg (by omega), if_neg (by omega), if_neg (by omega), if_neg (by omega), if_neg (by omega), if_neg (by omega), if_neg (by omega), if_neg (by omega), if_neg (by omega)] at h; cases h
  have hpz : ¬ (op ≠ 2 ∧ p ≠ 0 ∨ p ≥ 8) := fun hc => by unfold wordF at h; dsimp only at h; rw [if_pos hc] at h; cases h
  have hT := takesF_le op
  refine ⟨h23, hp8, ?_⟩
  by_cases h0 : takesF op = 0
  · obtain rfl := List.length_eq_zero_iff.1 (hl.trans h0)
    rcases op_none h0 with rfl | rfl | rfl | rfl | rfl | rfl
    all_goals
      unfold wordF at h ⊢
      dsimp only at h ⊢
      rw [if_neg hpz] at h ⊢
      first
      | (exact ⟨rfl, rfl, fun _ => rfl⟩)
      | (cases h)
  · by_cases h1 : takesF op = 1
    · obtain ⟨x, rfl⟩ := len_one (hl.trans h1)
      obtain ⟨xp, xl, xr⟩ := x
      have hxi := hi ⟨xp, xl, xr⟩ (by simp)
      dsimp only at hxi
      rcases op_one h1 with rfl | rfl | rfl | rfl | rfl | rfl | rfl | rfl
      all_goals
        unfold wordF at h ⊢
        dsimp only at h ⊢
        rw [if_neg hpz] at h ⊢
        first
        | (simp [no] at h; done)
        | (simp [no] at h; simp [fitK, no]; first | done | exact h | exact hxi h | exact h.1)
    · obtain ⟨x, y, rfl⟩ := len_two (show a.length = 2 by omega)
      obtain ⟨xp, xl, xr⟩ := x
      obtain ⟨yp, yl, yr⟩ := y
      rcases op_two (show takesF op = 2 by omega) h23 with rfl | rfl | rfl | rfl | rfl | rfl | rfl | rfl | rfl | rfl
      all_goals
        unfold wordF at h ⊢
        dsimp only at h ⊢
        rw [if_neg hpz] at h ⊢
        first
        | (simp [no] at h; done)
        | (simp [no] at h; simp [fitK, no]; first | done | exact h)
        | (simp [no] at h; simp [fitK, no, h])
theorem foldS_kinds : ∀ (ts : List Tk) (ss ss' : List So), (∀ s ∈ ss, s.prop = true → s.path = false) → ts.foldl stepS (some ss) = some ss' → ts.foldl stepK (some (ss.map So.path)) = some (ss'.map So.path)
  | [], ss, ss', hi, h => by cases h; rfl
  | t :: ts, ss, ss', hi, h => by
    simp only [List.foldl_cons] at h ⊢
    by_cases hc : ss.length < takesF t.op
    · rw [stepS, if_pos hc, foldS_none] at h; cases h
    · by_cases hw : (wordF t (ss.drop (ss.length - takesF t.op))).2 = true
      · rw [stepS, if_neg hc, if_pos hw] at h
        obtain ⟨c1, c2, c3, c4, c5⟩ := word_kinds t _ (by rw [List.length_drop]; omega) (fun s hs => hi s (List.mem_of_mem_drop hs)) hw
        have ih := foldS_kinds ts _ ss' (fun s hs => by
          rcases List.mem_append.1 hs with hs | hs
          · exact hi s (List.mem_of_mem_take hs)
          · rw [List.mem_singleton.1 hs]; exact c5) h
        rw [← ih]
        congr 1
        simp only [stepK]
        rw [if_pos ⟨c1, c2, by rw [List.length_map]; omega, by rw [List.length_map, ← List.map_drop]; exact c3⟩, List.length_map, List.map_append, List.map_take]
        simp only [List.map_cons, List.map_nil, c4]
      · rw [stepS, if_neg hc, if_neg hw, foldS_none] at h; cases h
theorem checkF_kinds {ts : List Tk} (h : checkF ts = 0) : kinds ts = some [false] ∧ ts.length ≤ 2048 := by
  unfold checkF at h
  split at h
  · cases h
  · rename_i hl
    refine ⟨?_, by omega⟩
    cases hf : ts.foldl stepS (some []) with
    | none => simp [hf] at h
    | some qs =>
      rcases qs with _ | ⟨q, _ | ⟨q2, r⟩⟩
      · simp [hf] at h
      · simp only [hf] at h
        have := foldS_kinds ts [] [q] (by simp) hf
        cases hq : q.path with
        | true => rw [hq, if_pos rfl] at h; cases h
        | false => unfold kinds; rw [show (some ([] : List Bool)) = some (([] : List So).map So.path) from rfl, this]; simp [hq]
      · simp [hf] at h
theorem kinds_forms {ts : List Tk} (hk : kinds ts = some [false]) : ∃ x, ts.foldl stepP [] = [x] := by
  obtain ⟨x, hx, -⟩ := (bp_fold ts [] [] [false] True.intro hk).1.one
  exact ⟨x, hx⟩
def negE (ts : List Tk) : Nat := if checkF ts = 0 then (if (formsF ts).no.length ≤ 2048 then 0 else 3) else checkF ts
def negF (ts : List Tk) : List Tk := if negE ts = 0 then (formsF ts).no else []
theorem Neg_any (H : AHeap) (hw : Wf H) (a : Option Addr) (n c : Nat) (ts : List Tk) (hr : RowS H a n c 2 (ts.map Tk.cells)) (hnn : n ≤ 2 ^ 60) :
    Does Try.prog orc 22 [.slice a n c] H fun r H' => ∃ v, r = .ret (.tuple #[v, .int .i64 (negE ts)]) ∧ Fm H' v (negF ts) ∧ Ext H H' ∧ Wf H' := by
  have hlen := hr.len; simp at hlen
  have hcap := hr.cap
  refine Does.of Try.func22 (fun _ _ => rfl) rfl ?_
  by_cases h0 : checkF ts = 0
  · obtain ⟨hk, h512⟩ := checkF_kinds h0
    obtain ⟨x, hx⟩ := kinds_forms hk
    have hF : formsF ts = x := by unfold formsF; rw [hx]; rfl
    obtain ⟨Y, hY⟩ : ∃ Y, Y = min x.yes.length 2049 := ⟨_, rfl⟩
    obtain ⟨N, hN⟩ : ∃ N, N = min x.no.length 2049 := ⟨_, rfl⟩
    by_cases h1 : x.no.length ≤ 2048
    · have hof : negE ts = 0 := by unfold negE; rw [if_pos h0, hF, if_pos h1]
      have hff : negF ts = x.no := by unfold negF; rw [if_pos hof, hF]
      rw [hof, hff]
      repeat' ((conv => whnf); first
        | (refine Both.intro ?_ ?_ <;> intro _ <;> try (exfalso; omega))
        | (refine Need.intro (by omega) ?_)
        | (refine Does.mono (check_any H hw a n c ts hr hnn) ?_ ; rintro _ H1 ⟨rfl, e1, w1⟩)
        | (refine Does.mono (meas_any H1 w1 a n c ts (hr.ext hw e1) hk (by omega) hx Y N hY hN) ?_ ; rintro _ H2 ⟨rfl, e2, w2⟩)
        | (refine Gives.intro ⟨_, fld1 _ _, ?_⟩)
        | (refine Gives.intro ⟨_, pfld1 _ _ _ _ _ _, ?_⟩)
        | (refine Does.mono (forms_any H2 w2 a n c ts (hr.ext hw (e1.trans e2)) (by omega) hk (forms_bound hk hx (by omega))) ?_ ; rintro _ H3 ⟨v, S, rfl, ⟨v1, v2, rfl, p1, p2⟩, e3, w3⟩ ; rw [hF] at p1 p2 ; have p1' := p1 ; have p2' := p2 ; obtain ⟨a1, n1, c1, rfl, -, -⟩ := p1' ; obtain ⟨a2, n2, c2, rfl, -, -⟩ := p2' ; obtain ⟨v', H4, ev, happ, f4, e4, w4⟩ := copyTk w3 p2.fm (by omega))
        | (refine Outs.intro ⟨_, _, _, happ, ?_⟩)
        | fail)
      all_goals (conv => whnf)
      exact ⟨_, rfl, f4, e1.trans (e2.trans (e3.trans e4)), w4⟩
    · have hof : negE ts = 3 := by unfold negE; rw [if_pos h0, hF, if_neg h1]
      have hff : negF ts = [] := by unfold negF; rw [if_neg (by rw [hof]; decide)]
      rw [hof, hff]
      repeat' ((conv => whnf); first
        | (refine Both.intro ?_ ?_ <;> intro _ <;> try (exfalso; omega))
        | (refine Need.intro (by omega) ?_)
        | (refine Does.mono (check_any H hw a n c ts hr hnn) ?_ ; rintro _ H1 ⟨rfl, e1, w1⟩)
        | (refine Does.mono (meas_any H1 w1 a n c ts (hr.ext hw e1) hk (by omega) hx Y N hY hN) ?_ ; rintro _ H2 ⟨rfl, e2, w2⟩)
        | (refine Gives.intro ⟨_, fld1 _ _, ?_⟩)
        | fail)
      all_goals (conv => whnf)
      exact ⟨_, rfl, Fm.nil _, e1.trans e2, w2⟩
  · have hof : negE ts = checkF ts := by unfold negE; rw [if_neg h0]
    have hff : negF ts = [] := by unfold negF; rw [if_neg (by rw [hof]; exact h0)]
    rw [hof, hff]
    repeat' ((conv => whnf); first
      | (refine Both.intro ?_ ?_ <;> intro _ <;> try (exfalso; omega))
      | (refine Need.intro (by omega) ?_)
      | (refine Does.mono (check_any H hw a n c ts hr hnn) ?_ ; rintro _ H1 ⟨rfl, e1, w1⟩)
      | fail)
    all_goals (conv => whnf)
    exact ⟨_, rfl, Fm.nil _, e1, w1⟩
end Go.AX.Try
