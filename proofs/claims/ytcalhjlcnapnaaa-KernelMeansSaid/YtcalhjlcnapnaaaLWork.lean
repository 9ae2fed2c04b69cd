/- mean's work: the stack of values, and what they mean. -/
import Derived.Test.YtcalhjlcnapnaaaLPath
namespace Go.AX.Try
open Go Go.AX Go.AX.Lw Go.Proofs
set_option linter.unusedVariables false
set_option linter.unusedSimpArgs false
set_option maxRecDepth 100000
/-- What a value means: places, or what a path does to places. -/
structure Sm where
  path : Bool
  pl : Nat → Bool
  back : (Nat → Bool) → Nat → Bool
  on : (Nat → Bool) → Nat → Bool
def Sm.at (f : Nat → Bool) : Sm := ⟨false, f, fun s => s, fun s => s⟩
def Sm.way (b o : (Nat → Bool) → Nat → Bool) : Sm := ⟨true, fun _ => false, b, o⟩
def smNo : Sm := Sm.at fun _ => false
/-- What a token makes of the values that it takes. -/
def valF (n : Nat) (t : List Nat) (tk : Tk) (a : List Sm) : Sm :=
  let x := (a[0]?).getD smNo
  let y := (a[1]?).getD smNo
  if tk.op ≤ 5 then .at (leafF n t tk.op tk.p) else
  if tk.op = 17 then .at (x.back y.pl) else
  if tk.op = 18 then .at (fun i => !x.back (fun j => !y.pl j) i) else
  if tk.op = 19 then .way (stepB n x.pl) (stepO x.pl) else
  if tk.op = 20 then .way (fun s => twoF n 11 x.pl s) (fun s => twoF n 11 x.pl s) else
  if tk.op = 21 then .way (fun s => orF (x.back s) (y.back s)) (fun s => orF (x.on s) (y.on s)) else
  if tk.op = 22 then .way (fun s => x.back (y.back s)) (fun s => y.on (x.on s)) else
  if tk.op = 23 then .way (fun s => grF (n + 1) x.back (n + 2) s) (fun s => grF (n + 1) x.on (n + 2) s) else
  if takesF tk.op = 1 then .at (oneF n tk.op x.pl) else .at (twoF n tk.op x.pl y.pl)
def stepV (n : Nat) (t : List Nat) (st : List Sm) (tk : Tk) : List Sm := st.take (st.length - takesF tk.op) ++ [valF n t tk (st.drop (st.length - takesF tk.op))]
def evalV (n : Nat) (t : List Nat) (ts : List Tk) : List Sm := ts.foldl (stepV n t) []
/-- Which kinds a token may take. -/
def fitK (op : Nat) (a : List Bool) : Bool :=
  if op = 17 ∨ op = 18 then a == [true, false] else if op = 21 ∨ op = 22 then a == [true, true] else if op = 23 then a == [true] else a.all fun x => !x
def stepK (st : Option (List Bool)) (tk : Tk) : Option (List Bool) :=
  match st with
  | none => none
  | some ps => if tk.op ≤ 23 ∧ tk.p < 8 ∧ takesF tk.op ≤ ps.length ∧ fitK tk.op (ps.drop (ps.length - takesF tk.op)) = true then some (ps.take (ps.length - takesF tk.op) ++ [decide (19 ≤ tk.op)]) else none
def kinds (ts : List Tk) : Option (List Bool) := ts.foldl stepK (some [])
theorem foldK_none (ts : List Tk) : ts.foldl stepK none = none := by
  induction ts with
  | nil => rfl
  | cons t r ih => exact ih
theorem valF_path (n : Nat) (t : List Nat) (tk : Tk) (a : List Sm) (h : tk.op ≤ 23) : (valF n t tk a).path = decide (19 ≤ tk.op) := by
  unfold valF
  dsimp only
  repeat' split
  all_goals first
  | (rw [decide_eq_true (by omega)]; rfl)
  | (rw [decide_eq_false (by omega)]; rfl)
/-- The cells of a value that means so. -/
def VR (S : Nat → Prop) (n : Nat) (H : AHeap) (x : List Value) (m : Sm) : Prop :=
  if m.path = true then ∃ vb vo, x = [.slice none 0 0, vb, vo] ∧ FnV S n H vb m.back ∧ FnV S n H vo m.on
  else ∃ a c, x = [.slice a (n + 1) c, .nilFunc, .nilFunc] ∧ BRow H a (n + 1) c m.pl ∧ ∀ b o s, a = some ⟨b, o, s⟩ → S b
theorem VR.wide {S S' : Nat → Prop} {n : Nat} {H H' : AHeap} {x : List Value} {m : Sm} (h : VR S n H x m) (hk : SKeep S H H') (hs : ∀ b, S b → S' b) (hl : ∀ b, S' b → b < H'.next) : VR S' n H' x m := by
  unfold VR at h ⊢
  split
  · rename_i hp
    rw [if_pos hp] at h
    obtain ⟨vb, vo, rfl, h1, h2⟩ := h
    exact ⟨vb, vo, rfl, h1.wide hk hs hl, h2.wide hk hs hl⟩
  · rename_i hp
    rw [if_neg hp] at h
    obtain ⟨a, c, rfl, h1, h2⟩ := h
    exact ⟨a, c, rfl, Row.keep hk h1 h2, fun b o s e => hs b (h2 b o s e)⟩
theorem VR.len {S : Nat → Prop} {n : Nat} {H : AHeap} {x : List Value} {m : Sm} (h : VR S n H x m) : x.length = 3 ∧ allOne x = true := by
  unfold VR at h
  split at h
  · obtain ⟨vb, vo, rfl, h1, h2⟩ := h
    obtain ⟨g1, f1, c1, rfl, -⟩ := h1.run
    obtain ⟨g2, f2, c2, rfl, -⟩ := h2.run
    exact ⟨rfl, rfl⟩
  · obtain ⟨a, c, rfl, h1, h2⟩ := h; exact ⟨rfl, rfl⟩
theorem VR.at {S : Nat → Prop} {n : Nat} {H : AHeap} {x : List Value} {m : Sm} (h : VR S n H x m) (hp : m.path = false) : ∃ a c, x = [.slice a (n + 1) c, .nilFunc, .nilFunc] ∧ BRow H a (n + 1) c m.pl ∧ ∀ b o s, a = some ⟨b, o, s⟩ → S b := by
  unfold VR at h; rwa [if_neg (by rw [hp]; decide)] at h
theorem VR.way {S : Nat → Prop} {n : Nat} {H : AHeap} {x : List Value} {m : Sm} (h : VR S n H x m) (hp : m.path = true) : ∃ vb vo, x = [.slice none 0 0, vb, vo] ∧ FnV S n H vb m.back ∧ FnV S n H vo m.on := by
  unfold VR at h; rwa [if_pos hp] at h
/-- Where work stands. -/
structure WI (H1 H : AHeap) (n : Nat) (t : List Nat) (ts : List Tk) (k : Nat) (xs : List (List Value)) (sa : Option Addr) (sc : Nat) (S : Nat → Prop) (sms : List Sm) : Prop where
  kle : k ≤ ts.length
  e : Ext H1 H
  w : Wf H
  st : Stk H1 H (rowV 71 3) 3 sa xs.length sc xs
  lt : ∀ b, S b → b < H.next
  ge : ∀ b, S b → H1.next ≤ b
  off : ∀ b o s, sa = some ⟨b, o, s⟩ → ¬ S b
  len : xs.length = sms.length
  lk : xs.length ≤ k
  val : ∀ (i : Nat) x m, xs[i]? = some x → sms[i]? = some m → VR S n H x m
  ev : evalV n t (ts.take k) = sms
  kd : kinds (ts.take k) = some (sms.map Sm.path)
theorem valTy : AppTyS Try.prog #[109, 109] 71 3 40 where
  t0 := by kernel_rfl
  t1 := by kernel_rfl
  size := by kernel_rfl
  bytes := by kernel_rfl
  pos := by decide
  szp := by decide
  szl := by decide
  zero := ⟨.agg #[.slice none 0 0, .nilFunc, .nilFunc], by kernel_rfl, rfl⟩
/-- A value comes onto the stack. -/
theorem WI.push {H1 H H5 : AHeap} {n : Nat} {t : List Nat} {ts : List Tk} {k : Nat} {xs : List (List Value)} {sa : Option Addr} {sc : Nat} {S : Nat → Prop} {sms : List Sm} (h : WI H1 H n t ts k xs sa sc S sms) {tk : Tk} (ht : ts[k]? = some tk) (hk : k < ts.length)
    (hts : ts.length ≤ 2 ^ 20) (e5 : Ext H H5) (w5 : Wf H5) (hop : tk.op ≤ 23) (hp8 : tk.p < 8) (hm : takesF tk.op ≤ xs.length) (hfit : fitK tk.op ((sms.map Sm.path).drop (xs.length - takesF tk.op)) = true) {x : List Value}
    (hx : VR (SNew S H H5) n H5 x (valF n t tk (sms.drop (xs.length - takesF tk.op)))) :
    ∃ a' c' H9, aAppend Try.prog (H5.push (.cells x 0 true)) #[109, 109] [.slice sa (xs.length - takesF tk.op) sc, .slice (some ⟨H5.next, 0, none⟩) 1 1] = some (.val (.slice a' (xs.length - takesF tk.op + 1) c') H9 (.eff (H5.push (.cells x 0 true)) H9)) ∧
      WI H1 H9 n t ts (k + 1) (xs.take (xs.length - takesF tk.op) ++ [x]) a' c' (SNew S H H5) (sms.take (xs.length - takesF tk.op) ++ [valF n t tk (sms.drop (xs.length - takesF tk.op))]) := by
  have hlk := h.lk
  obtain ⟨m, hmm⟩ : ∃ m, m = xs.length - takesF tk.op := ⟨_, rfl⟩
  rw [← hmm] at hx hfit ⊢
  have st5 := (h.st.ext h.w e5).ext w5 (Ext.push H5 (.cells x 0 true))
  obtain ⟨a', c', H9, happ, st9, e9, w9, n9, hk9, hn9⟩ := stk_push ((h.e.trans e5).trans (Ext.push H5 (.cells x 0 true))) (w5.push _) valTy st5 (m := m) (by omega) (srcS (get_new _ _) hx.len.1) hx.len.1 hx.len.2 (by omega) (by omega)
  have hS5 := SNew.lt h.lt e5.next
  have hoff : ∀ b, SNew S H H5 b → ∀ o s, sa ≠ some ⟨b, o, s⟩ := fun b hb o s e => by
    rcases hb with hb | hb
    · exact h.off b o s e hb
    · have := (h.st.lt h.w e).2; omega
  have hkp : SKeep (SNew S H H5) H5 H9 := ⟨fun b hb => by
    rw [hk9 b (by have := hS5 b hb; simp; omega) (hoff b hb), AHeap.get_push, if_neg (by have := hS5 b hb; omega)], by simp at n9; omega⟩
  have hl9 : ∀ b, SNew S H H5 b → b < H9.next := fun b hb => by have := hS5 b hb; have := hkp.2; omega
  have hln : (xs.take m ++ [x]).length = m + 1 := by rw [List.length_append, List.length_take, Nat.min_eq_left (by omega)]; rfl
  have hls : (sms.take m).length = m := by rw [List.length_take, Nat.min_eq_left (by have := h.len; omega)]
  refine ⟨a', c', H9, happ, ⟨by omega, e9, w9, by rw [hln]; exact st9, hl9, (fun b hb => by
    rcases hb with hb | hb
    · exact h.ge b hb
    · have := h.e.next; omega), fun b o s e hb => ?_, by rw [hln, List.length_append, hls]; rfl, by rw [hln]; omega, fun i y mm hy hmm' => ?_, ?_, ?_⟩⟩
  · rcases hn9 b o s e with h1 | h1
    · exact hoff b hb o s h1
    · have := hS5 b hb; simp at h1; omega
  · have hlx : (xs.take m).length = m := by rw [List.length_take]; exact Nat.min_eq_left (by omega)
    by_cases hi : i < m
    · have q1 : i < (xs.take m).length := by omega
      have q2 : i < (sms.take m).length := by omega
      rw [List.getElem?_append_left q1, List.getElem?_take, if_pos hi] at hy
      rw [List.getElem?_append_left q2, List.getElem?_take, if_pos hi] at hmm'
      refine (h.val i y mm hy hmm').wide ⟨fun b hb => ?_, by have := e5.next; have := hkp.2; omega⟩ (fun b hb => .inl hb) hl9
      rw [hkp.1 b (.inl hb), e5.get b (h.lt b hb)]
    · have hi' : i = m := by have := (List.getElem?_eq_some_iff.1 hy).1; omega
      have q1 : (xs.take m).length ≤ i := by omega
      have q2 : (sms.take m).length ≤ i := by omega
      rw [List.getElem?_append_right q1, hlx, hi', Nat.sub_self] at hy
      rw [List.getElem?_append_right q2, hls, hi', Nat.sub_self] at hmm'
      cases hy; cases hmm'
      exact hx.wide hkp (fun b hb => hb) hl9
  · have : evalV n t (ts.take (k + 1)) = stepV n t sms tk := by
      unfold evalV
      rw [List.take_add_one, ht, List.foldl_append]
      have := h.ev
      unfold evalV at this
      rw [this]; rfl
    rw [this, stepV, ← h.len, hmm]
  · have : kinds (ts.take (k + 1)) = stepK (some (sms.map Sm.path)) tk := by
      unfold kinds
      rw [List.take_add_one, ht, List.foldl_append]
      have := h.kd
      unfold kinds at this
      rw [this]; rfl
    have hl : (sms.map Sm.path).length - takesF tk.op = m := by rw [List.length_map, ← h.len, hmm]
    rw [this, stepK, hl, if_pos ⟨hop, hp8, by rw [List.length_map, ← h.len]; exact hm, hfit⟩, List.map_append, List.map_take]
    simp only [List.map_cons, List.map_nil, valF_path n t tk _ hop]
end Go.AX.Try
