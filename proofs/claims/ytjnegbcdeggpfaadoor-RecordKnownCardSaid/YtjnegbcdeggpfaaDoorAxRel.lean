/- The relation between the abstract memory and the machine's: definitions and what moves it. -/
import Derived.Test.YtjnegbcdeggpfaaDoorAxTr
import Derived.Below
import Derived.Deep.MidRow
namespace Go.AX
open Go Go.RowKit
set_option linter.unusedVariables false
set_option linter.unusedSimpArgs false

theorem AHeap.get_set (H : AHeap) (b : Nat) (o : AObj) (c : Nat) : (H.set b o).get c = if c = b then some o else H.get c := Tr.get_set _ _ _ _
theorem AHeap.get_push (H : AHeap) (o : AObj) (c : Nat) : (H.push o).get c = if c = H.next then some o else H.get c := Tr.get_set _ _ _ _
@[simp] theorem AHeap.next_set (H : AHeap) (b : Nat) (o : AObj) : (H.set b o).next = H.next := rfl
@[simp] theorem AHeap.next_push (H : AHeap) (o : AObj) : (H.push o).next = H.next + 1 := rfl

/-! ### lists related place by place -/
def LRel {α β : Type} (R : α → β → Prop) : List α → List β → Prop
  | [], [] => True
  | x :: xs, y :: ys => R x y ∧ LRel R xs ys
  | _, _ => False

section
variable {α β : Type} {R : α → β → Prop}
theorem LRel.length : ∀ {xs : List α} {ys : List β}, LRel R xs ys → xs.length = ys.length
  | [], [], _ => rfl
  | _ :: _, _ :: _, h => congrArg (· + 1) (LRel.length h.2)
  | [], _ :: _, h => h.elim
  | _ :: _, [], h => h.elim
theorem LRel.get : ∀ {xs : List α} {ys : List β}, LRel R xs ys → ∀ (i : Nat) (x : α), xs[i]? = some x → ∃ y, ys[i]? = some y ∧ R x y
  | [], [], _, i, x, hx => by simp at hx
  | x :: xs, y :: ys, h, 0, z, hz => by simp at hz; subst hz; exact ⟨y, by simp, h.1⟩
  | x :: xs, y :: ys, h, i + 1, z, hz => by simp at hz; obtain ⟨u, hu, hr⟩ := LRel.get h.2 i z hz; exact ⟨u, by simpa using hu, hr⟩
  | [], _ :: _, h, _, _, _ => h.elim
  | _ :: _, [], h, _, _, _ => h.elim
theorem LRel.of_get : ∀ {xs : List α} {ys : List β}, xs.length = ys.length → (∀ (i : Nat) (x : α), xs[i]? = some x → ∃ y, ys[i]? = some y ∧ R x y) → LRel R xs ys
  | [], [], _, _ => trivial
  | x :: xs, y :: ys, hl, h => by
    refine ⟨?_, LRel.of_get (by simpa using hl) fun i z hz => ?_⟩
    · obtain ⟨u, hu, hr⟩ := h 0 x (by simp)
      simp at hu; subst hu; exact hr
    · obtain ⟨u, hu, hr⟩ := h (i + 1) z (by simpa using hz)
      exact ⟨u, by simpa using hu, hr⟩
  | [], _ :: _, hl, _ => by simp at hl
  | _ :: _, [], hl, _ => by simp at hl
theorem LRel.append : ∀ {xs : List α} {ys : List β} {xs' : List α} {ys' : List β}, LRel R xs ys → LRel R xs' ys' → LRel R (xs ++ xs') (ys ++ ys')
  | [], [], _, _, _, h' => h'
  | _ :: _, _ :: _, _, _, h, h' => ⟨h.1, LRel.append h.2 h'⟩
  | [], _ :: _, _, _, h, _ => h.elim
  | _ :: _, [], _, _, h, _ => h.elim
theorem LRel.mono {R' : α → β → Prop} (hr : ∀ x y, R x y → R' x y) : ∀ {xs : List α} {ys : List β}, LRel R xs ys → LRel R' xs ys
  | [], [], _ => trivial
  | _ :: _, _ :: _, h => ⟨hr _ _ h.1, LRel.mono hr h.2⟩
  | [], _ :: _, h => h.elim
  | _ :: _, [], h => h.elim
end

/-! ### values -/
/-- What an abstract block is: nothing yet; cells of block c from k on (x: how many elements of room lie behind what is known); gone. -/
inductive BS where
  | no
  | live (c k x : Nat)
  | gone (x : Nat)

abbrev Rho := Nat → BS

def PRel (ρ : Rho) (b o : Nat) (a : Addr) : Prop :=
  match ρ b with
  | .no => False
  | .gone _ => True
  | .live c k _ => a = ⟨c, k + o, none⟩
def SRel (ρ : Rho) (b o : Nat) (s : Option Nat) (cap : Nat) (a : Addr) (cap' : Nat) : Prop :=
  match ρ b with
  | .no => False
  | .gone x => cap' = cap + (match s with | none => 0 | some _ => x)
  | .live c k x => (cap' = 0 ∨ a = ⟨c, k + o, none⟩) ∧ cap' = cap + (match s with | none => 0 | some _ => x)
def MRel (ρ : Rho) (b r : Nat) : Prop :=
  match ρ b with
  | .no => False
  | .gone _ => True
  | .live c _ _ => r = c

inductive VRel (ρ : Rho) : Value → Value → Prop
  | bool (b : Bool) : VRel ρ (.bool b) (.bool b)
  | int (k : IntKind) (n : Int) : VRel ρ (.int k n) (.int k n)
  | string (s : ByteArray) : VRel ρ (.string s) (.string s)
  | pnil : VRel ρ (.pointer none) (.pointer none)
  | ptr {b o : Nat} {a : Addr} (h : PRel ρ b o a) : VRel ρ (.pointer (some ⟨b, o, none⟩)) (.pointer (some a))
  | snil (n c : Nat) : VRel ρ (.slice none n c) (.slice none n c)
  | slice {b o : Nat} {s : Option Nat} {n c : Nat} {a : Addr} {c' : Nat} (h : SRel ρ b o s c a c') : VRel ρ (.slice (some ⟨b, o, s⟩) n c) (.slice (some a) n c')
  | mnil : VRel ρ (.map none) (.map none)
  | map {b r : Nat} (h : MRel ρ b r) : VRel ρ (.map (some b)) (.map (some r))
  | nilFunc : VRel ρ .nilFunc .nilFunc
  | func (fn : Fn) {xs ys xs' ys' : Array Value} (h1 : xs.size = xs'.size) (h2 : ys.size = ys'.size)
      (hx : ∀ i (p : i < xs.size) (q : i < xs'.size), VRel ρ xs[i] xs'[i]) (hy : ∀ i (p : i < ys.size) (q : i < ys'.size), VRel ρ ys[i] ys'[i]) :
      VRel ρ (.func fn xs ys) (.func fn xs' ys')
  | nilIface : VRel ρ .nilIface .nilIface
  | iface (t : TypeId) {v v' : Value} (h : VRel ρ v v') : VRel ρ (.iface t v) (.iface t v')
  | agg {xs ys : Array Value} (h1 : xs.size = ys.size) (h : ∀ i (p : i < xs.size) (q : i < ys.size), VRel ρ xs[i] ys[i]) : VRel ρ (.agg xs) (.agg ys)
  | tuple {xs ys : Array Value} (h1 : xs.size = ys.size) (h : ∀ i (p : i < xs.size) (q : i < ys.size), VRel ρ xs[i] ys[i]) : VRel ρ (.tuple xs) (.tuple ys)
  /-- A value that nobody looks at: it stands for any of one cell that is no bool. -/
  | hid {v : Value} (h1 : v.oneCell' = true) (h2 : ∀ b, v ≠ .bool b) : VRel ρ (.chan none) v

abbrev VsRel (ρ : Rho) : List Value → List Value → Prop := LRel (VRel ρ)

theorem vs_of_idx {ρ : Rho} {xs ys : Array Value} (h1 : xs.size = ys.size) (h : ∀ i (p : i < xs.size) (q : i < ys.size), VRel ρ xs[i] ys[i]) : VsRel ρ xs.toList ys.toList := by
  refine LRel.of_get (by simpa using h1) fun i x hx => ?_
  rw [List.getElem?_eq_some_iff] at hx
  obtain ⟨hi, rfl⟩ := hx
  have hi' : i < xs.size := by simpa using hi
  have hj : i < ys.size := h1 ▸ hi'
  exact ⟨ys[i], by simp [hj], by simpa using h i hi' hj⟩
theorem idx_of_vs {ρ : Rho} {xs ys : Array Value} (h : VsRel ρ xs.toList ys.toList) : xs.size = ys.size ∧ ∀ i (p : i < xs.size) (q : i < ys.size), VRel ρ xs[i] ys[i] := by
  refine ⟨by simpa using h.length, fun i p q => ?_⟩
  obtain ⟨y, hy, hr⟩ := h.get i xs[i] (by simp [p])
  have : ys[i] = y := by simpa [q] using hy
  rw [this]; exact hr
theorem VRel.mkAgg {ρ : Rho} {xs ys : List Value} (h : VsRel ρ xs ys) : VRel ρ (.agg xs.toArray) (.agg ys.toArray) :=
  .agg (idx_of_vs (xs := xs.toArray) (ys := ys.toArray) (by simpa using h)).1 (idx_of_vs (xs := xs.toArray) (ys := ys.toArray) (by simpa using h)).2
theorem VRel.mkTuple {ρ : Rho} {xs ys : List Value} (h : VsRel ρ xs ys) : VRel ρ (.tuple xs.toArray) (.tuple ys.toArray) :=
  .tuple (idx_of_vs (xs := xs.toArray) (ys := ys.toArray) (by simpa using h)).1 (idx_of_vs (xs := xs.toArray) (ys := ys.toArray) (by simpa using h)).2
theorem VRel.undef (ρ : Rho) : VRel ρ Go.undef Go.undef := .tuple rfl (fun i p _ => absurd p (by simp))
theorem one_cells {v : Value} (h : v.oneCell' = true) : v.cells = #[v] := by cases v <;> first | rfl | (simp [Value.oneCell'] at h)
theorem VRel.cells {ρ : Rho} {v v' : Value} (h : VRel ρ v v') : VsRel ρ v.cells.toList v'.cells.toList := by
  cases h with
  | hid h1 h2 => rw [one_cells h1]; exact ⟨.hid h1 h2, trivial⟩
  | agg h1 h => exact vs_of_idx h1 h
  | bool b => exact ⟨.bool b, trivial⟩
  | int k n => exact ⟨.int k n, trivial⟩
  | string s => exact ⟨.string s, trivial⟩
  | pnil => exact ⟨.pnil, trivial⟩
  | ptr h => exact ⟨.ptr h, trivial⟩
  | snil n c => exact ⟨.snil n c, trivial⟩
  | slice h => exact ⟨.slice h, trivial⟩
  | mnil => exact ⟨.mnil, trivial⟩
  | map h => exact ⟨.map h, trivial⟩
  | nilFunc => exact ⟨.nilFunc, trivial⟩
  | func fn h1 h2 hx hy => exact ⟨.func fn h1 h2 hx hy, trivial⟩
  | nilIface => exact ⟨.nilIface, trivial⟩
  | iface t h => exact ⟨.iface t h, trivial⟩
  | tuple h1 h => exact ⟨.tuple h1 h, trivial⟩
theorem VRel.one {ρ : Rho} {v v' : Value} (h : VRel ρ v v') : oneV v = v'.oneCell' := by
  cases h with
  | hid h1 h2 => rw [h1]; rfl
  | _ => rfl
theorem VRel.size {ρ : Rho} {v v' : Value} (h : VRel ρ v v') : v.cells.size = v'.cells.size := by simpa using h.cells.length

/-- A later look: what was nothing may have come, what was there may have gone. -/
structure Mono (n m : Nat) (ρ ρ' : Rho) : Prop where
  out : ∀ b, ¬ (n ≤ b ∧ b < m) → ρ' b = ρ b ∨ ∃ c k x, ρ b = .live c k x ∧ ρ' b = .gone x
  new : ∀ b, n ≤ b → b < m → ρ b = .no

theorem Mono.refl (n : Nat) (ρ : Rho) : Mono n n ρ ρ := ⟨fun _ _ => .inl rfl, fun _ h1 h2 => absurd h2 (by omega)⟩
theorem Mono.cases {n m : Nat} {ρ ρ' : Rho} (h : Mono n m ρ ρ') (b : Nat) : ρ b = .no ∨ ρ' b = ρ b ∨ ∃ c k x, ρ b = .live c k x ∧ ρ' b = .gone x := by
  by_cases hb : n ≤ b ∧ b < m
  · exact .inl (h.new b hb.1 hb.2)
  · exact .inr (h.out b hb)
theorem Mono.trans {n m l : Nat} {ρ ρ' ρ'' : Rho} (h : Mono n m ρ ρ') (h' : Mono m l ρ' ρ'') (hn : n ≤ m) (hm : m ≤ l) : Mono n l ρ ρ'' where
  out b hb := by
    rcases h.out b (by omega) with e | ⟨c, k, x, e1, e2⟩
    · rcases h'.out b (by omega) with e' | ⟨c', k', x', e1', e2'⟩
      · exact .inl (e'.trans e)
      · exact .inr ⟨c', k', x', e ▸ e1', e2'⟩
    · rcases h'.out b (by omega) with e' | ⟨c', k', x', e1', e2'⟩
      · exact .inr ⟨c, k, x, e1, e'.trans e2⟩
      · rw [e2] at e1'; cases e1'
  new b h1 h2 := by
    by_cases hb : b < m
    · exact h.new b h1 hb
    · have e := h'.new b (by omega) h2
      rcases h.out b (by omega) with e' | ⟨_, _, _, _, e2⟩
      · exact e' ▸ e
      · rw [e2] at e; cases e

theorem VRel.mono {n m : Nat} {ρ ρ' : Rho} (hm : Mono n m ρ ρ') {v v' : Value} (h : VRel ρ v v') : VRel ρ' v v' := by
  induction h with
  | hid h1 h2 => exact .hid h1 h2
  | bool b => exact .bool b
  | int k n => exact .int k n
  | string s => exact .string s
  | pnil => exact .pnil
  | @ptr b o a h =>
    refine .ptr ?_
    rcases hm.cases b with e | e | ⟨c1, k1, x1, e1, e⟩
    · simp [PRel, e] at h
    · simpa [PRel, e] using h
    · simp [PRel, e]
  | snil n c => exact .snil n c
  | @slice b o s n c a c' h =>
    refine .slice ?_
    rcases hm.cases b with e | e | ⟨c1, k1, x1, e1, e⟩
    · simp [SRel, e] at h
    · simpa [SRel, e] using h
    · simp only [SRel, e1] at h; simp only [SRel, e]; exact h.2
  | mnil => exact .mnil
  | @map b r h =>
    refine .map ?_
    rcases hm.cases b with e | e | ⟨c1, k1, x1, e1, e⟩
    · simp [MRel, e] at h
    · simpa [MRel, e] using h
    · simp [MRel, e]
  | nilFunc => exact .nilFunc
  | func fn h1 h2 hx hy ihx ihy => exact .func fn h1 h2 ihx ihy
  | nilIface => exact .nilIface
  | iface t h ih => exact .iface t ih
  | agg h1 h ih => exact .agg h1 ih
  | tuple h1 h ih => exact .tuple h1 ih

theorem VsRel.mono {n m : Nat} {ρ ρ' : Rho} (hm : Mono n m ρ ρ') {xs ys : List Value} (h : VsRel ρ xs ys) : VsRel ρ' xs ys := LRel.mono (fun _ _ h => h.mono hm) h

theorem vrel_plain (ρ : Rho) : ∀ (n : Nat) (v : Value), plainV n v = true → VRel ρ v v
  | n, .bool b, _ => .bool b
  | n, .int k i, _ => .int k i
  | n, .string s, _ => .string s
  | n, .pointer none, _ => .pnil
  | n, .slice none a b, _ => .snil a b
  | n, .map none, _ => .mnil
  | n, .nilFunc, _ => .nilFunc
  | n, .nilIface, _ => .nilIface
  | n + 1, .iface t v, h => .iface t (vrel_plain ρ n v (by simpa [plainV] using h))
  | n + 1, .agg vs, h => .agg rfl fun i p _ => vrel_plain ρ n _ ((List.all_eq_true.1 (by simpa only [plainV] using h)) _ (Array.mem_toList_iff.2 (Array.getElem_mem p)))
  | n + 1, .tuple vs, h => .tuple rfl fun i p _ => vrel_plain ρ n _ ((List.all_eq_true.1 (by simpa only [plainV] using h)) _ (Array.mem_toList_iff.2 (Array.getElem_mem p)))
  | 0, .iface t v, h => by simp [plainV] at h
  | 0, .agg vs, h => by simp [plainV] at h
  | 0, .tuple vs, h => by simp [plainV] at h
  | 0, .pointer (some a), h => by simp [plainV] at h
  | n + 1, .pointer (some a), h => by simp [plainV] at h
  | 0, .slice (some a) _ _, h => by simp [plainV] at h
  | n + 1, .slice (some a) _ _, h => by simp [plainV] at h
  | 0, .map (some a), h => by simp [plainV] at h
  | n + 1, .map (some a), h => by simp [plainV] at h
  | 0, .float _ _, h => by simp [plainV] at h
  | n + 1, .float _ _, h => by simp [plainV] at h
  | 0, .complex _ _ _, h => by simp [plainV] at h
  | n + 1, .complex _ _ _, h => by simp [plainV] at h
  | 0, .chan _, h => by simp [plainV] at h
  | n + 1, .chan _, h => by simp [plainV] at h
  | 0, .func _ _ _, h => by simp [plainV] at h
  | n + 1, .func _ _ _, h => by simp [plainV] at h

/-! ### frames -/
/-- What is deferred. -/
def DRel (ρ : Rho) (d : FuncId × List Value) (d' : Deferred) : Prop :=
  ∃ cap args, d' = ⟨.fn (.func d.1) cap, args⟩ ∧ VsRel ρ d.2 (args.toList ++ cap.toList)
theorem DRel.mono {n m : Nat} {ρ ρ' : Rho} (hm : Mono n m ρ ρ') {d : FuncId × List Value} {d' : Deferred} (h : DRel ρ d d') : DRel ρ' d d' := by
  obtain ⟨cap, args, h1, h2⟩ := h
  exact ⟨cap, args, h1, h2.mono hm⟩
theorem PRel.mono {n m : Nat} {ρ ρ' : Rho} (hm : Mono n m ρ ρ') {b o : Nat} {a : Addr} (h : PRel ρ b o a) : PRel ρ' b o a := by
  rcases hm.cases b with e | e | ⟨c1, k1, x1, e1, e⟩
  · simp [PRel, e] at h
  · simpa [PRel, e] using h
  · simp [PRel, e]

structure FRel (ρ : Rho) (f : Fr) (a : Act) : Prop where
  val : ∀ t, VRel ρ (f.get t) (a.tmps.getD t undef)
  size : f.size = a.tmps.size
  defers : LRel (DRel ρ) f.defs a.defers
  glob : ∀ g, g < f.glob → PRel ρ (g + 1) 0 ⟨g, 0, none⟩

theorem FRel.mono {n m : Nat} {ρ ρ' : Rho} (hm : Mono n m ρ ρ') {f : Fr} {a : Act} (h : FRel ρ f a) : FRel ρ' f a :=
  ⟨fun t => (h.val t).mono hm, h.size, LRel.mono (fun _ _ h => h.mono hm) h.defers, fun g hg => (h.glob g hg).mono hm⟩
theorem Fr.put_fix {f f' : Fr} {d : Option Tmp} {v : Value} (h : f.put d v = some f') : f'.defs = f.defs ∧ f'.glob = f.glob := by
  unfold Fr.put at h
  cases d with
  | none => simp at h; subst h; exact ⟨rfl, rfl⟩
  | some d =>
    cases hb : Nat.blt d f.size with
    | false => simp [hb] at h
    | true => simp [hb] at h; subst h; exact ⟨rfl, rfl⟩

theorem Fr.get_put {f f' : Fr} {d : Option Tmp} {v : Value} (h : f.put d v = some f') (t : Nat) : f'.get t = if d = some t then v else f.get t := by
  unfold Fr.put at h
  cases d with
  | none => simp at h; subst h; simp
  | some d =>
    cases hb : Nat.blt d f.size with
    | false => simp [hb] at h
    | true =>
      simp [hb] at h; subst h
      simp only [Fr.get, Tr.get_set, Option.some.injEq]
      by_cases e : t = d
      · subst e; simp
      · rw [if_neg e, if_neg (fun x => e x.symm)]

theorem FRel.put {ρ : Rho} {f f' : Fr} {a : Act} {d : Option Tmp} {v v' : Value} (h : FRel ρ f a) (hp : f.put d v = some f') (hv : VRel ρ v v') : FRel ρ f' (a.put d v') := by
  unfold Fr.put at hp
  cases d with
  | none => simp at hp; subst hp; exact h
  | some d =>
    cases hb : Nat.blt d f.size with
    | false => simp [hb] at hp
    | true =>
      simp [hb] at hp; subst hp
      have hd : d < a.tmps.size := by rw [← h.size]; exact by simpa [Nat.blt_eq] using hb
      refine ⟨fun t => ?_, by simp [Act.put, h.size], h.defers, h.glob⟩
      simp only [Fr.get, Tr.get_set, Act.put]
      by_cases e : t = d
      · subst e; simp [Array.getD_eq_getD_getElem?, Array.getElem?_setIfInBounds, hd]; exact hv
      · rw [if_neg e]
        have := h.val t
        simpa [Fr.get, Array.getD_eq_getD_getElem?, Array.getElem?_setIfInBounds, Ne.symm e, fun x : d = t => e x.symm] using this

theorem evO_rel {ρ : Rho} {f : Fr} {a : Act} (h : FRel ρ f a) {x : Operand} {v : Value} (hv : evO f x = some v) : VRel ρ v (a.eval x) := by
  cases x with
  | tmp t => simp [evO] at hv; subst hv; exact h.val t
  | const c =>
    simp only [evO] at hv
    cases hp : plainV 9 c with
    | false => simp [hp] at hv
    | true => simp [hp] at hv; subst hv; exact vrel_plain ρ 9 c hp
  | global g =>
    simp only [evO] at hv
    cases hb : Nat.blt g f.glob with
    | false => simp [hb] at hv
    | true => simp [hb] at hv; subst hv; exact .ptr (h.glob g (by simpa [Nat.blt_eq] using hb))
  | func g => simp [evO] at hv; subst hv; exact .func _ rfl rfl (fun i p _ => absurd p (by simp)) (fun i p _ => absurd p (by simp))

theorem evL_rel {ρ : Rho} {f : Fr} {a : Act} (h : FRel ρ f a) : ∀ {xs : List Operand} {vs : List Value}, evL f xs = some vs → VsRel ρ vs (xs.map a.eval)
  | [], vs, hv => by simp [evL] at hv; subst hv; trivial
  | x :: xs, vs, hv => by
    simp only [evL] at hv
    cases h1 : evO f x with
    | none => simp [h1] at hv
    | some v => cases h2 : evL f xs with
      | none => simp [h1, h2] at hv
      | some ws => simp [h1, h2] at hv; subst hv; exact ⟨evO_rel h h1, evL_rel h h2⟩

theorem partsL_rel {ρ : Rho} {f : Fr} {a : Act} (h : FRel ρ f a) : ∀ {xs : List (Nat × Operand)} {vs : List (Nat × Value)}, partsL f xs = some vs → LRel (fun (p q : Nat × Value) => p.1 = q.1 ∧ VRel ρ p.2 q.2) vs (xs.map fun (i, x) => (i, a.eval x))
  | [], vs, hv => by simp [partsL] at hv; subst hv; trivial
  | (i, x) :: xs, vs, hv => by
    simp only [partsL] at hv
    cases h1 : evO f x with
    | none => simp [h1] at hv
    | some v => cases h2 : partsL f xs with
      | none => simp [h1, h2] at hv
      | some ws => simp [h1, h2] at hv; subst hv; exact ⟨⟨rfl, evO_rel h h1⟩, partsL_rel h h2⟩

/-! ### memory -/
def ownB (H : AHeap) (b : Nat) : Prop :=
  match H.get b with
  | some (.cells _ _ true) => True
  | some (.map _) => True
  | some (.iter _ _) => True
  | _ => False

def CellsRel (ρ : Rho) (w : World) (c k : Nat) (cs : List Value) : Prop := ∀ i v, cs[i]? = some v → ∃ v', w.cell? ⟨c, k + i, none⟩ = some v' ∧ VRel ρ v v'

/-- A variable's row is of its type. -/
def szOf (esz : Nat) : Nat := esz % 1073741824
def tyOf (esz : Nat) : Nat := esz / 1073741824 - 1
theorem szOf_rowV {t s : Nat} (h : s < 1073741824) : szOf (rowV t s) = s := by
  show (1073741824 * (t + 1) + s) % 1073741824 = s
  rw [Nat.mul_add_mod, Nat.mod_eq_of_lt h]
theorem tyOf_rowV {t s : Nat} (h : s < 1073741824) : tyOf (rowV t s) = t := by
  show (1073741824 * (t + 1) + s) / 1073741824 - 1 = t
  rw [Nat.mul_add_div (by decide), Nat.div_eq_of_lt h]; rfl
def typedRel (w : World) (c k n esz : Nat) : Prop := 1073741824 ≤ esz → ∃ cs ty fr, w.heap[c]? = some (.cells cs ty fr) ∧ (szOf esz ≠ 1073741823 → ty = tyOf esz) ∧ (szOf esz = 1073741823 → fr = (0, 0)) ∧ (szOf esz = 0 → k = 0 ∧ cs.size = n ∧ fr = (0, 0))
theorem typedRel.none {w : World} {c k n esz : Nat} (h : esz < 1073741824) : typedRel w c k n esz := fun h' => absurd h' (by omega)

def ObjRel (ρ : Rho) (base : Nat) (w : World) (b : Nat) : AObj → Prop
  | .dead => True
  | .globs n => ∀ g, g < n → PRel ρ (g + 1) 0 ⟨g, 0, none⟩
  | .iter s pos => match ρ b with
    | .live c k _ => base ≤ c ∧ k = 0 ∧ w.heap[c]? = some (.stringIter s pos)
    | _ => True
  | .cells cs esz own => match ρ b with
    | .live c k x => CellsRel ρ w c k cs ∧ (own = true → base ≤ c ∧ w.there c k cs.length) ∧ (szOf esz ≠ 0 → w.there c (k + cs.length) (x * szOf esz)) ∧ (szOf esz = 0 → x = 0) ∧ typedRel w c k cs.length esz
    | _ => True
  | .map es => match ρ b with
    | .live c _ _ => base ≤ c ∧ ∃ es' clk, w.heap[c]? = some (.map es' clk) ∧ LRel (fun (e : Value × Value) (e' : MapEntry) => VRel ρ e.1 e'.key ∧ VRel ρ e.2 e'.val) es es'.toList
    | _ => True

structure Sim (ρ : Rho) (base : Nat) (H : AHeap) (w : World) : Prop where
  alive : ∀ b x, ρ b = .gone x → H.get b = none ∨ H.get b = some .dead
  bsz : base ≤ w.heap.size
  inb : ∀ b c k x, ρ b = .live c k x → c < w.heap.size
  obj : ∀ b o, H.get b = some o → ObjRel ρ base w b o
  apart : ∀ b b' c k x k' x', ownB H b → ρ b = .live c k x → ρ b' = .live c k' x' → b = b'

/-- What a step may have turned. -/
structure Step (ρ : Rho) (H : AHeap) (w : World) (ρ' : Rho) (H' : AHeap) (w' : World) : Prop where
  os : w'.os = w.os
  tape : w'.tape = w.tape
  output : w'.output = w.output
  size : w.heap.size ≤ w'.heap.size
  block : ∀ c, c < w.heap.size → (∀ b k x, ownB H b → ρ b = .live c k x → False) → w'.heap[c]? = w.heap[c]?
  own : ∀ b c k x, ownB H' b → ρ' b = .live c k x → w.heap.size ≤ c ∨ ∃ b0 k0 x0, ownB H b0 ∧ ρ b0 = .live c k0 x0
  keep : ∀ b c k x, ρ b = .live c k x → ¬ ownB H b → ρ' b = .live c k x ∧ ¬ ownB H' b
  src : ∀ b c k x, ρ' b = .live c k x → ρ b = .live c k x ∨ w.heap.size ≤ c ∨ ∃ b0 k0 x0, ownB H b0 ∧ ρ b0 = .live c k0 x0

theorem Step.refl (ρ : Rho) (H : AHeap) (w : World) : Step ρ H w ρ H w := ⟨rfl, rfl, rfl, Nat.le_refl _, fun _ _ _ => rfl, fun b c k x h1 h2 => .inr ⟨b, k, x, h1, h2⟩, fun _ _ _ _ h1 h2 => ⟨h1, h2⟩, fun _ _ _ _ h => .inl h⟩
theorem Step.trans {ρ ρ1 ρ2 : Rho} {H H1 H2 : AHeap} {w w1 w2 : World} (h : Step ρ H w ρ1 H1 w1) (h' : Step ρ1 H1 w1 ρ2 H2 w2) : Step ρ H w ρ2 H2 w2 where
  os := h'.os.trans h.os
  tape := h'.tape.trans h.tape
  output := h'.output.trans h.output
  size := Nat.le_trans h.size h'.size
  block c hc hn := by
    rw [h'.block c (Nat.lt_of_lt_of_le hc h.size) fun b k x ho hl => ?_, h.block c hc hn]
    rcases h.own b c k x ho hl with hge | ⟨b0, k0, x0, h1, h2⟩
    · omega
    · exact hn b0 k0 x0 h1 h2
  own b c k x ho hl := by
    rcases h'.own b c k x ho hl with hge | ⟨b0, k0, x0, h1, h2⟩
    · exact .inl (Nat.le_trans h.size hge)
    · exact h.own b0 c k0 x0 h1 h2
  keep b c k x hl hn := by
    obtain ⟨h1, h2⟩ := h.keep b c k x hl hn
    exact h'.keep b c k x h1 h2
  src b c k x hl := by
    rcases h'.src b c k x hl with h1 | hge | ⟨b0, k0, x0, h1, h2⟩
    · exact h.src b c k x h1
    · exact .inr (.inl (Nat.le_trans h.size hge))
    · exact .inr (h.own b0 c k0 x0 h1 h2)

theorem cell_of_heap {w w' : World} {a : Addr} (h : w'.heap[a.block]? = w.heap[a.block]?) : w'.cell? a = w.cell? a := by unfold World.cell?; rw [h]
theorem frozen_of_heap {w w' : World} {a : Addr} (h : w'.heap[a.block]? = w.heap[a.block]?) : w'.frozen? a = w.frozen? a := by unfold World.frozen?; rw [h]
theorem there_of_heap {w w' : World} {c k n : Nat} (h : w'.heap[c]? = w.heap[c]?) (ht : w.there c k n) : w'.there c k n := fun j hj => by
  rw [cell_of_heap (a := ⟨c, k + j, none⟩) h, frozen_of_heap (a := ⟨c, k + j, none⟩) h]; exact ht j hj

/-- An object whose block the world kept, seen later. -/
theorem ObjRel.keep {n m : Nat} {ρ ρ' : Rho} {base : Nat} {w w' : World} {b : Nat} {o : AObj} (h : ObjRel ρ base w b o) (hm : Mono n m ρ ρ') (hb : ¬ (n ≤ b ∧ b < m))
    (hk : ∀ c k x, ρ b = .live c k x → w'.heap[c]? = w.heap[c]?) : ObjRel ρ' base w' b o := by
  rcases hm.out b hb with e | ⟨_, _, _, _, e⟩
  · cases hr : ρ b with
    | no => cases o <;> first | (simp [ObjRel, e, hr]; done) | exact fun g hg => (h g hg).mono hm
    | gone _ => cases o <;> first | (simp [ObjRel, e, hr]; done) | exact fun g hg => (h g hg).mono hm
    | live c k x =>
      have hh := hk c k x hr
      cases o with
      | dead => trivial
      | globs n => exact fun g hg => (h g hg).mono hm
      | iter s pos =>
        simp only [ObjRel, e, hr] at h ⊢
        exact ⟨h.1, h.2.1, by rw [hh]; exact h.2.2⟩
      | cells cs esz own =>
        simp only [ObjRel, e, hr] at h ⊢
        obtain ⟨h1, h2, h3, h4⟩ := h
        refine ⟨fun i v hv => ?_, fun ho => ⟨(h2 ho).1, there_of_heap hh (h2 ho).2⟩, fun ho => there_of_heap hh (h3 ho), h4.1, fun h => by rw [hh]; exact h4.2 h⟩
        obtain ⟨v', hc, hv'⟩ := h1 i v hv
        exact ⟨v', by rw [cell_of_heap (a := ⟨c, k + i, none⟩) hh]; exact hc, hv'.mono hm⟩
      | map es =>
        simp only [ObjRel, e, hr] at h ⊢
        obtain ⟨h1, es', clk, h2, h3⟩ := h
        exact ⟨h1, es', clk, by rw [hh]; exact h2, LRel.mono (fun _ _ h => ⟨h.1.mono hm, h.2.mono hm⟩) h3⟩
  · cases o <;> first | (simp [ObjRel, e]; done) | exact fun g hg => (h g hg).mono hm


def upd (ρ : Rho) (b : Nat) (s : BS) : Rho := fun c => if c = b then s else ρ c
theorem upd_same (ρ : Rho) (b : Nat) (s : BS) : upd ρ b s b = s := by simp [upd]
theorem upd_ne (ρ : Rho) {b c : Nat} (s : BS) (h : c ≠ b) : upd ρ b s c = ρ c := by simp [upd, h]

structure Ok (ρ : Rho) (base : Nat) (H : AHeap) (w : World) (ρ' : Rho) (H' : AHeap) (w' : World) : Prop where
  mono : Mono H.next H'.next ρ ρ'
  sim : Sim ρ' base H' w'
  step : Step ρ H w ρ' H' w'

theorem Ok.refl {ρ : Rho} {base : Nat} {H : AHeap} {w : World} (h : Sim ρ base H w) : Ok ρ base H w ρ H w := ⟨Mono.refl _ _, h, Step.refl _ _ _⟩

theorem heap_alloc_lt (w : World) (o : Obj) (c : Nat) (h : c < w.heap.size) : (w.alloc o).heap[c]? = w.heap[c]? := Below.heap_alloc w o c h
theorem heap_alloc_eq (w : World) (o : Obj) : (w.alloc o).heap[w.heap.size]? = some o := by
  show (w.heap.push o)[w.heap.size]? = some o
  simp
theorem size_alloc (w : World) (o : Obj) : (w.alloc o).heap.size = w.heap.size + 1 := by
  show (w.heap.push o).size = _
  simp

/-- A new block, at a place that was nothing. -/
theorem sim_new {ρ : Rho} {base : Nat} {H : AHeap} {w : World} {b : Nat} {o : AObj} {O : Obj} {x : Nat} (h : Sim ρ base H w) (hb : ρ b = .no)
    (ho : ObjRel (upd ρ b (.live w.heap.size 0 x)) base (w.alloc O) b o) : Sim (upd ρ b (.live w.heap.size 0 x)) base (H.set b o) (w.alloc O) ∧ Step ρ H w (upd ρ b (.live w.heap.size 0 x)) (H.set b o) (w.alloc O) := by
  have hm : Mono b (b + 1) ρ (upd ρ b (.live w.heap.size 0 x)) := ⟨fun c hc => .inl (upd_ne _ _ (by omega)), fun c h1 h2 => (show c = b by omega) ▸ hb⟩
  have hob : ∀ c, c ≠ b → ownB (H.set b o) c → ownB H c := fun c hc hh => by simpa [ownB, AHeap.get_set, hc] using hh
  refine ⟨⟨?_, ?_, ?_, ?_, ?_⟩, ⟨rfl, rfl, rfl, ?_, ?_, ?_, ?_, ?_⟩⟩
  · intro c y hc
    by_cases e : c = b
    · subst e; rw [upd_same] at hc; cases hc
    · rw [upd_ne _ _ e] at hc; rw [AHeap.get_set, if_neg e]; exact h.alive c y hc
  · rw [size_alloc]; have := h.bsz; omega
  · intro c k1 k2 k3 hc
    rw [size_alloc]
    by_cases e : c = b
    · subst e; rw [upd_same] at hc; cases hc; omega
    · rw [upd_ne _ _ e] at hc; have := h.inb c _ _ _ hc; omega
  · intro c o' hc
    rw [AHeap.get_set] at hc
    split at hc
    · rename_i e; subst e; cases hc; exact ho
    · rename_i e
      exact (h.obj c o' hc).keep hm (by omega) fun q k y hq => heap_alloc_lt _ _ _ (h.inb _ _ _ _ hq)
  · intro c c' q k y k' y' hown h1 h2
    by_cases e : c = b
    · by_cases e' : c' = b
      · rw [e, e']
      · subst e; rw [upd_same] at h1; rw [upd_ne _ _ e'] at h2; cases h1
        have := h.inb _ _ _ _ h2; omega
    · rw [upd_ne _ _ e] at h1
      by_cases e' : c' = b
      · subst e'; rw [upd_same] at h2; cases h2
        have := h.inb _ _ _ _ h1; omega
      · rw [upd_ne _ _ e'] at h2
        exact h.apart c c' q k y k' y' (hob c e hown) h1 h2
  · rw [size_alloc]; omega
  · intro q hq _; exact heap_alloc_lt _ _ _ hq
  · intro c q k y hown hc
    by_cases e : c = b
    · subst e; rw [upd_same] at hc; cases hc; left; omega
    · rw [upd_ne _ _ e] at hc; exact .inr ⟨c, k, y, hob c e hown, hc⟩
  · intro c q k y hl hn
    have e : c ≠ b := fun e => by rw [e, hb] at hl; cases hl
    exact ⟨by rw [upd_ne _ _ e]; exact hl, fun h => hn (hob c e h)⟩
  · intro c q k y hl
    by_cases e : c = b
    · subst e; rw [upd_same] at hl; cases hl; right; left; omega
    · rw [upd_ne _ _ e] at hl; exact .inl hl

/-- A block of one's own is turned in place. -/
theorem sim_set {ρ : Rho} {base : Nat} {H : AHeap} {w w' : World} {b c k x : Nat} {o : AObj} (h : Sim ρ base H w) (hown : ownB H b) (hb : ρ b = .live c k x)
    (hos : w'.os = w.os) (htape : w'.tape = w.tape) (hout : w'.output = w.output) (hsize : w'.heap.size = w.heap.size) (hblock : ∀ q, q ≠ c → w'.heap[q]? = w.heap[q]?)
    (ho : ObjRel ρ base w' b o) : Sim ρ base (H.set b o) w' ∧ Step ρ H w ρ (H.set b o) w' := by
  have hob : ∀ d, ownB (H.set b o) d → ownB H d := fun d hd => by
    by_cases e : d = b
    · subst e; exact hown
    · simpa [ownB, AHeap.get_set, e] using hd
  refine ⟨⟨?_, ?_, ?_, ?_, ?_⟩, ⟨hos, htape, hout, ?_, ?_, ?_, fun d _ _ _ hl hn => ⟨hl, fun h => hn (hob d h)⟩, fun _ _ _ _ hl => .inl hl⟩⟩
  · intro d y hd
    by_cases e : d = b
    · subst e; rw [hb] at hd; cases hd
    · rw [AHeap.get_set, if_neg e]; exact h.alive d y hd
  · rw [hsize]; exact h.bsz
  · intro d k1 k2 k3 hd; rw [hsize]; exact h.inb d _ _ _ hd
  · intro d o' hd
    rw [AHeap.get_set] at hd
    split at hd
    · rename_i e; subst e; cases hd; exact ho
    · rename_i e
      exact (h.obj d o' hd).keep (Mono.refl 0 ρ) (by omega) fun q k y hq => hblock q fun e' => e (h.apart b d c _ _ _ _ hown hb (e' ▸ hq)).symm
  · intro d d' q k1 y k' y' ho1 h1 h2
    exact h.apart d d' q k1 y k' y' (hob d ho1) h1 h2
  · rw [hsize]; exact Nat.le_refl _
  · intro q hq hn
    refine hblock q fun e => ?_
    subst e
    exact hn b k x hown hb
  · intro d q k1 y ho1 h1; exact .inr ⟨d, k1, y, hob d ho1, h1⟩

/-- A block goes. -/
theorem sim_kill {ρ : Rho} {base : Nat} {H : AHeap} {w : World} {b c k x : Nat} (h : Sim ρ base H w) (hown : ownB H b) (hb : ρ b = .live c k x) :
    Sim (upd ρ b (.gone x)) base (H.set b .dead) w ∧ Step ρ H w (upd ρ b (.gone x)) (H.set b .dead) w ∧ Mono H.next H.next ρ (upd ρ b (.gone x)) := by
  have hm : Mono H.next H.next ρ (upd ρ b (.gone x)) := ⟨fun d _ => by
    by_cases e : d = b
    · subst e; exact .inr ⟨c, k, x, hb, upd_same _ _ _⟩
    · exact .inl (upd_ne _ _ e), fun d h1 h2 => by omega⟩
  have hob : ∀ d, ownB (H.set b .dead) d → d ≠ b ∧ ownB H d := fun d hd => by
    by_cases e : d = b
    · subst e; simp [ownB, AHeap.get_set] at hd
    · exact ⟨e, by simpa [ownB, AHeap.get_set, e] using hd⟩
  refine ⟨⟨?_, h.bsz, ?_, ?_, ?_⟩, ⟨rfl, rfl, rfl, Nat.le_refl _, fun _ _ _ => rfl, ?_, ?_, ?_⟩, hm⟩
  · intro d y hd
    by_cases e : d = b
    · subst e; right; simp [AHeap.get_set]
    · rw [upd_ne _ _ e] at hd; rw [AHeap.get_set, if_neg e]; exact h.alive d y hd
  · intro d k1 k2 k3 hd
    by_cases e : d = b
    · subst e; rw [upd_same] at hd; cases hd
    · rw [upd_ne _ _ e] at hd; exact h.inb d _ _ _ hd
  · intro d o' hd
    rw [AHeap.get_set] at hd
    split at hd
    · cases hd; trivial
    · exact (h.obj d o' hd).keep hm (by omega) fun _ _ _ _ => rfl
  · intro d d' q k1 y k' y' ho1 h1 h2
    obtain ⟨e, ho2⟩ := hob d ho1
    rw [upd_ne _ _ e] at h1
    by_cases e' : d' = b
    · subst e'; rw [upd_same] at h2; cases h2
    · rw [upd_ne _ _ e'] at h2; exact h.apart d d' q k1 y k' y' ho2 h1 h2
  · intro d q k1 y ho1 h1
    obtain ⟨e, ho2⟩ := hob d ho1
    rw [upd_ne _ _ e] at h1
    exact .inr ⟨d, k1, y, ho2, h1⟩
  · intro d q k1 y hl hn
    have e : d ≠ b := fun e => hn (e ▸ hown)
    exact ⟨by rw [upd_ne _ _ e]; exact hl, fun h => hn (hob d h).2⟩
  · intro d q k1 y hl
    by_cases e : d = b
    · subst e; rw [upd_same] at hl; cases hl
    · rw [upd_ne _ _ e] at hl; exact .inl hl
end Go.AX
