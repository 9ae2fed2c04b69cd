/- Regions whose order is drawn: by sight, and the chain of memories. -/
import Derived.Test.YtgbclgkadlfejaaAxDraw2
namespace Go.AX
open Go Go.RowKit
set_option linter.unusedVariables false
set_option linter.unusedSimpArgs false

variable {P : Program}

/-! ### by sight -/
theorem rowOk_get {ops : Array Oper} {b : Array Nat} {j : Nat} {oj : Oper} : ∀ {l : List Oper} {i : Nat}, rowOk P ops b j oj l i = true → ∀ k oi, l[k]? = some oi → i + k < j → pairOk P ops b (i + k) j oi oj = true
  | [], i, _, k, oi, h, _ => by simp at h
  | o :: r, i, h, k, oi, hk, hj => by
    simp only [rowOk, Bool.and_eq_true] at h
    cases k with
    | zero => simp at hk; subst hk; simpa [show i < j by omega] using h.1
    | succ k => have := rowOk_get h.2 k oi (by simpa using hk) (by omega); rwa [show i + 1 + k = i + (k + 1) by omega] at this
theorem rowsOk_get {ops : Array Oper} {b : Array Nat} : ∀ {l : List Oper} {j : Nat}, rowsOk P ops b l j = true → ∀ k oj, l[k]? = some oj → rowOk P ops b (j + k) oj ops.toList 0 = true ∧ ∀ e ∈ oj.after, Region.binds .any e = true → e.on < j + k
  | [], j, _, k, oj, h => by simp at h
  | o :: r, j, h, k, oj, hk => by
    simp only [rowsOk, Bool.and_eq_true] at h
    cases k with
    | zero =>
      simp at hk; subst hk
      refine ⟨h.1.1, fun e he hb => ?_⟩
      have := List.all_eq_true.1 h.1.2 e (by simpa using he)
      simp only [hb, Bool.not_true, Bool.false_or] at this
      simpa [Nat.blt_eq] using this
    | succ k =>
      have := rowsOk_get h.2 k oj (by simpa using hk)
      rwa [show j + 1 + k = j + (k + 1) by omega] at this

def calcB (acc : Array Nat) (o : Oper) : Nat := o.after.foldl (fun s e => if Region.binds .any e then s ||| 2 ^ e.on ||| acc.getD e.on 0 else s) 0

theorem calc_spec (acc : Array Nat) (i : Nat) : ∀ (l : List Edge) (s : Nat), (l.foldl (fun s e => if Region.binds .any e then s ||| 2 ^ e.on ||| acc.getD e.on 0 else s) s).testBit i = true →
    s.testBit i = true ∨ ∃ e ∈ l, Region.binds .any e = true ∧ (e.on = i ∨ (acc.getD e.on 0).testBit i = true)
  | [], s, h => .inl h
  | e :: r, s, h => by
    simp only [List.foldl_cons] at h
    rcases calc_spec acc i r _ h with h1 | ⟨e', he', h1⟩
    · split at h1
      · rename_i hb
        rw [Nat.testBit_or, Nat.testBit_or, Bool.or_eq_true, Bool.or_eq_true, Nat.testBit_two_pow] at h1
        rcases h1 with (h1 | h1) | h1
        · exact .inl h1
        · exact .inr ⟨e, by simp, hb, .inl (by simpa using h1)⟩
        · exact .inr ⟨e, by simp, hb, .inr h1⟩
      · exact .inl h1
    · exact .inr ⟨e', by simp [he'], h1⟩

theorem before_fold : ∀ (l : List Oper) (acc : Array Nat), (∀ (j : Nat) (x : Nat), acc[j]? = some x → (l.foldl (fun acc o => acc.push (calcB acc o)) acc)[j]? = some x) ∧
    ∀ (k : Nat) (o : Oper), l[k]? = some o → ∃ acc' : Array Nat, acc'.size = acc.size + k ∧ (∀ (j : Nat) (x : Nat), acc'[j]? = some x → (l.foldl (fun acc o => acc.push (calcB acc o)) acc)[j]? = some x) ∧ (l.foldl (fun acc o => acc.push (calcB acc o)) acc)[acc.size + k]? = some (calcB acc' o)
  | [], acc => ⟨fun _ _ h => h, fun k o h => by simp at h⟩
  | o :: r, acc => by
    obtain ⟨h1, h2⟩ := before_fold r (acc.push (calcB acc o))
    have hpre : ∀ (j : Nat) (x : Nat), acc[j]? = some x → (r.foldl (fun acc o => acc.push (calcB acc o)) (acc.push (calcB acc o)))[j]? = some x := fun j x hx => h1 j x (by
      have hj : j < acc.size := (Array.getElem?_eq_some_iff.1 hx).1
      rw [Array.getElem?_push, if_neg (by omega)]; exact hx)
    refine ⟨hpre, fun k o' hk => ?_⟩
    cases k with
    | zero =>
      simp at hk; subst hk
      exact ⟨acc, rfl, hpre, h1 _ _ (by simp)⟩
    | succ k =>
      obtain ⟨acc', q1, q2, q3⟩ := h2 k o' (by simpa using hk)
      refine ⟨acc', by simp at q1; omega, q2, ?_⟩
      simp only [Array.size_push] at q3
      rw [show acc.size + (k + 1) = acc.size + 1 + k by omega]; exact q3

theorem before_spec {ops : Array Oper} {j i : Nat} {o : Oper} (ho : ops[j]? = some o) (h : ((Region.before ops).getD j 0).testBit i = true) : ∃ e ∈ o.after, Region.binds .any e = true ∧ (e.on = i ∨ ((Region.before ops).getD e.on 0).testBit i = true) := by
  have hb : Region.before ops = ops.toList.foldl (fun acc o => acc.push (calcB acc o)) #[] := by
    unfold Region.before
    rw [← Array.foldl_toList]; rfl
  obtain ⟨acc', q1, q2, q3⟩ := (before_fold ops.toList #[]).2 j o (by simpa using ho)
  rw [hb] at h ⊢
  simp only [List.size_toArray, List.length_nil, Nat.zero_add] at q3
  rw [Array.getD_eq_getD_getElem?, q3] at h
  simp only [Option.getD_some, calcB] at h
  rw [← Array.foldl_toList] at h
  rcases calc_spec acc' i o.after.toList 0 h with h1 | ⟨e, he, h1, h2⟩
  · simp at h1
  · refine ⟨e, by simpa using he, h1, h2.imp id fun h3 => ?_⟩
    rw [Array.getD_eq_getD_getElem?] at h3 ⊢
    cases hx : acc'[e.on]? with
    | none => rw [hx] at h3; simp at h3
    | some x => rw [q2 _ _ hx]; rw [hx] at h3; exact h3

/-- What is listed holds what must come ahead of it. -/
def Down (ops : Array Oper) (L : Nat → Prop) : Prop := ∀ i o, ops[i]? = some o → L i → ∀ e ∈ o.after, Region.binds .any e = true → L e.on

theorem before_listed {ops : Array Oper} {L : Nat → Prop} (hd : Down ops L) (hback : ∀ (j : Nat) o, ops[j]? = some o → ∀ e ∈ o.after, Region.binds .any e = true → e.on < j) :
    ∀ (m j : Nat), j ≤ m → ∀ o i, ops[j]? = some o → (∀ e ∈ o.after, Region.binds .any e = true → L e.on) → ((Region.before ops).getD j 0).testBit i = true → L i := by
  intro m
  induction m with
  | zero =>
    intro j hj o i ho hl hb
    obtain ⟨e, he, h1, h2⟩ := before_spec ho hb
    have := hback j o ho e he h1; omega
  | succ m ih =>
    intro j hj o i ho hl hb
    obtain ⟨e, he, h1, h2⟩ := before_spec ho hb
    have hlt := hback j o ho e he h1
    have hle := hl e he h1
    rcases h2 with h2 | h2
    · exact h2 ▸ hle
    · have hjs : j < ops.size := (Array.getElem?_eq_some_iff.1 ho).1
      have ho' : ops[e.on]? = some (ops[e.on]'(by omega)) := Array.getElem?_eq_getElem (by omega)
      exact ih e.on (by omega) _ i ho' (hd e.on _ ho' hle) h2

theorem mem_tmpsOf {t : Nat} : ∀ {l : List Operand}, .tmp t ∈ l → t ∈ tmpsOf l
  | x :: r, h => by
    simp only [List.mem_cons] at h
    rcases h with h | h
    · subst h; simp [tmpsOf]
    · cases x <;> simp only [tmpsOf] <;> first | exact mem_tmpsOf h | exact List.mem_cons_of_mem _ (mem_tmpsOf h)

theorem evO_of_get {f g : Fr} (hgl : f.glob = g.glob) {l : List Operand} (h : ∀ t ∈ tmpsOf l, f.get t = g.get t) : ∀ x ∈ l, evO f x = evO g x := fun x hx => by
  cases x with
  | tmp t => simp only [evO]; rw [h t (mem_tmpsOf hx)]
  | const v => rfl
  | global q => simp only [evO, hgl]
  | func g => rfl

theorem wanted_congr {ops : Array Oper} {o : Oper} {f g : Fr} (h : ∀ t ∈ readsOf ops o, f.get t = g.get t) : wantedA ops o f = wantedA ops o g := by
  unfold wantedA
  cases hg : o.guard with
  | none => rfl
  | some jw =>
    obtain ⟨j, want⟩ := jw
    cases hd : (ops[j]?).bind (·.dst) with
    | none => simp only [hd]
    | some d =>
      have : d ∈ readsOf ops o := by simp [readsOf, hg, hd]
      simp only [hd, h d this]

/-! ### a chain of memories -/
theorem cellsAt_congr {F G : AHeap} {b : Nat} (h : F.get b = G.get b) (o n : Nat) : cellsAt F b o n = cellsAt G b o n := by simp [cellsAt, h]

theorem sameV_sound : ∀ (n : Nat), (∀ v u, sameV n v u = true → v = u) ∧ ∀ l r, sameL n l r = true → l = r := by
  intro n
  induction n with
  | zero => exact ⟨fun v u h => by simp [sameV] at h, fun l r h => by simp [sameL] at h⟩
  | succ n ih =>
    constructor
    · intro v u h
      cases v <;> cases u <;> simp only [sameV, Bool.and_eq_true, decide_eq_true_eq, beq_iff_eq, Bool.false_eq_true] at h
      case bool.bool => rw [h]
      case int.int => rw [h.1, h.2]
      case string.string a b =>
        obtain ⟨a⟩ := a; obtain ⟨b⟩ := b
        rw [show a = b from Array.ext' h]
      case pointer.pointer => rw [h]
      case slice.slice => rw [h.1.1, Nat.eq_of_beq_eq_true h.1.2, Nat.eq_of_beq_eq_true h.2]
      case map.map => rw [h]
      case iface.iface => rw [Nat.eq_of_beq_eq_true h.1, ih.1 _ _ h.2]
      case func.func => rw [h.1.1, show _ = _ from Array.ext' (ih.2 _ _ h.1.2), show _ = _ from Array.ext' (ih.2 _ _ h.2)]
      case tuple.tuple => rw [show _ = _ from Array.ext' (ih.2 _ _ h)]
      all_goals rfl
    · intro l r h
      cases l <;> cases r <;> simp only [sameL, Bool.and_eq_true, Bool.false_eq_true] at h
      · rfl
      · rw [ih.1 _ _ h.1, ih.2 _ _ h.2]
theorem sameO_sound {a b : Option (List Value)} (h : sameO a b = true) : a = b := by
  unfold sameO at h
  split at h
  · rw [(sameV_sound _).2 _ _ h]
  · cases h
theorem sameObj_sound {a b : Option AObj} (h : sameObj a b = true) : a = b := by
  unfold sameObj at h
  split at h
  · simp only [Bool.and_eq_true, beq_iff_eq] at h
    rw [(sameV_sound _).2 _ _ h.1.1, Nat.eq_of_beq_eq_true h.1.2, h.2]
  · rfl
  · cases h
end Go.AX
