/- The functions of Go's library that are known by their answers: what the library's contracts say of them, in the executor's words. -/
import Derived.Test.YtgbclgkadlfejaaDoorAxExec
import Derived.Shelf.Strings.OnBuilder
import Derived.Shelf.Strings.Repeat
import Derived.Shelf.Strings.Count
import Derived.Shelf.Strings.Search2
namespace Go.AX
open Go Go.RowKit Go.Proofs Go.Shelf
set_option linter.unusedVariables false
variable {P : Program}

/-- What PrimOk asks of one function. -/
def PrimFor (P : Program) (g : FuncId) (p : Prim) : Prop := ∀ args H v, primA p args H = some v → ∀ ρ base w (args' : Array Value), Sim ρ base H w → VsRel ρ args args'.toList → Calls P g args' w fun e w' => ∃ v', e = .returned v' ∧ VRel ρ v v' ∧ Below w.heap.size w w'

theorem text_one {t : ByteArray} {c : UInt8} (h : t.data.toList = [c]) : t = ⟨#[c]⟩ := by
  obtain ⟨⟨l⟩⟩ := t
  simp at h; subst h; rfl

theorem count_for {r : Ren} (L : Lays.n138 P r) : PrimFor P (r.f 138) .count := by
  intro args H v h ρ base w args' hs ha
  obtain ⟨args'⟩ := args'
  rcases args with _ | ⟨a, _ | ⟨b, _ | ⟨c, q⟩⟩⟩ <;> try (simp [primA] at h; done)
  cases a <;> try (simp [primA] at h; done)
  cases b <;> try (simp [primA] at h; done)
  rename_i s t
  match args', ha with
  | [y, z], ha =>
    obtain ⟨hy, hz, -⟩ := ha
    cases hy; cases hz
    simp only [primA] at h
    split at h
    · rename_i c hc
      simp only [Option.some.injEq] at h
      subst h
      rw [text_one hc]
      refine (Any.strings_Count_one L s c w).mono ?_
      rintro e w' ⟨rfl, rfl⟩
      exact ⟨_, rfl, .int _ _, Below.refl _ _⟩
    · cases h
theorem index_for {r : Ren} (L : Lays.n219 P r) : PrimFor P (r.f 219) .index := by
  intro args H v h ρ base w args' hs ha
  obtain ⟨args'⟩ := args'
  rcases args with _ | ⟨a, _ | ⟨b, _ | ⟨c, q⟩⟩⟩ <;> try (simp [primA] at h; done)
  cases a <;> try (simp [primA] at h; done)
  cases b <;> try (simp [primA] at h; done)
  rename_i s t
  match args', ha with
  | [y, z], ha =>
    obtain ⟨hy, hz, -⟩ := ha
    cases hy; cases hz
    simp only [primA] at h
    split at h
    · rename_i c hc
      simp only [Option.some.injEq] at h
      subst h
      rw [text_one hc]
      refine (Any.stringslite_Index_one L s c w).mono ?_
      rintro e w' ⟨rfl, rfl⟩
      exact ⟨_, rfl, .int _ _, Below.refl _ _⟩
    · cases h
theorem textsL_get : ∀ {l : List Value} {u : List ByteArray}, textsL l = some u → l.length = u.length ∧ ∀ (j : Nat) (x : ByteArray), u[j]? = some x → l[j]? = some (Value.string x)
  | [], u, h => by simp only [textsL, Option.some.injEq] at h; subst h; exact ⟨rfl, fun j x hx => by simp at hx⟩
  | v :: r, u, h => by
    unfold textsL at h
    split at h
    · rename_i heq; cases heq
    · rename_i s r' heq
      cases heq
      split at h
      · rename_i l hl
        simp only [Option.some.injEq] at h
        subst h
        obtain ⟨h1, h2⟩ := textsL_get hl
        refine ⟨by simp [h1], fun j x hx => ?_⟩
        cases j with
        | zero => simpa using hx
        | succ j => simp only [List.getElem?_cons_succ] at hx ⊢; exact h2 j x hx
      · cases h
    · cases h
theorem join_for {r : Ren} (L : Lays.n156 P r) (X : Builder.Extra P r) : PrimFor P (r.f 156) .join := by
  intro args H v h ρ base w args' hs ha
  obtain ⟨args'⟩ := args'
  rcases args with _ | ⟨a, _ | ⟨b, _ | ⟨c, q⟩⟩⟩ <;> try (simp [primA] at h; done)
  cases a <;> try (simp [primA] at h; done)
  cases b <;> try (simp [primA] at h; done)
  rename_i ad n c sep
  match args', ha with
  | [y, z], ha =>
    obtain ⟨hy, hz, -⟩ := ha
    cases hz
    obtain ⟨ad', c', rfl⟩ : ∃ ad' c', y = .slice ad' n c' := by cases hy <;> exact ⟨_, _, rfl⟩
    simp only [primA] at h
    cases hn : Nat.beq n 0 with
    | true =>
      have : n = 0 := Nat.eq_of_beq_eq_true hn
      subst this
      simp only [hn, cond_true, Option.some.injEq] at h
      subst h
      refine (Any.strings_Join_none L X ad' c' sep w).mono ?_
      rintro e w' ⟨rfl, rfl⟩
      exact ⟨_, rfl, .string _, Below.refl _ _⟩
    | false =>
      have hn0 : n ≠ 0 := fun e => by rw [e] at hn; cases hn
      simp only [hn, cond_false] at h
      split at h
      · rename_i b o s
        cases hc : (Nat.ble n c && Nat.ble n 140737488355328) with
        | false => simp [hc] at h
        | true =>
          simp only [hc, cond_true] at h
          simp only [Bool.and_eq_true] at hc
          have c1 : n ≤ c := Nat.le_of_ble_eq_true hc.1
          have c2 : n ≤ 140737488355328 := Nat.le_of_ble_eq_true hc.2
          split at h
          · rename_i cs hca
            split at h
            · rename_i xs hx
              cases hl : Nat.ble (Lib.join (xs.map (·.data.toList)) sep.data.toList).length 140737488355328 with
              | false => simp [hl] at h
              | true =>
                simp only [hl, cond_true, Option.some.injEq] at h
                subst h
                have hl' := Nat.le_of_ble_eq_true hl
                cases hy with
                | @slice _ _ _ _ _ a' _ hsr =>
                have hcc : c ≤ c' := by
                  cases hr : ρ b with
                  | no => simp [SRel, hr] at hsr
                  | gone x => simp only [SRel, hr] at hsr; omega
                  | live d k x => simp only [SRel, hr] at hsr; omega
                obtain ⟨ds, bk, k, x, q1, rfl, q3, q4⟩ := cells_there hs hca (slice_addr hsr (by omega))
                obtain ⟨t1, t2⟩ := textsL_get hx
                have hcl : cs.length = n := (cellsAt_get hca).choose_spec.choose_spec.choose_spec.2.1
                have hcell : ∀ (j : Nat) x, xs[j]? = some x → w.cell? ⟨bk, k + o + j, none⟩ = some (.string x) := fun j x hx => by
                  obtain ⟨v', r1, r2⟩ := q3.get j _ (t2 j x hx)
                  cases r2
                  exact q4 j _ r1
                by_cases h1 : n = 1
                · match xs, t1 with
                  | [x1], _ =>
                    subst h1
                    refine (Any.strings_Join_one L X bk (k + o) c' x1 sep w (by simpa using hcell 0 x1 rfl)).mono ?_
                    rintro e w' ⟨rfl, rfl⟩
                    refine ⟨_, rfl, ?_, Below.refl _ _⟩
                    simp only [List.map_cons, List.map_nil, Lib.join_one]
                    exact .string _
                  | [], t1 => have t1' : cs.length = 0 := t1; omega
                  | _ :: _ :: q, t1 => have t1' : cs.length = q.length + 1 + 1 := t1; omega
                · have hxl : xs.length = n := by omega
                  have hJ := Any.strings_Join_many L X bk (k + o) c' xs sep w hcell (hs.inb _ _ _ _ q1) (by omega) (by omega) (by omega) hl'
                  rw [hxl] at hJ
                  refine hJ.mono ?_
                  rintro e w' ⟨rfl, hb⟩
                  exact ⟨_, rfl, .string _, hb⟩
            · cases h
          · cases h
      · cases h
theorem rep_for {r : Ren} (L : Lays.n105 P r) (X : Builder.Extra P r) : PrimFor P (r.f 105) .rep := by
  intro args H v h ρ base w args' hs ha
  obtain ⟨args'⟩ := args'
  rcases args with _ | ⟨a, _ | ⟨b, _ | ⟨c, q⟩⟩⟩ <;> try (simp [primA] at h; done)
  cases a <;> try (simp [primA] at h; done)
  cases b <;> try (simp [primA] at h; done)
  rename_i s k i
  cases k <;> try (simp [primA] at h; done)
  cases i <;> try (simp [primA] at h; done)
  rename_i c
  match args', ha with
  | [y, z], ha =>
    obtain ⟨hy, hz, -⟩ := ha
    cases hy; cases hz
    simp only [primA] at h
    cases h0 : Nat.beq c 0 with
    | true =>
      have : c = 0 := Nat.eq_of_beq_eq_true h0
      subst this
      simp only [h0, cond_true, Option.some.injEq] at h
      subst h
      refine (Any.strings_Repeat_zero L s w).mono ?_
      rintro e w' ⟨rfl, rfl⟩
      exact ⟨_, rfl, .string _, Below.refl _ _⟩
    | false =>
      simp only [h0, cond_false] at h
      cases h1 : Nat.beq c 1 with
      | true =>
        have : c = 1 := Nat.eq_of_beq_eq_true h1
        subst this
        simp only [h1, cond_true, Option.some.injEq] at h
        subst h
        refine (Any.strings_Repeat_one L s w).mono ?_
        rintro e w' ⟨rfl, rfl⟩
        exact ⟨_, rfl, .string _, Below.refl _ _⟩
      | false =>
        simp only [h1, cond_false] at h
        cases hc : (Nat.ble c 9223372036854775807 && Nat.ble (s.size * c) 140737488355328 && Nat.ble 1 s.size) with
        | false => simp [hc] at h
        | true =>
          simp only [hc, cond_true, Option.some.injEq] at h
          subst h
          simp only [Bool.and_eq_true] at hc
          have n0 : c ≠ 0 := fun e => by rw [e] at h0; cases h0
          have n1 : c ≠ 1 := fun e => by rw [e] at h1; cases h1
          refine (Any.strings_Repeat_main L X s c w (by omega) (Nat.le_of_ble_eq_true hc.1.1) (Nat.le_of_ble_eq_true hc.1.2) (Nat.le_of_ble_eq_true hc.2)).mono ?_
          rintro e w' ⟨rfl, hb⟩
          exact ⟨_, rfl, .string _, hb⟩
end Go.AX
