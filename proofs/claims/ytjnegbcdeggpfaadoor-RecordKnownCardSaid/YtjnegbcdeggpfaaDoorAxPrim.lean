/- The functions of Go's library that are known by their answers: what the library's contracts say of them, in the executor's words. -/
import Derived.Test.YtjnegbcdeggpfaaDoorAxExec
import Derived.Shelf.Strings.OnBuilder
import Derived.Shelf.Strings.Count
import Derived.Shelf.Strings.Search2
import Derived.Shelf.Strconv.Atoi
import Derived.Shelf.Spec.BitsCarry
import Derived.Lib.ConvBytes
namespace Go.AX
open Go Go.RowKit Go.Proofs Go.Shelf
set_option linter.unusedVariables false
variable {P : Program}

/-- What PrimOk asks of one function. -/
def PrimFor (P : Program) (g : FuncId) (p : Prim) : Prop := ∀ args H v H', primA P p args H = some (v, H') → Wf H → ∀ ρ base w (args' : Array Value), Sim ρ base H w → VsRel ρ args args'.toList → Calls P g args' w (Ends ρ base H w H' (.ret v))
/-- One that turns no memory. -/
theorem prim_still {g : FuncId} {p : Prim} (h : ∀ args H v H', primA P p args H = some (v, H') → ∀ ρ base w (args' : Array Value), Sim ρ base H w → VsRel ρ args args'.toList → H = H' ∧ Calls P g args' w fun e w' => ∃ v', e = .returned v' ∧ VRel ρ v v' ∧ Below w.heap.size w w') : PrimFor P g p := by
  intro args H v H' hv _ ρ base w args' hs ha
  obtain ⟨rfl, hc⟩ := h args H v H' hv ρ base w args' hs ha
  refine hc.mono ?_
  rintro e w' ⟨v', rfl, hr, hb⟩
  exact ⟨ρ, below_ok hs hb, hr⟩

theorem text_one {t : ByteArray} {c : UInt8} (h : t.data.toList = [c]) : t = ⟨#[c]⟩ := by
  obtain ⟨⟨l⟩⟩ := t
  simp at h; subst h; rfl

theorem count_for {r : Ren} (L : Lays.n138 P r) : PrimFor P (r.f 138) .count := by
  refine prim_still fun args H v H' h ρ base w args' hs ha => ?_
  obtain ⟨args'⟩ := args'
  rcases args with _ | ⟨a, _ | ⟨b, _ | ⟨c, q⟩⟩⟩ <;> try (simp [primA] at h; done)
  cases a <;> try (simp [primA] at h; done)
  cases b <;> try (simp [primA] at h; done)
  rename_i s t
  match args', ha with
  | [y, z], ha =>
    obtain ⟨hy, hz, -⟩ := ha
    cases hy; cases hz
    simp only [primA] at h
    split at h
    · rename_i c hc
      simp only [Option.some.injEq, Prod.mk.injEq] at h
      obtain ⟨rfl, rfl⟩ := h
      refine ⟨rfl, ?_⟩
      rw [text_one hc]
      refine (Any.strings_Count_one L s c w).mono ?_
      rintro e w' ⟨rfl, rfl⟩
      exact ⟨_, rfl, .int _ _, Below.refl _ _⟩
    · cases h
theorem index_for {r : Ren} (L : Lays.n219 P r) : PrimFor P (r.f 219) .index := by
  refine prim_still fun args H v H' h ρ base w args' hs ha => ?_
  obtain ⟨args'⟩ := args'
  rcases args with _ | ⟨a, _ | ⟨b, _ | ⟨c, q⟩⟩⟩ <;> try (simp [primA] at h; done)
  cases a <;> try (simp [primA] at h; done)
  cases b <;> try (simp [primA] at h; done)
  rename_i s t
  match args', ha with
  | [y, z], ha =>
    obtain ⟨hy, hz, -⟩ := ha
    cases hy; cases hz
    simp only [primA] at h
    split at h
    · rename_i c hc
      simp only [Option.some.injEq, Prod.mk.injEq] at h
      obtain ⟨rfl, rfl⟩ := h
      refine ⟨rfl, ?_⟩
      rw [text_one hc]
      refine (Any.stringslite_Index_one L s c w).mono ?_
      rintro e w' ⟨rfl, rfl⟩
      exact ⟨_, rfl, .int _ _, Below.refl _ _⟩
    · cases h
theorem textsL_get : ∀ {l : List Value} {u : List ByteArray}, textsL l = some u → l.length = u.length ∧ ∀ (j : Nat) (x : ByteArray), u[j]? = some x → l[j]? = some (Value.string x)
  | [], u, h => by simp only [textsL, Option.some.injEq] at h; subst h; exact ⟨rfl, fun j x hx => by simp at hx⟩
  | v :: r, u, h => by
    unfold textsL at h
    split at h
    · rename_i heq; cases heq
    · rename_i s r' heq
      cases heq
      split at h
      · rename_i l hl
        simp only [Option.some.injEq] at h
        subst h
        obtain ⟨h1, h2⟩ := textsL_get hl
        refine ⟨by simp [h1], fun j x hx => ?_⟩
        cases j with
        | zero => simpa using hx
        | succ j => simp only [List.getElem?_cons_succ] at hx ⊢; exact h2 j x hx
      · cases h
    · cases h
theorem join_for {r : Ren} (L : Lays.n156 P r) (X : Builder.Extra P r) : PrimFor P (r.f 156) .join := by
  refine prim_still fun args H v H' h ρ base w args' hs ha => ?_
  obtain ⟨args'⟩ := args'
  rcases args with _ | ⟨a, _ | ⟨b, _ | ⟨c, q⟩⟩⟩ <;> try (simp [primA] at h; done)
  cases a <;> try (simp [primA] at h; done)
  cases b <;> try (simp [primA] at h; done)
  rename_i ad n c sep
  match args', ha with
  | [y, z], ha =>
    obtain ⟨hy, hz, -⟩ := ha
    cases hz
    obtain ⟨ad', c', rfl⟩ : ∃ ad' c', y = .slice ad' n c' := by cases hy <;> exact ⟨_, _, rfl⟩
    simp only [primA] at h
    cases hn : Nat.beq n 0 with
    | true =>
      have : n = 0 := Nat.eq_of_beq_eq_true hn
      subst this
      simp only [hn, cond_true, Option.some.injEq, Prod.mk.injEq] at h
      obtain ⟨rfl, rfl⟩ := h
      refine ⟨rfl, ?_⟩
      refine (Any.strings_Join_none L X ad' c' sep w).mono ?_
      rintro e w' ⟨rfl, rfl⟩
      exact ⟨_, rfl, .string _, Below.refl _ _⟩
    | false =>
      have hn0 : n ≠ 0 := fun e => by rw [e] at hn; cases hn
      simp only [hn, cond_false] at h
      split at h
      · rename_i b o s
        cases hc : (Nat.ble n c && Nat.ble n 140737488355328) with
        | false => simp [hc] at h
        | true =>
          simp only [hc, cond_true] at h
          simp only [Bool.and_eq_true] at hc
          have c1 : n ≤ c := Nat.le_of_ble_eq_true hc.1
          have c2 : n ≤ 140737488355328 := Nat.le_of_ble_eq_true hc.2
          split at h
          · rename_i cs hca
            split at h
            · rename_i xs hx
              cases hl : Nat.ble (Lib.join (xs.map (·.data.toList)) sep.data.toList).length 140737488355328 with
              | false => simp [hl] at h
              | true =>
                simp only [hl, cond_true, Option.some.injEq, Prod.mk.injEq] at h
                obtain ⟨rfl, rfl⟩ := h
                refine ⟨rfl, ?_⟩
                have hl' := Nat.le_of_ble_eq_true hl
                cases hy with
                | @slice _ _ _ _ _ a' _ hsr =>
                have hcc : c ≤ c' := by
                  cases hr : ρ b with
                  | no => simp [SRel, hr] at hsr
                  | gone x => simp only [SRel, hr] at hsr; omega
                  | live d k x => simp only [SRel, hr] at hsr; omega
                obtain ⟨ds, bk, k, x, q1, rfl, q3, q4⟩ := cells_there hs hca (slice_addr hsr (by omega))
                obtain ⟨t1, t2⟩ := textsL_get hx
                have hcl : cs.length = n := (cellsAt_get hca).choose_spec.choose_spec.choose_spec.2.1
                have hcell : ∀ (j : Nat) x, xs[j]? = some x → w.cell? ⟨bk, k + o + j, none⟩ = some (.string x) := fun j x hx => by
                  obtain ⟨v', r1, r2⟩ := q3.get j _ (t2 j x hx)
                  cases r2
                  exact q4 j _ r1
                by_cases h1 : n = 1
                · match xs, t1 with
                  | [x1], _ =>
                    subst h1
                    refine (Any.strings_Join_one L X bk (k + o) c' x1 sep w (by simpa using hcell 0 x1 rfl)).mono ?_
                    rintro e w' ⟨rfl, rfl⟩
                    refine ⟨_, rfl, ?_, Below.refl _ _⟩
                    simp only [List.map_cons, List.map_nil, Lib.join_one]
                    exact .string _
                  | [], t1 => have t1' : cs.length = 0 := t1; omega
                  | _ :: _ :: q, t1 => have t1' : cs.length = q.length + 1 + 1 := t1; omega
                · have hxl : xs.length = n := by omega
                  have hJ := Any.strings_Join_many L X bk (k + o) c' xs sep w hcell (hs.inb _ _ _ _ q1) (by omega) (by omega) (by omega) hl'
                  rw [hxl] at hJ
                  refine hJ.mono ?_
                  rintro e w' ⟨rfl, hb⟩
                  exact ⟨_, rfl, .string _, hb⟩
            · cases h
          · cases h
      · cases h
theorem primA_check {pt : TypeId} {args : List Value} {H H' : AHeap} {v : Value} (h : primA P (.check pt) args H = some (v, H')) :
    ∃ b e x esz, args = [.pointer (some ⟨b, 0, none⟩)] ∧ P.underlying pt = some (.pointer e) ∧ esz = typedV e ∧ v = .tuple #[] ∧
      ((H.get b = some (.cells [.pointer none, x] esz true) ∧ H' = H.set b (.cells [.pointer (some ⟨b, 0, none⟩), x] esz true)) ∨ (H.get b = some (.cells [.pointer (some ⟨b, 0, none⟩), x] esz true) ∧ H' = H)) := by
  unfold primA at h
  split at h
  case h_5 pt' b heq =>
    cases heq
    split at h
    · rename_i e hu
      split at h
      · rename_i x esz hg
        cases hb : Nat.beq esz (typedV e) with
        | false => simp [hb] at h
        | true =>
          simp only [hb, cond_true, Option.some.injEq, Prod.mk.injEq] at h
          exact ⟨b, e, x, esz, rfl, hu, Nat.eq_of_beq_eq_true hb, h.1.symm, .inl ⟨hg, h.2.symm⟩⟩
      · rename_i b' x esz hg
        cases hb : (Nat.beq esz (typedV e) && Nat.beq b' b) with
        | false => simp [hb] at h
        | true =>
          simp only [hb, cond_true, Option.some.injEq, Prod.mk.injEq] at h
          simp only [Bool.and_eq_true] at hb
          obtain rfl := Nat.eq_of_beq_eq_true hb.2
          exact ⟨b', e, x, esz, rfl, hu, Nat.eq_of_beq_eq_true hb.1, h.1.symm, .inr ⟨hg, h.2.symm⟩⟩
      · cases h
    · cases h
  case h_9 => cases h
  all_goals (rename_i heq; cases heq)
theorem check_for {r : Ren} (L : Lays.n240 P r) (X : Builder.X72 P r) {pt : TypeId} (ht : P.underlying pt = some (.pointer (r.t 72))) : PrimFor P (r.f 240) (.check pt) := by
  intro args H v H' h hw ρ base w args' hs ha
  obtain ⟨b, e, x, esz, rfl, hu, he, rfl, hcase⟩ := primA_check h
  rw [ht] at hu
  cases hu
  obtain ⟨args'⟩ := args'
  match args', ha with
  | [y], ha =>
  obtain ⟨hy, -⟩ := ha
  cases hy with
  | @ptr _ _ a hp =>
  have hg : ∃ p, H.get b = some (.cells [.pointer p, x] esz true) := by
    rcases hcase with ⟨hg, _⟩ | ⟨hg, _⟩ <;> exact ⟨_, hg⟩
  obtain ⟨p, hg⟩ := hg
  cases hr : ρ b with
  | no => simp [PRel, hr] at hp
  | gone q => rcases hs.alive b q hr with h0 | h0 <;> rw [hg] at h0 <;> cases h0
  | live c k q =>
    simp only [PRel, hr] at hp
    have hob := hs.obj b _ hg
    simp only [ObjRel, hr] at hob
    obtain ⟨h1, h2, -, -, h5⟩ := hob
    have hge : 1073741824 ≤ esz := by rw [he]; exact Nat.le_trans (Nat.le_mul_of_pos_right _ (Nat.succ_pos _)) (Nat.le_add_right _ 0)
    obtain ⟨cs', ty', fr, w1, wt, -, w2⟩ := h5 hge
    have e1 : tyOf esz = r.t 72 := by rw [he]; exact tyOf_rowV (by decide)
    have e2 : szOf esz = 0 := by rw [he]; exact szOf_rowV (by decide)
    obtain ⟨rfl, hsz, -⟩ := w2 e2
    obtain rfl := wt (by rw [e2]; decide)
    rw [e1] at w1
    simp only [Nat.zero_add] at hp
    subst hp
    have hsh : w.shape? c = some (r.t 72, 2) := by
      have : cs'.size = 2 := hsz
      simp [World.shape?, w1, this]
    have hfz : w.frozen? ⟨c, 0, none⟩ = false := ((h2 trivial).2 0 (by simp)).2
    rcases hcase with ⟨hg', rfl⟩ | ⟨hg', rfl⟩
    · rw [hg] at hg'; cases hg'
      obtain ⟨v', hc0, hv'⟩ := h1 0 _ rfl
      cases hv'
      obtain ⟨-, s2, s3⟩ := store_own (P := P) hs hg hr (o := 0) (vs := [.pointer (some ⟨b, 0, none⟩)]) (ws := [.pointer (some ⟨c, 0, none⟩)]) (cs' := [.pointer (some ⟨b, 0, none⟩), x]) rfl ⟨.ptr (by simp [PRel, hr]), trivial⟩ (by simp [Value.oneCell'])
      refine (Any.Builder_copyCheck_fresh L X c w hc0 hsh hfz).mono ?_
      rintro e w' ⟨rfl, rfl⟩
      exact ⟨ρ, ⟨Mono.refl _ _, s2, s3⟩, .tuple rfl (fun i p => by simp at p)⟩
    · rw [hg] at hg'; cases hg'
      obtain ⟨v', hc0, hv'⟩ := h1 0 _ rfl
      cases hv' with
      | @ptr _ _ a' hp' =>
      simp only [PRel, hr, Nat.zero_add] at hp'
      subst hp'
      refine (Any.Builder_copyCheck_used L X c w hc0).mono ?_
      rintro e w' ⟨rfl, rfl⟩
      exact ⟨ρ, Ok.refl hs, .tuple rfl (fun i p => by simp at p)⟩
theorem atoi_for {r : Ren} (L : Lays.n172 P r) : PrimFor P (r.f 172) .atoi := by
  refine prim_still fun args H v H' h ρ base w args' hs ha => ?_
  obtain ⟨args'⟩ := args'
  rcases args with _ | ⟨a, _ | ⟨b, q⟩⟩ <;> try (simp [primA] at h; done)
  cases a <;> try (simp [primA] at h; done)
  rename_i s
  match args', ha with
  | [y], ha =>
    obtain ⟨hy, -⟩ := ha
    cases hy
    simp only [primA] at h
    cases hb : Nat.ble s.size 18 with
    | false => simp [hb] at h
    | true =>
      simp only [hb, cond_true] at h
      cases hn : Lib.atoi s.data.toList with
      | none => simp [hn] at h
      | some n =>
        simp only [hn, Option.some.injEq, Prod.mk.injEq] at h
        obtain ⟨rfl, rfl⟩ := h
        refine ⟨rfl, ?_⟩
        refine (Any.strconv_Atoi L s n (Nat.le_of_ble_eq_true hb) hn w).mono ?_
        rintro e w' ⟨rfl, t, rfl⟩
        exact ⟨_, rfl, VRel.mkTuple (xs := [.int .i64 n, .nilIface]) (ys := [.int .i64 n, .nilIface]) ⟨.int _ _, .nilIface, trivial⟩, ⟨rfl, rfl, rfl, by rw [Lib.bytesWorld_size]; omega, fun k hk => Lib.bytesWorld_at_old w _ t k hk⟩⟩
theorem add64_ext {r : Ren} (L : Lays7.n25 P r) {args : List Value} {H : AHeap} {v : Value} {H' : AHeap} (h : primA P .add64 args H = some (v, H')) : ExtCall P (r.f 25) args H (.ret v) H' := by
  unfold primA at h
  split at h
  case h_7 x y c heq =>
    cases hb : Nat.ble c 1 with
    | false => simp [hb] at h
    | true =>
      simp only [hb, cond_true, Option.some.injEq, Prod.mk.injEq] at h
      obtain ⟨rfl, rfl⟩ := h
      refine ⟨rfl, _, rfl, fun b e => (by cases e), fun ρ args' w ha => ?_⟩
      obtain ⟨args'⟩ := args'
      match args', ha with
      | [y1, y2, y3], ⟨h1, h2, h3, _⟩ =>
        cases h1; cases h2; cases h3
        exact ⟨_, Any7.bits_Add64 L x y c (Nat.le_of_ble_eq_true hb) w, VRel.mkTuple (xs := [.int .u64 (Int.ofNat ((x + y + c) % 18446744073709551616)), .int .u64 (Int.ofNat ((x + y + c) / 18446744073709551616))]) (ys := [.int .u64 (((x + y + c) % 18446744073709551616 : Nat) : Int), .int .u64 (((x + y + c) / 18446744073709551616 : Nat) : Int)]) ⟨.int _ _, .int _ _, trivial⟩⟩
  all_goals first | (cases h; done) | (rename_i heq _; cases heq; done) | (rename_i heq; cases heq; done)
end Go.AX
