/- Copying, clearing, and the length of a map. -/
import Derived.Test.YtgbclgkadlfejaaAxMap2
namespace Go.AX
open Go Go.RowKit
set_option linter.unusedVariables false
set_option linter.unusedSimpArgs false

variable {P : Program}

theorem cut_run {ρ : Rho} {base : Nat} {H : AHeap} {w : World} (hs : Sim ρ base H w) {size n m d : Nat} {x x' x2 : Value} {new : List Value} (hc : cutSrc d x = some (m, x2)) (h : srcCells H size x2 = some (n, new)) (hn : n = Nat.min m d) (hx : VRel ρ x x') :
    ∃ news, VsRel ρ new news ∧ (Builtin.lenOf x').run P w = .ok m w ∧ (Builtin.firstCells size n x').run P w = .ok news.toArray w := by
  cases x with
  | slice a q c =>
    simp only [cutSrc, Option.some.injEq, Prod.mk.injEq] at hc
    obtain ⟨rfl, rfl⟩ := hc
    cases hx with
    | snil _ _ =>
      obtain ⟨news, h1, h2, h3⟩ := src_run (P := P) hs h (VRel.snil (ρ := ρ) _ _)
      exact ⟨news, h1, rfl, h3 w rfl⟩
    | slice hsr =>
      obtain ⟨news, h1, h2, h3⟩ := src_run (P := P) hs h (VRel.slice (n := Nat.min q d) hsr)
      exact ⟨news, h1, rfl, h3 w rfl⟩
  | string s =>
    simp only [cutSrc, Option.some.injEq, Prod.mk.injEq] at hc
    obtain ⟨rfl, rfl⟩ := hc
    cases hx
    obtain ⟨news, h1, h2, h3⟩ := src_run (P := P) hs h (VRel.string (ρ := ρ) _)
    refine ⟨news, h1, rfl, ?_⟩
    rw [← h3 w rfl]
    have : (s.extract 0 d).extract 0 n = s.extract 0 n := by
      rw [ByteArray.extract_extract]
      congr 1
      have : n ≤ d := by rw [hn]; exact Nat.min_le_right _ _
      omega
    simp only [Builtin.firstCells, this]
  | _ => simp [cutSrc] at hc

theorem copy_run {ρ : Rho} {base : Nat} {H H' : AHeap} {w : World} (hs : Sim ρ base H w) {ts : Array TypeId} {ty : TypeId} {args : List Value} {args' : Array Value} {u : Value} {e : Ev} (h : aCopy P H ts args = some (.val u H' e)) (ha : VsRel ρ args args'.toList) :
    H'.next = H.next ∧ ∃ u' w', (Builtin.copy_ ts ty args').run P w = .ok u' w' ∧ VRel ρ u u' ∧ Ok ρ base H w ρ H' w' := by
  unfold aCopy at h
  split at h
  · rename_i t bs dLen dCap x ht
    obtain ⟨l⟩ := args'
    rcases l with _ | ⟨d', _ | ⟨x', _ | ⟨z, l⟩⟩⟩
    · exact ha.elim
    · exact ha.2.elim
    · obtain ⟨hd, hx, -⟩ := ha
      split at h
      · rename_i el hu
        split at h
        · rename_i size m x2 hsz hcut
          split at h
          · rename_i n new hsrc
            cases hc : Nat.beq n (Nat.min m dLen) && Nat.beq new.length (n * size) && Nat.ble dLen dCap && allOne new with
            | false => simp [hc] at h
            | true =>
              simp only [hc, cond_true] at h
              simp only [Bool.and_eq_true] at hc
              obtain ⟨⟨⟨c1, c2⟩, c3⟩, c4⟩ := hc
              have hn : n = Nat.min m dLen := Nat.eq_of_beq_eq_true c1
              have hlen : new.length = n * size := Nat.eq_of_beq_eq_true c2
              have hle : dLen ≤ dCap := Nat.le_of_ble_eq_true c3
              obtain ⟨news, h1, h2, h3⟩ := cut_run (P := P) hs hcut hsrc hn hx
              have hrun : ∀ (d'' : Option Addr) (c'' : Nat), d' = .slice d'' dLen c'' → (Builtin.copy_ ts ty #[d', x']).run P w = ((match d'' with | some a => storeCells a news | none => pure () : Sem Unit).run P w).andThen fun _ w' => .ok (goInt n) w' := by
                intro d'' c'' e
                subst e
                have hsz' : (sizeOf el).run P w = .ok size w := run_size hsz w
                simp only [Builtin.copy_, ht, List.getElem?_toArray, List.getElem?_cons_zero, List.getElem?_cons_succ, Sem.run_bind, run_under hu, Result.andThen_ok, h2, hsz', ← hn, h3, Sem.run_pure]
                cases d'' with
                | none => rfl
                | some a => simp only [Sem.run_bind]; rfl
              unfold aCopyTo at h
              cases bs with
              | none =>
                simp only [Option.some.injEq, Out.val.injEq] at h
                obtain ⟨rfl, rfl, rfl⟩ := h
                cases hd
                exact ⟨rfl, _, w, hrun none _ rfl, .int _ _, Ok.refl hs⟩
              | some a =>
                obtain ⟨b, o, s⟩ := a
                simp only [] at h
                cases hd with
                | @slice _ _ _ _ _ a' c' hsr =>
                cases hb : Nat.beq n 0 with
                | true =>
                  simp only [hb, cond_true, Option.some.injEq, Out.val.injEq] at h
                  obtain ⟨rfl, rfl, rfl⟩ := h
                  have hn0 : n = 0 := Nat.eq_of_beq_eq_true hb
                  have hl0 : news = [] := by
                    have := h1.length
                    rw [hlen, hn0] at this
                    simp at this
                    exact List.eq_nil_of_length_eq_zero this.symm
                  refine ⟨rfl, _, w, ?_, .int _ _, Ok.refl hs⟩
                  rw [hrun (some a') _ rfl, hl0]
                  rfl
                | false =>
                  simp only [hb, cond_false] at h
                  split at h
                  · rename_i cs opn hg
                    split at h
                    · rename_i cs' hcs
                      simp only [Option.some.injEq, Out.val.injEq] at h
                      obtain ⟨rfl, rfl, rfl⟩ := h
                      have hn0 : n ≠ 0 := fun e => by rw [e] at hb; simp at hb
                      have hnd : n ≤ dLen := by rw [hn]; exact Nat.min_le_right _ _
                      cases hr : ρ b with
                      | no => simp [SRel, hr] at hsr
                      | gone x => rcases hs.alive b x hr with e | e <;> rw [hg] at e <;> cases e
                      | live c k x =>
                        simp only [SRel, hr] at hsr
                        have hae : a' = ⟨c, k + o, none⟩ := by
                          rcases hsr.1 with e | e
                          · have := hsr.2; omega
                          · exact e
                        subst hae
                        obtain ⟨r1, r2, r3⟩ := store_own (P := P) hs hg hr hcs h1 (allOne_rel c4 h1)
                        refine ⟨rfl, _, _, ?_, .int _ _, ⟨Mono.refl _ _, r2, r3⟩⟩
                        rw [hrun (some _) _ rfl]
                        simp only [r1, Result.andThen_ok]
                        rfl
                    · cases h
                  · cases h
          · cases h
        · cases h
      · cases h
    · exact ha.2.2.elim
  · cases h

theorem len_map_run {ρ : Rho} {base : Nat} {H : AHeap} {w : World} (hs : Sim ρ base H w) {ts : Array TypeId} {ty : TypeId} {r : Nat} {args' : Array Value} {t kt el : TypeId} {es : List (Value × Value)} (ht : ts[0]? = some t) (hu : P.underlying t = some (.map kt el)) (hg : H.get r = some (.map es))
    (ha : VsRel ρ [.map (some r)] args'.toList) : (Builtin.len_ ts ty args').run P w = .ok (.int .i64 es.length) w := by
  obtain ⟨l⟩ := args'
  rcases l with _ | ⟨m', _ | ⟨k', l⟩⟩
  · exact ha.elim
  · obtain ⟨hm, -⟩ := ha
    obtain ⟨r', rfl, hcase⟩ := entries_run (es := es) hs (by simp [entriesOf, hg]) hm
    rcases hcase with ⟨h1, -, -⟩ | ⟨b, c, k1, x, es', clk, h1, rfl, hr, hg', hw, hb, hE⟩
    · cases h1
    · have hl : es.length = es'.size := by simpa using hE.length
      simp only [Builtin.len_, ht, List.getElem?_toArray, List.getElem?_cons_zero, Sem.run_bind, run_under hu, Result.andThen_ok, MapKept.run_getObj_map hw, Sem.run_pure, hl]
      rfl
  · exact ha.2.elim
end Go.AX
