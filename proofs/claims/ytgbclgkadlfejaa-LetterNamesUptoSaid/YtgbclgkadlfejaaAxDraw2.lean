/- Regions whose order is drawn: the memory. -/
import Derived.Test.YtgbclgkadlfejaaAxDraw
namespace Go.AX
open Go Go.RowKit
set_option linter.unusedVariables false
set_option linter.unusedSimpArgs false

variable {P : Program}

/-! ### a step seen in a greater memory -/
theorem ownB_of {H G : AHeap} {b : Nat} (e : G.get b = H.get b) : ownB G b ↔ ownB H b := by simp [ownB, e]
theorem ownB_lt {H : AHeap} (hw : Wf H) {b : Nat} (h : ownB H b) : b < H.next := by
  rcases Nat.lt_or_ge b H.next with e | e
  · exact e
  · simp [ownB, hw b e] at h

theorem Sim.sub {ρ : Rho} {base : Nat} {G H : AHeap} {w : World} (h : Sim ρ base G w) (hw : Wf H) (he : ∀ b, b < H.next → G.get b = H.get b) : Sim ρ base H w where
  alive b x hb := by
    rcases Nat.lt_or_ge b H.next with e | e
    · rw [← he b e]; exact h.alive b x hb
    · exact .inl (hw b e)
  bsz := h.bsz
  inb := h.inb
  obj b o hb := h.obj b o (by rw [he b (hw.lt hb)]; exact hb)
  apart b b' c k x k' x' ho := h.apart b b' c k x k' x' ((ownB_of (he b (ownB_lt hw ho))).2 ho)

theorem frame_ok {ρ ρ' : Rho} {base : Nat} {G G' H H' : AHeap} {w w' : World} (hs : Sim ρ base G w) (hw : Wf H) (hw' : Wf H') (he : ∀ b, b < H.next → G.get b = H.get b) (hn : H.next ≤ H'.next)
    (h1 : ∀ b, b < H'.next → G'.get b = H'.get b) (h2 : ∀ b, H'.next ≤ b → G'.get b = G.get b) (ok : Ok ρ base H w ρ' H' w') : Sim ρ' base G' w' ∧ Step ρ G w ρ' G' w' := by
  have sub : ∀ b, ownB H b → ownB G b := fun b hb => (ownB_of (he b (ownB_lt hw hb))).2 hb
  have far : ∀ b, H'.next ≤ b → ¬ ownB H b := fun b hb ho => by have := ownB_lt hw ho; omega
  have same : ∀ b, H'.next ≤ b → ∀ c k x, ρ' b = .live c k x → ρ b = .live c k x := fun b hb c k x hl => by
    rcases ok.mono.out b (by omega) with e | ⟨c1, k1, x1, e1, e2⟩
    · rw [← e]; exact hl
    · rw [e2] at hl; cases hl
  refine ⟨⟨?_, ok.sim.bsz, ok.sim.inb, ?_, ?_⟩, ⟨ok.step.os, ok.step.tape, ok.step.output, ok.step.size, ?_, ?_, ?_, ?_⟩⟩
  · intro b x hb
    rcases Nat.lt_or_ge b H'.next with e | e
    · rw [h1 b e]; exact ok.sim.alive b x hb
    · rw [h2 b e]
      rcases ok.mono.out b (by omega) with e1 | ⟨c1, k1, x1, e1, e2⟩
      · exact hs.alive b x (by rw [← e1]; exact hb)
      · have := (ok.step.keep b c1 k1 x1 e1 (far b e)).1
        rw [this] at hb; cases hb
  · intro b o hb
    rcases Nat.lt_or_ge b H'.next with e | e
    · rw [h1 b e] at hb; exact ok.sim.obj b o hb
    · rw [h2 b e] at hb
      refine (hs.obj b o hb).keep ok.mono (by omega) fun c k x hl => ok.step.block c (hs.inb b c k x hl) fun b0 k0 x0 ho hl0 => ?_
      have := hs.apart b0 b c k0 x0 k x (sub b0 ho) hl0 hl
      have := ownB_lt hw ho
      omega
  · intro b b' c k x k' x' ho hl hl'
    rcases Nat.lt_or_ge b H'.next with e | e
    · exact ok.sim.apart b b' c k x k' x' ((ownB_of (h1 b e)).1 ho) hl hl'
    · have ho' : ownB G b := (ownB_of (h2 b e)).1 ho
      have hlb := same b e c k x hl
      rcases ok.step.src b' c k' x' hl' with hlb' | hge | ⟨b0, k0, x0, q1, q2⟩
      · exact hs.apart b b' c k x k' x' ho' hlb hlb'
      · have := hs.inb b c k x hlb; omega
      · have := hs.apart b0 b c k0 x0 k x (sub b0 q1) q2 hlb
        have := ownB_lt hw q1
        omega
  · intro c hc hno
    exact ok.step.block c hc fun b k x ho hl => hno b k x (sub b ho) hl
  · intro b c k x ho hl
    rcases Nat.lt_or_ge b H'.next with e | e
    · rcases ok.step.own b c k x ((ownB_of (h1 b e)).1 ho) hl with hge | ⟨b0, k0, x0, q1, q2⟩
      · exact .inl hge
      · exact .inr ⟨b0, k0, x0, sub b0 q1, q2⟩
    · exact .inr ⟨b, k, x, (ownB_of (h2 b e)).1 ho, same b e c k x hl⟩
  · intro b c k x hl hno
    have hnH : ¬ ownB H b := fun h => hno (sub b h)
    obtain ⟨q1, q2⟩ := ok.step.keep b c k x hl hnH
    refine ⟨q1, fun h => ?_⟩
    rcases Nat.lt_or_ge b H'.next with e | e
    · exact q2 ((ownB_of (h1 b e)).1 h)
    · exact hno ((ownB_of (h2 b e)).1 h)
  · intro b c k x hl
    rcases ok.step.src b c k x hl with h | hge | ⟨b0, k0, x0, q1, q2⟩
    · exact .inl h
    · exact .inr (.inl hge)
    · exact .inr (.inr ⟨b0, k0, x0, sub b0 q1, q2⟩)

/-! ### the trace of a region, in the order of its text -/
structure Trace (P : Program) (call : FuncId → List Value → AHeap → Option (CRes × AHeap)) (ops : Array Oper) (tr : List (Nat × Ev)) (from_ : Nat) where
  fr : Nat → Fr
  hp : Nat → AHeap
  val : Nat → Value
  ev : Nat → Option Ev
  put : ∀ i o, from_ ≤ i → ops[i]? = some o → (fr i).put o.dst (val i) = some (fr (i + 1))
  want : ∀ i o, from_ ≤ i → ops[i]? = some o → wantedA ops o (fr i) = true → ∃ e, ev i = some e ∧ aOp P call (fr i) (hp i) o.op = some (.val (val i) (hp (i + 1)) e) ∧ (i, e) ∈ tr
  skip : ∀ i o, from_ ≤ i → ops[i]? = some o → wantedA ops o (fr i) = false → ev i = none ∧ val i = undef ∧ hp (i + 1) = hp i

theorem trace_of {call : FuncId → List Value → AHeap → Option (CRes × AHeap)} {ops : Array Oper} : ∀ (l : List Oper) (i : Nat) (f : Fr) (H : AHeap) (tr0 : List (Nat × Ev)) (f' : Fr) (H' : AHeap) (tr : List (Nat × Ev)),
    (∀ j, l[j]? = ops[i + j]?) → runOps P call ops l i f H tr0 = some (.done f' H' tr) →
    (∀ x ∈ tr0, x ∈ tr) ∧ ∃ T : Trace P call ops tr i, T.fr i = f ∧ T.hp i = H ∧ T.fr (i + l.length) = f' ∧ T.hp (i + l.length) = H'
  | [], i, f, H, tr0, f', H', tr, hl, h => by
    simp [runOps] at h
    obtain ⟨rfl, rfl, rfl⟩ := h
    refine ⟨fun _ h => h, ⟨fun _ => f, fun _ => H, fun _ => undef, fun _ => none, ?_, ?_, ?_⟩, rfl, rfl, rfl, rfl⟩ <;>
      (intro j o hj ho; have := hl (j - i); rw [show i + (j - i) = j by omega, ho] at this; simp at this)
  | o :: r, i, f, H, tr0, f', H', tr, hl, h => by
    have ho : ops[i]? = some o := by have := hl 0; simpa using this.symm
    have hl' : ∀ j, r[j]? = ops[i + 1 + j]? := fun j => by have := hl (j + 1); rw [show i + 1 + j = i + (j + 1) by omega]; simpa using this
    -- put one row ahead of a trace
    have glue : ∀ (f1 : Fr) (H1 : AHeap) (v : Value) (e : Option Ev), f.put o.dst v = some f1 →
        (wantedA ops o f = true → ∃ e', e = some e' ∧ aOp P call f H o.op = some (.val v H1 e') ∧ (i, e') ∈ tr) →
        (wantedA ops o f = false → e = none ∧ v = undef ∧ H1 = H) →
        (∃ T : Trace P call ops tr (i + 1), T.fr (i + 1) = f1 ∧ T.hp (i + 1) = H1 ∧ T.fr (i + 1 + r.length) = f' ∧ T.hp (i + 1 + r.length) = H') →
        ∃ T : Trace P call ops tr i, T.fr i = f ∧ T.hp i = H ∧ T.fr (i + (o :: r).length) = f' ∧ T.hp (i + (o :: r).length) = H' := by
      rintro f1 H1 v e hp hw hs ⟨T, t1, t2, t3, t4⟩
      refine ⟨⟨fun j => if j = i then f else T.fr j, fun j => if j = i then H else T.hp j, fun j => if j = i then v else T.val j, fun j => if j = i then e else T.ev j, ?_, ?_, ?_⟩, ?_, ?_, ?_, ?_⟩
      · intro j oj hj hoj
        by_cases ej : j = i
        · subst ej
          rw [ho] at hoj; cases hoj
          simp only [if_true, if_neg (show j + 1 ≠ j by omega), t1]; exact hp
        · simp only [if_neg ej, if_neg (show j + 1 ≠ i by omega)]; exact T.put j oj (by omega) hoj
      · intro j oj hj hoj hwj
        by_cases ej : j = i
        · subst ej
          rw [ho] at hoj; cases hoj
          simp only [if_true, if_neg (show j + 1 ≠ j by omega), t2] at hwj ⊢; exact hw hwj
        · simp only [if_neg ej, if_neg (show j + 1 ≠ i by omega)] at hwj ⊢; exact T.want j oj (by omega) hoj hwj
      · intro j oj hj hoj hwj
        by_cases ej : j = i
        · subst ej
          rw [ho] at hoj; cases hoj
          simp only [if_true, if_neg (show j + 1 ≠ j by omega), t2] at hwj ⊢; exact hs hwj
        · simp only [if_neg ej, if_neg (show j + 1 ≠ i by omega)] at hwj ⊢; exact T.skip j oj (by omega) hoj hwj
      · simp
      · simp
      · simp only [List.length_cons, if_neg (show i + (r.length + 1) ≠ i by omega)]; rw [show i + (r.length + 1) = i + 1 + r.length by omega]; exact t3
      · simp only [List.length_cons, if_neg (show i + (r.length + 1) ≠ i by omega)]; rw [show i + (r.length + 1) = i + 1 + r.length by omega]; exact t4
    simp only [runOps] at h
    cases hw : wantedA ops o f with
    | true =>
      simp only [hw, cond_true] at h
      split at h
      · rename_i v H1 e hop
        split at h
        · rename_i f1 hp
          obtain ⟨k1, k2⟩ := trace_of r (i + 1) f1 H1 _ f' H' tr hl' h
          exact ⟨fun x hx => k1 x (List.mem_cons_of_mem _ hx), glue f1 H1 v (some e) hp (fun _ => ⟨e, rfl, hop, k1 _ (by simp)⟩) (fun hf => by rw [hw] at hf; cases hf) k2⟩
        · cases h
      · simp at h
      · cases h
    | false =>
      simp only [hw, cond_false] at h
      split at h
      · rename_i f1 hp
        obtain ⟨k1, k2⟩ := trace_of r (i + 1) f1 H tr0 f' H' tr hl' h
        exact ⟨k1, glue f1 H undef none hp (fun hf => by rw [hw] at hf; cases hf) (fun _ => ⟨rfl, rfl, rfl⟩) k2⟩
      · cases h

/-! ### the memory with all that is made later -/
noncomputable def later (ev : Nat → Option Ev) : Nat → Nat → AHeap → AHeap
  | 0, _, F => F
  | c + 1, p, F => later ev c (p + 1) (match ev p with | some (.make b o) => F.set b o | _ => F)

theorem later_congr (ev : Nat → Option Ev) : ∀ (c p : Nat) (F G : AHeap), (∀ b, F.get b = G.get b) → ∀ b, (later ev c p F).get b = (later ev c p G).get b
  | 0, _, _, _, h, b => h b
  | c + 1, p, F, G, h, b => by
    simp only [later]
    refine later_congr ev c (p + 1) _ _ (fun d => ?_) b
    split
    · rw [AHeap.get_set, AHeap.get_set, h d]
    · exact h d
theorem later_else (ev : Nat → Option Ev) {b : Nat} : ∀ (c p : Nat) (F : AHeap), (∀ i, p ≤ i → i < p + c → ∀ o, ev i ≠ some (.make b o)) → (later ev c p F).get b = F.get b
  | 0, _, _, _ => rfl
  | c + 1, p, F, h => by
    simp only [later]
    rw [later_else ev c (p + 1) _ fun i h1 h2 => h i (by omega) (by omega)]
    split
    · rename_i b' o' he
      rw [AHeap.get_set, if_neg]
      intro e; subst e
      exact h p (Nat.le_refl _) (by omega) _ he
    · rfl
theorem later_make (ev : Nat → Option Ev) {b : Nat} {o : AObj} : ∀ (c p : Nat) (F : AHeap) (i : Nat), p ≤ i → i < p + c → ev i = some (.make b o) → (∀ j o', i < j → ev j ≠ some (.make b o')) → (later ev c p F).get b = some o
  | 0, p, F, i, h1, h2, _, _ => by omega
  | c + 1, p, F, i, h1, h2, h3, h4 => by
    simp only [later]
    by_cases e : i = p
    · subst e
      rw [h3]
      simp only
      rw [later_else ev c (i + 1) _ fun j q1 q2 o' => h4 j o' (by omega), AHeap.get_set, if_pos rfl]
    · exact later_make ev c (p + 1) _ i (by omega) (by omega) h3 h4
end Go.AX
