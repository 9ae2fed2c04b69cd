/- Texts made of a row of bytes by the unsafe builtins: what the machine does. -/
import Derived.Test.YtjnegbcdeggpfaaDoorAxMap
import Derived.Test.YtjnegbcdeggpfaaDoorAxApp
import Derived.Lib.UnsafeStr
namespace Go.AX
open Go Go.RowKit
set_option linter.unusedVariables false
set_option linter.unusedSimpArgs false
variable {P : Program}

theorem lies_bytes {e : TypeId} (hc : P.cellsOf e = 1) (count off n : Nat) (hn : off + n ≤ count) : liesAt P P.depth e count off e n = true := by
  have hd : P.depth = (2 * (P.types.size + Made.depth) + 1) + 1 := rfl
  rw [hd]
  simp only [liesAt, Bool.or_eq_true]
  left
  rw [hd]
  simp [rowAt, hc, hn, sameLayout, Nat.mod_one]

theorem args_two {motive : Array Value → Sort 1} (a : Option Addr) (b : Value) (f : (p : Option Addr) → (l : Value) → motive #[.pointer p, l]) (g : (x : Array Value) → motive x) : Builtin.unsafeString_.match_3 motive #[.pointer a, b] f g = f a b := rfl
/-- The bytes of a part of a row become a text, and are frozen. -/
theorem run_text {w : World} (ts : Array TypeId) (pt ty e : TypeId) (k : IntKind) (ht : ts[0]? = some pt) (hp : P.underlying pt = some (.pointer e)) (hc : P.cellsOf e = 1) (g off cells : Nat) (hsh : w.shape? g = some (e, cells)) (l : List UInt8)
    (h0 : l ≠ []) (hn : off + l.length ≤ cells) (h63 : l.length ≤ 9223372036854775807) (hcell : ∀ j x, l[j]? = some x → w.cell? ⟨g, off + j, none⟩ = some (.int .u8 x.toNat)) :
    (Builtin.unsafeString_ ts ty #[.pointer (some ⟨g, off, none⟩), .int k l.length]).run P w = .ok (.string ⟨l.toArray⟩) (w.freeze ⟨g, off, none⟩ l.length) := by
  have hl : l.length ≠ 0 := by simpa using h0
  have hlb := Lib.run_loadBytes (P := P) w l ⟨g, off, none⟩ .empty (fun j x hx => by
    have := hcell j x hx
    have e : (⟨g, off, none⟩ : Addr).add j = ⟨g, off + j, none⟩ := by
      unfold Addr.add
      by_cases hj : j = 0
      · subst hj; simp
      · simp [hj]
    rw [e]; exact this)
  have hlies := lies_bytes (P := P) hc (cells / P.cellsOf e) off l.length (by rw [hc]; simpa using hn)
  have h63' : ¬ (9223372036854775807 : Int) < (l.length : Int) := by omega
  have hmax : IntKind.i64.max = 9223372036854775807 := rfl
  have hneg : ¬ (l.length : Int) < 0 := by omega
  delta Builtin.unsafeString_
  rw [args_two]
  simp [asInt, asIntOf, ht, hmax, h63', hneg, hl, variablesAt, viewAt, hsh, elemOf, run_underlying hp, hlies, hlb]

/-- A block goes, and its row may turn. -/
theorem sim_kill_turn {ρ : Rho} {base : Nat} {H : AHeap} {w w' : World} {b c k x : Nat} (h : Sim ρ base H w) (hown : ownB H b) (hb : ρ b = .live c k x)
    (g1 : w'.os = w.os) (g2 : w'.tape = w.tape) (g3 : w'.output = w.output) (g4 : w'.heap.size = w.heap.size) (g5 : ∀ q, q ≠ c → w'.heap[q]? = w.heap[q]?) :
    Ok ρ base H w (upd ρ b (.gone x)) (H.set b .dead) w' := by
  obtain ⟨s1, s2, s3⟩ := sim_kill h hown hb
  have hfree : ∀ d k1 x1, upd ρ b (.gone x) d = .live c k1 x1 → False := fun d k1 x1 hd => by
    by_cases e : d = b
    · subst e; rw [upd_same] at hd; cases hd
    · rw [upd_ne _ _ e] at hd
      exact e (h.apart b d c k x k1 x1 hown hb hd).symm
  refine ⟨s3, ⟨s1.alive, by rw [g4]; exact s1.bsz, fun d q k1 x1 hd => by rw [g4]; exact s1.inb d q k1 x1 hd, fun d o hd => ?_, s1.apart⟩, ⟨g1, g2, g3, by rw [g4]; exact Nat.le_refl _, fun q hq hn => g5 q fun e => ?_, s2.own, s2.keep, s2.src⟩⟩
  · exact (s1.obj d o hd).keep (Mono.refl 0 _) (by omega) fun q k1 x1 hq => g5 q fun e => by subst e; exact hfree d k1 x1 hq
  · subst e; exact hn b k x hown hb

theorem data_wf {H : AHeap} {args : List Value} {out : Out} (h : aSliceData H args = some out) : ∃ v, out = .val v H (.eff H H) := by
  unfold aSliceData at h
  split at h
  · simp only [Option.some.injEq] at h; exact ⟨_, h.symm⟩
  · rename_i b o s n c
    cases hc : Nat.beq c 0 <;> simp only [hc, cond_true, cond_false, Option.some.injEq, reduceCtorEq] at h
    exact ⟨_, h.symm⟩
  · cases h
theorem utext_wf {H : AHeap} {ts : Array TypeId} {args : List Value} {out : Out} (h : aUnsafeStr P H ts args = some out) : ∃ v, out = .val v H (.eff H H) ∨ ∃ b o, H.get b = some o ∧ out = .val v (H.set b .dead) (.eff H (H.set b .dead)) := by
  simp only [aUnsafeStr, Bool.cond_eq_ite] at h
  repeat' split at h
  all_goals first | (cases h; done) | (simp only [Option.some.injEq] at h; first | exact ⟨_, .inl h.symm⟩ | exact ⟨_, .inr ⟨_, _, ‹H.get _ = some _›, h.symm⟩⟩)

theorem data_run {ρ : Rho} {base : Nat} {H : AHeap} {w : World} {args : List Value} {args' : Array Value} {ts : Array TypeId} {ty : TypeId} {v : Value} {H' : AHeap} {ev : Ev} (hs : Sim ρ base H w)
    (h : aSliceData H args = some (.val v H' ev)) (ha : VsRel ρ args args'.toList) : ∃ v', (Builtin.unsafeSliceData_ ts ty args').run P w = .ok v' w ∧ VRel ρ v v' := by
  obtain ⟨l⟩ := args'
  unfold aSliceData at h
  split at h
  · rename_i n c
    match l, ha with
    | [y], ha =>
      obtain ⟨hy, -⟩ := ha
      cases hy
      simp only [Option.some.injEq, Out.val.injEq] at h
      obtain ⟨rfl, -, -⟩ := h
      exact ⟨.pointer none, Lib.run_unsafeSliceData_nil w ts ty _ _, .pnil⟩
  · rename_i b o s n c
    cases hc : Nat.beq c 0 <;> simp only [hc, cond_true, cond_false, Option.some.injEq, Out.val.injEq, reduceCtorEq] at h
    obtain ⟨rfl, -, -⟩ := h
    have hc0 : c ≠ 0 := fun e => by rw [e] at hc; cases hc
    match l, ha with
    | [y], ha =>
      obtain ⟨hy, -⟩ := ha
      cases hy
      rename_i a' c' hsr
      have hcc : c ≤ c' ∧ PRel ρ b o a' := by
        cases hr : ρ b with
        | no => simp [SRel, hr] at hsr
        | gone x => simp only [SRel, hr] at hsr; exact ⟨by omega, by simp [PRel, hr]⟩
        | live d k x =>
          simp only [SRel, hr] at hsr
          refine ⟨by omega, ?_⟩
          simp only [PRel, hr]
          rcases hsr.1 with e | e
          · omega
          · exact e
      exact ⟨.pointer (some a'), Lib.run_unsafeSliceData_row w ts ty a' _ _ (by omega), .ptr hcc.2⟩
  · cases h
theorem bytesU_get : ∀ {l : List Value} {u : List UInt8}, bytesU l = some u → l.length = u.length ∧ ∀ (j : Nat) (x : UInt8), u[j]? = some x → l[j]? = some (Value.int .u8 x.toNat)
  | [], u, h => by simp only [bytesU, Option.some.injEq] at h; subst h; exact ⟨rfl, fun j x hx => by simp at hx⟩
  | v :: r, u, h => by
    unfold bytesU at h
    split at h
    · rename_i heq; cases heq
    · rename_i n r' heq
      cases heq
      cases hb : Nat.blt n 256 with
      | false => simp [hb] at h
      | true =>
        simp only [hb, cond_true] at h
        split at h
        · rename_i l hl
          simp only [Option.some.injEq] at h
          subst h
          obtain ⟨h1, h2⟩ := bytesU_get hl
          have hn : n < 256 := by simpa [Nat.blt_eq] using hb
          refine ⟨by simp [h1], fun j x hx => ?_⟩
          cases j with
          | zero =>
            simp only [List.getElem?_cons_zero, Option.some.injEq] at hx ⊢
            subst hx
            have : (UInt8.ofNat n).toNat = n := by simp [Nat.mod_eq_of_lt hn]
            rw [this]; rfl
          | succ j => simp only [List.getElem?_cons_succ] at hx ⊢; exact h2 j x hx
        · cases h
    · cases h

theorem run_text_none {w : World} (ts : Array TypeId) (pt ty : TypeId) (k : IntKind) (ht : ts[0]? = some pt) (p : Option Addr) :
    (Builtin.unsafeString_ ts ty #[.pointer p, .int k 0]).run P w = .ok (.string ⟨#[]⟩) w := by
  have hmax : IntKind.i64.max = 9223372036854775807 := rfl
  delta Builtin.unsafeString_
  rw [args_two]
  cases p <;> simp [asInt, asIntOf, ht, hmax] <;> rfl

theorem utext_run {ρ : Rho} {base : Nat} {H : AHeap} {w : World} {args : List Value} {args' : Array Value} {ts : Array TypeId} {ty : TypeId} {v : Value} {H' : AHeap} {ev : Ev} (hs : Sim ρ base H w)
    (h : aUnsafeStr P H ts args = some (.val v H' ev)) (ha : VsRel ρ args args'.toList) : ∃ v' w' ρ', (Builtin.unsafeString_ ts ty args').run P w = .ok v' w' ∧ VRel ρ' v v' ∧ Ok ρ base H w ρ' H' w' := by
  obtain ⟨args'⟩ := args'
  unfold aUnsafeStr at h
  split at h
  · rename_i pt a k n ht
    match args', ha with
    | [y, z], ha =>
    obtain ⟨hy, hz, -⟩ := ha
    cases hz
    obtain ⟨p, rfl⟩ : ∃ p, y = .pointer p := by cases hy <;> exact ⟨_, rfl⟩
    cases hn : Nat.beq n 0 with
    | true =>
      have : n = 0 := Nat.eq_of_beq_eq_true hn
      subst this
      simp only [hn, cond_true, Option.some.injEq, Out.val.injEq] at h
      obtain ⟨rfl, rfl, -⟩ := h
      exact ⟨_, w, ρ, run_text_none ts pt ty k ht p, .string _, Ok.refl hs⟩
    | false =>
      have hn0 : n ≠ 0 := fun e => by rw [e] at hn; cases hn
      simp only [hn, cond_false] at h
      split at h
      · rename_i e b o hu
        split at h
        · rename_i cs esz hg
          cases hc : (Nat.beq esz (rowV e 1) && Nat.beq (P.cellsOf e) 1 && Nat.ble n 140737488355328) with
          | false => simp [hc] at h
          | true =>
            simp only [hc, cond_true] at h
            simp only [Bool.and_eq_true] at hc
            obtain ⟨⟨c1, c2⟩, c3⟩ := hc
            have e1 : esz = rowV e 1 := Nat.eq_of_beq_eq_true c1
            have e2 : P.cellsOf e = 1 := Nat.eq_of_beq_eq_true c2
            have e3 : n ≤ 140737488355328 := Nat.le_of_ble_eq_true c3
            split at h
            · rename_i l hl
              split at h
              · rename_i u hb
                simp only [Option.some.injEq, Out.val.injEq] at h
                obtain ⟨rfl, rfl, -⟩ := h
                obtain ⟨b1, b2⟩ := bytesU_get hb
                have hca : cellsAt H b o n = some l := by simp only [cellsAt, hg]; exact hl
                cases hy with
                | @ptr _ _ a' hp =>
                obtain ⟨ds, c, kk, x, q1, rfl, q3, q4⟩ := cells_there hs hca hp
                have hll : l.length = n := (takeN_get hl).1
                have hcell : ∀ j y, u[j]? = some y → w.cell? ⟨c, kk + o + j, none⟩ = some (.int .u8 y.toNat) := fun j y hy => by
                  obtain ⟨v', r1, r2⟩ := q3.get j _ (b2 j y hy)
                  cases r2
                  exact q4 j _ r1
                have hob := hs.obj b _ hg
                simp only [ObjRel, q1] at hob
                have hle : 1073741824 ≤ esz := by rw [e1]; exact Nat.le_trans (Nat.le_mul_of_pos_right _ (Nat.succ_pos e)) (Nat.le_add_right _ 1)
                obtain ⟨cs', ty', fr, w1, wt, -, -⟩ := hob.2.2.2.2 hle
                obtain rfl := wt (by rw [e1, szOf_rowV (by decide)]; decide)
                rw [e1, tyOf_rowV (by decide)] at w1
                have hul : u.length = n := by omega
                have hlast : kk + o + n ≤ cs'.size := by
                  have hlt : n - 1 < u.length := by omega
                  have := hcell (n - 1) u[n - 1] (List.getElem?_eq_getElem hlt)
                  unfold World.cell? at this
                  rw [show w.heap[(⟨c, kk + o + (n - 1), none⟩ : Addr).block]? = some (.cells cs' e fr) from w1] at this
                  simp only [Option.isSome_none, Bool.false_eq_true, if_false] at this
                  have := (Array.getElem?_eq_some_iff.1 this).1
                  have h9 : kk + o + (n - 1) < cs'.size := this
                  omega
                have hsh : w.shape? c = some (e, cs'.size) := by simp [World.shape?, w1]
                have hrun := run_text (P := P) ts pt ty e k ht hu e2 c (kk + o) cs'.size hsh u (fun e0 => by rw [e0] at hul; simp at hul; omega) (by omega) (by omega) hcell
                rw [hul] at hrun
                refine ⟨_, _, upd ρ b (.gone x), hrun, .string _, sim_kill_turn hs (cells_own hg) q1 ?_ ?_ ?_ ?_ ?_⟩
                · unfold World.freeze; rw [if_neg hn0]
                · unfold World.freeze; rw [if_neg hn0]
                · unfold World.freeze; rw [if_neg hn0]
                · unfold World.freeze; rw [if_neg hn0]; simp
                · intro q hq; unfold World.freeze; rw [if_neg hn0]; simp only [Array.getElem?_modify]; rw [if_neg (fun e => hq e.symm)]
              · cases h
            · cases h
        · cases h
      · cases h
  · cases h
end Go.AX
