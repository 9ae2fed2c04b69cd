/- Clearing, and texts of bytes. -/
import Derived.Test.YtjnegbcdeggpfaaDoorAxMap
import Derived.Laws.BytesArg
namespace Go.AX
open Go Go.RowKit
set_option linter.unusedVariables false
set_option linter.unusedSimpArgs false

variable {P : Program}

theorem repZ_one {z : List Value} (h : allOne z = true) : ∀ n, allOne (repZ z n) = true
  | 0 => rfl
  | n + 1 => by
    have := repZ_one h n
    unfold allOne at *
    simp only [repZ, List.all_append, h, this, Bool.and_self]

theorem clear_run {ρ : Rho} {base : Nat} {H H' : AHeap} {w : World} (hs : Sim ρ base H w) {ts : Array TypeId} {ty : TypeId} {args : List Value} {args' : Array Value} {u : Value} {e : Ev} (h : aClear P H ts args = some (.val u H' e)) (ha : VsRel ρ args args'.toList) :
    H'.next = H.next ∧ ∃ u' w', (Builtin.clear_ ts ty args').run P w = .ok u' w' ∧ VRel ρ u u' ∧ Ok ρ base H w ρ H' w' := by
  unfold aClear at h
  split at h
  · rename_i t a n c ht
    obtain ⟨l⟩ := args'
    rcases l with _ | ⟨x', _ | ⟨y', l⟩⟩
    · exact ha.elim
    · obtain ⟨hx, -⟩ := ha
      have htup : VRel ρ (.tuple #[]) (.tuple #[]) := VRel.mkTuple (xs := []) (ys := []) trivial
      split at h
      · rename_i el hu
        split at h
        · simp only [Option.some.injEq, Out.val.injEq] at h
          obtain ⟨rfl, rfl, rfl⟩ := h
          cases hx
          refine ⟨rfl, _, w, ?_, htup, Ok.refl hs⟩
          simp only [Builtin.clear_, ht, List.getElem?_toArray, List.getElem?_cons_zero, Sem.run_bind, run_under hu, Result.andThen_ok]
          rfl
        · rename_i size z b o s hsz hz
          cases hx with
          | @slice _ _ _ _ _ a' c' hsr =>
          cases hb : Nat.beq n 0 with
          | true =>
            simp only [hb, cond_true, Option.some.injEq, Out.val.injEq] at h
            obtain ⟨rfl, rfl, rfl⟩ := h
            have hn0 : n = 0 := Nat.eq_of_beq_eq_true hb
            subst hn0
            refine ⟨rfl, _, w, ?_, htup, Ok.refl hs⟩
            simp only [Builtin.clear_, ht, List.getElem?_toArray, List.getElem?_cons_zero, Sem.run_bind, run_under hu, Result.andThen_ok]
            rfl
          | false =>
            have hn0 : n ≠ 0 := fun e => by rw [e] at hb; simp at hb
            simp only [hb, cond_false] at h
            cases hc : Nat.beq z.cells.size size && Nat.ble n c && allOne z.cells.toList with
            | false => simp [hc] at h
            | true =>
              simp only [hc, cond_true] at h
              simp only [Bool.and_eq_true] at hc
              obtain ⟨⟨c1, c2⟩, c3⟩ := hc
              have hle : n ≤ c := Nat.le_of_ble_eq_true c2
              split at h
              · rename_i cs opn hg
                split at h
                · rename_i cs' hcs
                  simp only [Option.some.injEq, Out.val.injEq] at h
                  obtain ⟨rfl, rfl, rfl⟩ := h
                  cases hr : ρ b with
                  | no => simp [SRel, hr] at hsr
                  | gone x => rcases hs.alive b x hr with e | e <;> rw [hg] at e <;> cases e
                  | live q k x =>
                    simp only [SRel, hr] at hsr
                    have hae : a' = ⟨q, k + o, none⟩ := by
                      rcases hsr.1 with e | e
                      · have := hsr.2; omega
                      · exact e
                    subst hae
                    obtain ⟨hz1, hz2⟩ := run_zero (P := P) hz w
                    have hzr : VsRel ρ (repZ z.cells.toList n) (repZ z.cells.toList n) := repZ_rel (vrel_plain ρ 9 z hz2).cells n
                    obtain ⟨r1, r2, r3⟩ := store_own (P := P) hs hg hr hcs hzr (allOne_rel (repZ_one c3 n) hzr)
                    refine ⟨rfl, _, _, ?_, htup, ⟨Mono.refl _ _, r2, r3⟩⟩
                    obtain ⟨m, rfl⟩ : ∃ m, n = m + 1 := ⟨n - 1, by omega⟩
                    simp only [Builtin.clear_, ht, List.getElem?_toArray, List.getElem?_cons_zero, Sem.run_bind, run_under hu, Result.andThen_ok, hz1, zeroCells_list, r1, Sem.run_pure]
                · cases h
              · cases h
        · cases h
      · cases h
    · exact ha.2.elim
  · cases h

theorem clear_wf {H : AHeap} {ts : Array TypeId} {l : List Value} {out : Out} (h : aClear P H ts l = some out) : ∃ v e, out = .val v H e ∨ ∃ b o o', H.get b = some o ∧ out = .val v (H.set b o') e := by
  simp only [aClear, Bool.cond_eq_ite] at h
  repeat' split at h
  all_goals first | (cases h; done) | (simp only [Option.some.injEq] at h; first | exact ⟨_, _, .inl h.symm⟩ | exact ⟨_, _, .inr ⟨_, _, _, ‹H.get _ = some _›, h.symm⟩⟩)

theorem foldl_bytes : ∀ (ns : List Int) (s : ByteArray), ns.foldl (fun r n => r.push (UInt8.ofNat n.toNat)) s = ⟨(s.data.toList ++ ns.map fun n => UInt8.ofNat n.toNat).toArray⟩
  | [], s => by simp
  | n :: r, s => by
    simp only [List.foldl_cons]
    rw [foldl_bytes r]
    congr 1
    simp [ByteArray.push]

theorem bytesL_map : ∀ {cs ds : List Value} {l : List Int} {ρ : Rho}, bytesL cs = some l → VsRel ρ cs ds → ds = l.map (Value.int .u8)
  | [], ds, l, ρ, h, hr => by
    cases ds with
    | nil => simp [bytesL] at h; subst h; rfl
    | cons _ _ => exact hr.elim
  | c :: cs, ds, l, ρ, h, hr => by
    cases ds with
    | nil => exact hr.elim
    | cons d ds =>
      obtain ⟨h1, h2⟩ := hr
      cases c with
      | int k n =>
        cases k with
        | u8 =>
          simp only [bytesL] at h
          cases hb : bytesL cs with
          | none => simp [hb] at h
          | some l' =>
            simp [hb] at h; subst h
            cases h1
            rw [bytesL_map hb h2]; rfl
        | _ => simp [bytesL] at h
      | _ => simp [bytesL] at h

/-- A list of bytes that becomes a text. -/
theorem text_run {ρ : Rho} {base : Nat} {H : AHeap} {w : World} (hs : Sim ρ base H w) {src dst : TypeId} {a : Option Addr} {n c m : Nat} {cs : List Value} {l : List Int} {el : TypeId} {x' : Value}
    (hu : P.underlying src = some (.slice el)) (hd : P.underlying dst = some .string) (he : P.underlying el = some (.int .u8)) (hc : srcCells H 1 (.slice a n c) = some (m, cs)) (hb : bytesL cs = some l) (hx : VRel ρ (.slice a n c) x') :
    (convert src dst x').run P w = .ok (.string ⟨(l.map fun n => UInt8.ofNat n.toNat).toArray⟩) w := by
  obtain ⟨news, h1, h2, h3⟩ := src_run (P := P) hs hc hx
  have h3 := h3 w rfl
  have hn := bytesL_map hb h1
  cases hx with
  | snil _ _ =>
    rw [run_convert_bytes_nil w src el hu he _ _ dst hd]
    simp only [Builtin.firstCells, Sem.run_pure, Result.ok.injEq, and_true] at h3
    have : news = [] := by simpa using h3.symm
    rw [this] at hn
    have : l = [] := by cases l with | nil => rfl | cons _ _ => simp at hn
    subst this; rfl
  | @slice _ _ _ _ _ a' c' hsr =>
    have hm : m = n := by
      have := h2 w
      simp only [Builtin.lenOf, Sem.run_pure, Result.ok.injEq, and_true] at this
      exact this.symm
    subst hm
    simp only [Builtin.firstCells, Nat.mul_one] at h3
    rw [run_convert_bytes_string w src dst el _ _ _ hu he hd, run_bytesToString w a' m c' l (by rw [h3, hn]), foldl_bytes]
    rfl
/-! ### going through a text -/
theorem decode_ascii {s : ByteArray} {i : Nat} {c : UInt8} (h : s.data.toList[i]? = some c) (hc : c.toNat < 128) : Utf8.decode s i = (c.toNat, 1) := by
  obtain ⟨hi, he⟩ := List.getElem?_eq_some_iff.1 h
  have hi' : i < s.data.size := by simpa using hi
  have : s.get! i = c := by
    simp only [ByteArray.get!]
    rw [getElem!_pos s.data i hi', ← he]; simp
  unfold Utf8.decode
  simp only [Nat.add_zero, this]
  rw [if_pos (by simpa using hc)]

theorem next_run {ρ : Rho} {base : Nat} {H H' : AHeap} {w : World} (hs : Sim ρ base H w) {it it' v : Value} {isS : Bool} {ty : TypeId} {e : Ev} (h : aNext H it isS = some (.val v H' e)) (hi : VRel ρ it it') :
    H'.next = H.next ∧ ∃ v' w', (Instr.next it' isS ty).run P w = .ok v' w' ∧ VRel ρ v v' ∧ Ok ρ base H w ρ H' w' := by
  unfold aNext at h
  split at h
  · rename_i b
    cases hi with
    | @ptr _ _ a' hp =>
    cases isS with
    | false => simp at h
    | true =>
      simp only [cond_true] at h
      split at h
      · rename_i s pos hg
        obtain ⟨c, k, x, hr, rfl⟩ := live_of_cells hs hg (by simp) hp
        have hob := hs.obj b _ hg
        simp only [ObjRel, hr] at hob
        obtain ⟨hbase, rfl, hw⟩ := hob
        have hget : (getObj c).run P w = .ok (.stringIter s pos) w := by simp [getObj, Sem.run, hw]
        split at h
        · rename_i ch hch
          cases hlt : Nat.blt ch.toNat 128 with
          | false => simp [hlt] at h
          | true =>
            simp only [hlt, cond_true, Option.some.injEq, Out.val.injEq] at h
            obtain ⟨rfl, rfl, rfl⟩ := h
            have hps : pos < s.size := by
              have := (List.getElem?_eq_some_iff.1 hch).1
              rw [Array.length_toList] at this; exact this
            have hdec := decode_ascii hch (by simpa [Nat.blt_eq] using hlt)
            have hset : (setObj c (.stringIter s (pos + 1))).run P w = .ok () { w with heap := w.heap.setIfInBounds c (.stringIter s (pos + 1)) } := by simp [setObj, Sem.run, hw]
            have hc : c < w.heap.size := hs.inb _ _ _ _ hr
            obtain ⟨r1, r2⟩ := sim_set (w' := { w with heap := w.heap.setIfInBounds c (.stringIter s (pos + 1)) }) (o := .iter s (pos + 1)) hs (by simp [ownB, hg]) hr rfl rfl rfl (by simp) (fun q hq => by simp [Array.getElem?_setIfInBounds, Ne.symm hq]) (by
              simp only [ObjRel, hr]
              exact ⟨hbase, trivial, by simp [Array.getElem?_setIfInBounds, hc]⟩)
            refine ⟨rfl, .tuple #[.bool true, goInt pos, .int .i32 ch.toNat], _, ?_, VRel.mkTuple (xs := [.bool true, .int .i64 (Int.ofNat pos), .int .i32 (Int.ofNat ch.toNat)]) (ys := [.bool true, goInt pos, .int .i32 ch.toNat]) ⟨.bool _, .int _ _, .int _ _, trivial⟩, ⟨Mono.refl _ _, r1, r2⟩⟩
            simp only [Instr.next, Nat.add_zero, Sem.run_bind, hget, Result.andThen_ok]
            rw [if_pos hps]
            simp only [Sem.run_bind, hdec, hset, Result.andThen_ok, Sem.run_pure]
        · rename_i hch
          simp only [Option.some.injEq, Out.val.injEq] at h
          obtain ⟨rfl, rfl, rfl⟩ := h
          have hps : ¬ pos < s.size := by
            have := List.getElem?_eq_none_iff.1 hch
            rw [Array.length_toList] at this
            show ¬ pos < s.data.size
            omega
          refine ⟨rfl, .tuple #[.bool false], w, ?_, VRel.mkTuple (xs := [.bool false]) (ys := [.bool false]) ⟨.bool _, trivial⟩, Ok.refl hs⟩
          simp only [Instr.next, Nat.add_zero, Sem.run_bind, hget, Result.andThen_ok]
          rw [if_neg hps]; rfl
      · cases h
  · cases h
theorem next_wf {H : AHeap} {it : Value} {isS : Bool} {out : Out} (h : aNext H it isS = some out) : ∃ v e, out = .val v H e ∨ ∃ b o o', H.get b = some o ∧ out = .val v (H.set b o') e := by
  simp only [aNext, Bool.cond_eq_ite] at h
  repeat' split at h
  all_goals first | (cases h; done) | (simp only [Option.some.injEq] at h; first | exact ⟨_, _, .inl h.symm⟩ | exact ⟨_, _, .inr ⟨_, _, _, ‹H.get _ = some _›, h.symm⟩⟩)
end Go.AX
