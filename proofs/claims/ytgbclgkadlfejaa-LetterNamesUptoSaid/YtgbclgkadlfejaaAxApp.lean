/- append. -/
import Derived.Test.YtgbclgkadlfejaaAxEff
namespace Go.AX
open Go Go.RowKit
set_option linter.unusedVariables false
set_option linter.unusedSimpArgs false

variable {P : Program}

theorem bytes_info {t : TypeId} {n : Nat} (h : bytesT P t = some n) : ∃ i, P.info? t = some i ∧ i.bytes = n := by
  unfold bytesT at h
  cases hi : P.info? t with
  | none => simp [hi] at h
  | some i => simp [hi] at h; exact ⟨i, rfl, h⟩

/-- The second argument's type is no integer's. -/
def NotInt (P : Program) (ts : Array TypeId) : Prop := ts[1]? = none ∨ ∃ u d, ts[1]? = some u ∧ P.underlying u = some d ∧ isIntD d = false

theorem app_room {ts : Array TypeId} {t ty e : TypeId} {base : Option Addr} {sLen sCap n : Nat} {x' : Value} {news : List Value} {w w' : World} {size : Nat}
    (ht : ts[0]? = some t) (hu : P.underlying t = some (.slice e)) (hsize : sizeT P e = some size) (hz : NotInt P ts)
    (hn : (Builtin.lenOf x').run P w = .ok n w) (hap : (Builtin.firstCells size n x').run P w = .ok news.toArray w) (hroom : sLen + n ≤ sCap)
    (hst : ∀ a, base = some a → (storeCells (a.add (sLen * size)) news).run P w = .ok () w') (hb : base = none → w' = w) :
    (Builtin.append_ ts ty #[.slice base sLen sCap, x']).run P w = .ok (.slice base (sLen + n) sCap) w' := by
  have hsz := run_size (P := P) hsize w
  unfold Builtin.append_
  simp only [ht, List.getElem?_toArray, List.getElem?_cons_zero, List.getElem?_cons_succ, Sem.run_bind, run_under hu, Result.andThen_ok, hsz]
  rcases hz with h | ⟨u, d, h1, h2, h3⟩
  · rw [h]
    simp only [Sem.run_bind, Sem.run_pure, Result.andThen_ok, Bool.false_eq_true, if_false, hn]
    rw [if_pos hroom]
    simp only [Bool.not_false, if_true, Sem.run_bind, hap, Result.andThen_ok]
    cases base with
    | none => rw [hb rfl]; rfl
    | some a => simp only [Sem.run_bind, hst a rfl, Result.andThen_ok, Sem.run_pure]
  · rw [h1]
    cases d <;> first | (simp [isIntD] at h3; done) | (
      simp only [Sem.run_bind, run_under h2, Sem.run_pure, Result.andThen_ok, Bool.false_eq_true, if_false, hn]
      rw [if_pos hroom]
      simp only [Bool.not_false, if_true, Sem.run_bind, hap, Result.andThen_ok]
      cases base with
      | none => rw [hb rfl]; rfl
      | some a => simp only [Sem.run_bind, hst a rfl, Result.andThen_ok, Sem.run_pure])

theorem app_grow {ts : Array TypeId} {t ty e : TypeId} {z : Value} {base : Option Addr} {sLen sCap n : Nat} {x' : Value} {news olds : List Value} {w : World} {size by_ : Nat}
    (ht : ts[0]? = some t) (hu : P.underlying t = some (.slice e)) (hsize : sizeT P e = some size) (hby : bytesT P e = some by_) (hzero : zeroOf P e = some z) (hby0 : by_ ≠ 0) (hz : NotInt P ts)
    (hn : (Builtin.lenOf x').run P w = .ok n w) (hap : ∀ w2, w2.heap = w.heap → (Builtin.firstCells size n x').run P w2 = .ok news.toArray w2) (hroom : sCap < sLen + n)
    (hold : ∀ w2, w2.heap = w.heap → (Builtin.firstCells size sLen (.slice base sLen sCap)).run P w2 = .ok olds.toArray w2) (hbytes : (sLen + n) * by_ ≤ 2 ^ 47) :
    ∃ cap, sLen + n ≤ cap ∧ (Builtin.append_ ts ty #[.slice base sLen sCap, x']).run P w = .ok (.slice (some ⟨w.heap.size, 0, none⟩) (sLen + n) cap)
      (w.drew.alloc (.cells (olds.toArray ++ news.toArray ++ Builtin.zeroCells z.cells (cap - (sLen + n))) e)) := by
  obtain ⟨i, hi, hib⟩ := bytes_info hby
  have hsz := run_size (P := P) hsize w
  have hz2 := fun w => (run_zero (P := P) hzero w).1
  have hng : ¬ (sLen + n ≤ sCap) := by omega
  have hfit : Builtin.nextslicecap (sLen + n) sCap * by_ ≤ 281474976710656 := growslice_fits hroom (by simpa using hbytes)
  have hfit' : ¬ (Builtin.nextslicecap (sLen + n) sCap * by_ > 2 ^ 48) := by omega
  refine ⟨(Question.appendCap (sLen + n) sCap e).cut (w.tape w.drawn (.appendCap (sLen + n) sCap e)), by simp only [Question.cut]; omega, ?_⟩
  have hd1 : ∀ h : Question.forced (.appendCap (sLen + n) sCap e) = true, False := fun h => by simp [Question.forced] at h
  have hch : (choose (.appendCap (sLen + n) sCap e)).run P w = .ok ((Question.appendCap (sLen + n) sCap e).cut (w.tape w.drawn (.appendCap (sLen + n) sCap e))) w.drew := by
    rw [run_choose, if_neg hd1]; rfl
  unfold Builtin.append_
  simp only [ht, List.getElem?_toArray, List.getElem?_cons_zero, List.getElem?_cons_succ, Sem.run_bind, run_under hu, Result.andThen_ok, hsz]
  rcases hz with h | ⟨u, d, h1, h2, h3⟩
  · rw [h]
    simp only [Sem.run_bind, Sem.run_pure, Result.andThen_ok, Bool.false_eq_true, if_false, hn]
    rw [if_neg hng]
    simp only [Sem.run_bind, run_info hi, Result.andThen_ok, false_or, hib, hby0, and_false, Bool.false_eq_true, if_false]
    rw [if_neg hfit']
    simp only [Sem.run_bind, hch, run_info hi, hib, run_askRoom, Result.andThen_ok, hold w.drew rfl, Bool.not_false, if_true, hap w.drew rfl, hz2, newRow, run_newObj, Sem.run_pure]
    rfl
  · rw [h1]
    cases d <;> first | (simp [isIntD] at h3; done) | (
      simp only [Sem.run_bind, run_under h2, Sem.run_pure, Result.andThen_ok, Bool.false_eq_true, if_false, hn]
      rw [if_neg hng]
      simp only [Sem.run_bind, run_info hi, Result.andThen_ok, false_or, hib, hby0, and_false, Bool.false_eq_true, if_false]
      rw [if_neg hfit']
      simp only [Sem.run_bind, hch, run_info hi, hib, run_askRoom, Result.andThen_ok, hold w.drew rfl, Bool.not_false, if_true, hap w.drew rfl, hz2, newRow, run_newObj, Sem.run_pure]
      rfl)

theorem zeroCells_list (z : Array Value) (n : Nat) : (Builtin.zeroCells z n).toList = repZ z.toList n := zero_row z n

theorem app_room0 {ts : Array TypeId} {t u ty e : TypeId} {z : Value} {k k' : IntKind} {base : Option Addr} {sLen sCap : Nat} {l : Int} {w w' : World} {size by_ : Nat}
    (ht : ts[0]? = some t) (hu : P.underlying t = some (.slice e)) (hsize : sizeT P e = some size) (hby : bytesT P e = some by_) (hzero : zeroOf P e = some z) (hzs : z.cells.size = size)
    (h1 : ts[1]? = some u) (h2 : P.underlying u = some (.int k)) (hl0 : 0 ≤ l) (hl1 : l * by_ ≤ 2 ^ 47) (hl2 : l ≤ 2 ^ 47) (hroom : sLen + l.toNat ≤ sCap)
    (hst : ∀ a, base = some a → (storeCells (a.add (sLen * size)) (repZ z.cells.toList l.toNat)).run P w = .ok () w') (hb : base = none → w' = w) :
    (Builtin.append_ ts ty #[.slice base sLen sCap, .int k' l]).run P w = .ok (.slice base (sLen + l.toNat) sCap) w' := by
  obtain ⟨i, hi, hib⟩ := bytes_info hby
  have hsz := run_size (P := P) hsize w
  have hz2 := fun w => (run_zero (P := P) hzero w).1
  have hw : IntKind.i64.wrap l = l := wrap_small hl0 (by omega)
  have hn1 : ¬ (l < 0) := by omega
  have hn2 : ¬ (l * (by_ : Int) > 2 ^ 48) := by omega
  have hcells : ∀ w, ((if l.toNat * size = 0 then pure #[] else do pure (Builtin.zeroCells (← zeroValue e).cells l.toNat)) : Sem (Array Value)).run P w = .ok (repZ z.cells.toList l.toNat).toArray w := by
    intro w
    split
    · rename_i h0
      have : (repZ z.cells.toList l.toNat).length = 0 := by rw [repZ_get]; simp only [Array.length_toList, hzs, h0]
      rw [List.eq_nil_of_length_eq_zero this]; rfl
    · simp only [Sem.run_bind, hz2, Result.andThen_ok, Sem.run_pure]
      rw [← zeroCells_list]
  unfold Builtin.append_
  simp only [ht, h1, List.getElem?_toArray, List.getElem?_cons_zero, List.getElem?_cons_succ, Sem.run_bind, run_under hu, run_under h2, Result.andThen_ok, hsz, Sem.run_pure, if_true, asInt, asIntOf, hw]
  rw [if_neg hn1]
  simp only [Sem.run_bind, run_info hi, hib, Result.andThen_ok]
  rw [if_neg hn2]
  simp only [Sem.run_bind, Sem.run_pure, Result.andThen_ok]
  rw [if_pos hroom]
  simp only [Bool.not_true, Bool.false_eq_true, if_false, Sem.run_bind, hcells, Result.andThen_ok]
  cases base with
  | none => rw [hb rfl]; rfl
  | some a => simp only [Sem.run_bind, hst a rfl, Result.andThen_ok, Sem.run_pure]

theorem app_grow0 {ts : Array TypeId} {t u ty e : TypeId} {z : Value} {k k' : IntKind} {base : Option Addr} {sLen sCap : Nat} {l : Int} {olds : List Value} {w : World} {size by_ : Nat}
    (ht : ts[0]? = some t) (hu : P.underlying t = some (.slice e)) (hsize : sizeT P e = some size) (hby : bytesT P e = some by_) (hzero : zeroOf P e = some z) (hzs : z.cells.size = size) (hby0 : by_ ≠ 0)
    (h1 : ts[1]? = some u) (h2 : P.underlying u = some (.int k)) (hl0 : 0 ≤ l) (hl1 : l * by_ ≤ 2 ^ 47) (hl2 : l ≤ 2 ^ 47) (hroom : sCap < sLen + l.toNat)
    (hold : ∀ w2, w2.heap = w.heap → (Builtin.firstCells size sLen (.slice base sLen sCap)).run P w2 = .ok olds.toArray w2) (hbytes : (sLen + l.toNat) * by_ ≤ 2 ^ 47) (hneed : sLen + l.toNat ≤ 2 ^ 47) :
    ∃ cap, sLen + l.toNat ≤ cap ∧ (Builtin.append_ ts ty #[.slice base sLen sCap, .int k' l]).run P w = .ok (.slice (some ⟨w.heap.size, 0, none⟩) (sLen + l.toNat) cap)
      (w.drew.alloc (.cells (olds.toArray ++ (repZ z.cells.toList l.toNat).toArray ++ Builtin.zeroCells z.cells (cap - (sLen + l.toNat))) e)) := by
  obtain ⟨i, hi, hib⟩ := bytes_info hby
  have hsz := run_size (P := P) hsize w
  have hz2 := fun w => (run_zero (P := P) hzero w).1
  have hw : IntKind.i64.wrap l = l := wrap_small hl0 (by omega)
  have hn1 : ¬ (l < 0) := by omega
  have hn2 : ¬ (l * (by_ : Int) > 2 ^ 48) := by omega
  have hng : ¬ (sLen + l.toNat ≤ sCap) := by omega
  have hfit : Builtin.nextslicecap (sLen + l.toNat) sCap * by_ ≤ 281474976710656 := growslice_fits hroom (by simpa using hbytes)
  have hfit' : ¬ (Builtin.nextslicecap (sLen + l.toNat) sCap * by_ > 2 ^ 48) := by omega
  have hmax : ¬ (((sLen + l.toNat : Nat) : Int) > IntKind.i64.max) := by
    have : IntKind.i64.max = 9223372036854775807 := by decide
    rw [this]; omega
  have hcells : ∀ w, ((if l.toNat * size = 0 then pure #[] else do pure (Builtin.zeroCells (← zeroValue e).cells l.toNat)) : Sem (Array Value)).run P w = .ok (repZ z.cells.toList l.toNat).toArray w := by
    intro w
    split
    · rename_i h0
      have : (repZ z.cells.toList l.toNat).length = 0 := by rw [repZ_get]; simp only [Array.length_toList, hzs, h0]
      rw [List.eq_nil_of_length_eq_zero this]; rfl
    · simp only [Sem.run_bind, hz2, Result.andThen_ok, Sem.run_pure]
      rw [← zeroCells_list]
  refine ⟨(Question.appendCap (sLen + l.toNat) sCap e).cut (w.tape w.drawn (.appendCap (sLen + l.toNat) sCap e)), by simp only [Question.cut]; omega, ?_⟩
  have hd1 : ∀ h : Question.forced (.appendCap (sLen + l.toNat) sCap e) = true, False := fun h => by simp [Question.forced] at h
  have hch : (choose (.appendCap (sLen + l.toNat) sCap e)).run P w = .ok ((Question.appendCap (sLen + l.toNat) sCap e).cut (w.tape w.drawn (.appendCap (sLen + l.toNat) sCap e))) w.drew := by
    rw [run_choose, if_neg hd1]; rfl
  unfold Builtin.append_
  simp only [ht, h1, List.getElem?_toArray, List.getElem?_cons_zero, List.getElem?_cons_succ, Sem.run_bind, run_under hu, run_under h2, Result.andThen_ok, hsz, Sem.run_pure, if_true, asInt, asIntOf, hw]
  rw [if_neg hn1]
  simp only [Sem.run_bind, run_info hi, hib, Result.andThen_ok]
  rw [if_neg hn2]
  simp only [Sem.run_bind, Sem.run_pure, Result.andThen_ok]
  rw [if_neg hng]
  simp only [Sem.run_bind, run_info hi, Result.andThen_ok, hib, hmax, false_and, if_false]
  rw [if_neg hfit']
  simp only [Sem.run_bind, hch, run_info hi, hib, run_askRoom, Result.andThen_ok, hold w.drew rfl, Bool.not_true, Bool.false_eq_true, if_false, hcells, hz2, newRow, run_newObj, Sem.run_pure]
  rfl

/-! ### what is appended or copied -/
theorem run_firstCells_at {w : World} {size n : Nat} {a : Addr} {len cap : Nat} {ds : List Value} {c k : Nat} (ha : a = ⟨c, k, none⟩) (hl : ds.length = n * size) (h : w.rangeAt c k ds) :
    (Builtin.firstCells size n (.slice (some a) len cap)).run P w = .ok ds.toArray w := by
  subst ha
  exact run_firstCells_some w size n _ len cap ds hl fun j v hv => by rw [Addr.add_mid]; exact h j v hv

theorem range_of_heap {w w2 : World} {c k : Nat} {ds : List Value} (e : w2.heap = w.heap) (h : w.rangeAt c k ds) : w2.rangeAt c k ds := fun j v hv => by
  rw [cell_of_heap (w := w) (w' := w2) (by rw [e])]; exact h j v hv

theorem slice_addr {ρ : Rho} {b o cap c' : Nat} {s : Option Nat} {a' : Addr} (h : SRel ρ b o s cap a' c') (hc : 0 < cap) : PRel ρ b o a' := by
  cases hr : ρ b with
  | no => simp [SRel, hr] at h
  | gone x => simp [PRel, hr]
  | live c k x =>
    simp only [SRel, hr] at h; simp only [PRel, hr]
    rcases h.1 with h0 | h0
    · omega
    · exact h0

theorem src_run {ρ : Rho} {base : Nat} {H : AHeap} {w : World} (hs : Sim ρ base H w) {size n : Nat} {x x' : Value} {new : List Value} (h : srcCells H size x = some (n, new)) (hx : VRel ρ x x') :
    ∃ news, VsRel ρ new news ∧ (∀ w, (Builtin.lenOf x').run P w = .ok n w) ∧ ∀ w2, w2.heap = w.heap → (Builtin.firstCells size n x').run P w2 = .ok news.toArray w2 := by
  unfold srcCells at h
  split at h
  · rename_i n' c
    cases hx
    cases hb : Nat.beq n' 0 with
    | false => simp [hb] at h
    | true =>
      simp [hb] at h
      obtain ⟨rfl, rfl⟩ := h
      have : n' = 0 := Nat.eq_of_beq_eq_true hb
      subst this
      exact ⟨[], trivial, fun _ => rfl, fun _ _ => rfl⟩
  · rename_i b o s n' c
    cases hx
    rename_i a' c' hsr
    cases hb : Nat.beq n' 0 with
    | true =>
      simp [hb] at h
      obtain ⟨rfl, rfl⟩ := h
      have : n' = 0 := Nat.eq_of_beq_eq_true hb
      subst this
      refine ⟨[], trivial, fun _ => rfl, fun w2 _ => ?_⟩
      simp [Builtin.firstCells, loadCells, loadCellsFrom]
    | false =>
      simp only [hb, cond_false] at h
      cases hle : Nat.ble n' c with
      | false => simp [hle] at h
      | true =>
        simp only [hle, cond_true] at h
        have hle' : n' ≤ c := Nat.le_of_ble_eq_true hle
        have hn0 : n' ≠ 0 := fun e => by rw [e] at hb; simp [Nat.beq] at hb
        split at h
        · rename_i l hl
          simp at h
          obtain ⟨rfl, rfl⟩ := h
          obtain ⟨ds, c2, k, x, h1, h2, h3, h4⟩ := cells_there hs hl (slice_addr hsr (by omega))
          refine ⟨ds, h3, fun _ => rfl, fun w2 e => run_firstCells_at h2 ?_ (range_of_heap e h4)⟩
          rw [← h3.length]; exact (cellsAt_get hl).choose_spec.choose_spec.choose_spec.2.1
        · cases h
  · rename_i s
    cases hx
    simp at h
    obtain ⟨rfl, rfl⟩ := h
    refine ⟨s.data.toList.map fun b => .int .u8 b.toNat, ?_, fun _ => rfl, fun w2 _ => ?_⟩
    · refine LRel.of_get rfl fun i v hv => ⟨v, hv, ?_⟩
      simp only [List.getElem?_map, Option.map_eq_some_iff] at hv
      obtain ⟨u, _, rfl⟩ := hv
      exact .int _ _
    · have he : s.extract 0 s.size = s := by simp
      simp only [Builtin.firstCells, Sem.run_pure, he]
      congr 1
      apply Array.ext'; simp
  · cases h
end Go.AX
