/- append. -/
import Derived.Test.YtjnegbcdeggpfaaDoorAxEff
namespace Go.AX
open Go Go.RowKit
set_option linter.unusedVariables false
set_option linter.unusedSimpArgs false

variable {P : Program}

theorem bytes_info {t : TypeId} {n : Nat} (h : bytesT P t = some n) : ∃ i, P.info? t = some i ∧ i.bytes = n := by
  unfold bytesT at h
  cases hi : P.info? t with
  | none => simp [hi] at h
  | some i => simp [hi] at h; exact ⟨i, rfl, h⟩

/-- The second argument's type is no integer's. -/
def NotInt (P : Program) (ts : Array TypeId) : Prop := ts[1]? = none ∨ ∃ u d, ts[1]? = some u ∧ P.underlying u = some d ∧ isIntD d = false

theorem app_room {ts : Array TypeId} {t ty e : TypeId} {base : Option Addr} {sLen sCap n : Nat} {x' : Value} {news : List Value} {w w' : World} {size : Nat}
    (ht : ts[0]? = some t) (hu : P.underlying t = some (.slice e)) (hsize : sizeT P e = some size) (hz : NotInt P ts)
    (hn : (Builtin.lenOf x').run P w = .ok n w) (hap : (Builtin.firstCells size n x').run P w = .ok news.toArray w) (hroom : sLen + n ≤ sCap)
    (hst : ∀ a, base = some a → (storeCells (a.add (sLen * size)) news).run P w = .ok () w') (hb : base = none → w' = w) :
    (Builtin.append_ ts ty #[.slice base sLen sCap, x']).run P w = .ok (.slice base (sLen + n) sCap) w' := by
  have hsz := run_size (P := P) hsize w
  unfold Builtin.append_
  simp only [ht, List.getElem?_toArray, List.getElem?_cons_zero, List.getElem?_cons_succ, Sem.run_bind, run_under hu, Result.andThen_ok, hsz]
  rcases hz with h | ⟨u, d, h1, h2, h3⟩
  · rw [h]
    simp only [Sem.run_bind, Sem.run_pure, Result.andThen_ok, Bool.false_eq_true, if_false, hn]
    rw [if_pos hroom]
    simp only [Bool.not_false, if_true, Sem.run_bind, hap, Result.andThen_ok]
    cases base with
    | none => rw [hb rfl]; rfl
    | some a => simp only [Sem.run_bind, hst a rfl, Result.andThen_ok, Sem.run_pure]
  · rw [h1]
    cases d <;> first | (simp [isIntD] at h3; done) | (
      simp only [Sem.run_bind, run_under h2, Sem.run_pure, Result.andThen_ok, Bool.false_eq_true, if_false, hn]
      rw [if_pos hroom]
      simp only [Bool.not_false, if_true, Sem.run_bind, hap, Result.andThen_ok]
      cases base with
      | none => rw [hb rfl]; rfl
      | some a => simp only [Sem.run_bind, hst a rfl, Result.andThen_ok, Sem.run_pure])

theorem app_grow {ts : Array TypeId} {t ty e : TypeId} {z : Value} {base : Option Addr} {sLen sCap n : Nat} {x' : Value} {news olds : List Value} {w : World} {size by_ : Nat}
    (ht : ts[0]? = some t) (hu : P.underlying t = some (.slice e)) (hsize : sizeT P e = some size) (hby : bytesT P e = some by_) (hzero : zeroOf P e = some z) (hby0 : by_ ≠ 0) (hz : NotInt P ts)
    (hn : (Builtin.lenOf x').run P w = .ok n w) (hap : ∀ w2, w2.heap = w.heap → (Builtin.firstCells size n x').run P w2 = .ok news.toArray w2) (hroom : sCap < sLen + n)
    (hold : ∀ w2, w2.heap = w.heap → (Builtin.firstCells size sLen (.slice base sLen sCap)).run P w2 = .ok olds.toArray w2) (hbytes : (sLen + n) * by_ ≤ 2 ^ 47) :
    ∃ cap, sLen + n ≤ cap ∧ (Builtin.append_ ts ty #[.slice base sLen sCap, x']).run P w = .ok (.slice (some ⟨w.heap.size, 0, none⟩) (sLen + n) cap)
      (w.drew.alloc (.cells (olds.toArray ++ news.toArray ++ Builtin.zeroCells z.cells (cap - (sLen + n))) e)) := by
  obtain ⟨i, hi, hib⟩ := bytes_info hby
  have hsz := run_size (P := P) hsize w
  have hz2 := fun w => (run_zero (P := P) hzero w).1
  have hng : ¬ (sLen + n ≤ sCap) := by omega
  have hfit : Builtin.nextslicecap (sLen + n) sCap * by_ ≤ 281474976710656 := growslice_fits hroom (by simpa using hbytes)
  have hfit' : ¬ (Builtin.nextslicecap (sLen + n) sCap * by_ > 2 ^ 48) := by omega
  refine ⟨(Question.appendCap (sLen + n) sCap e).cut (w.tape w.drawn (.appendCap (sLen + n) sCap e)), by simp only [Question.cut]; omega, ?_⟩
  have hd1 : ∀ h : Question.forced (.appendCap (sLen + n) sCap e) = true, False := fun h => by simp [Question.forced] at h
  have hch : (choose (.appendCap (sLen + n) sCap e)).run P w = .ok ((Question.appendCap (sLen + n) sCap e).cut (w.tape w.drawn (.appendCap (sLen + n) sCap e))) w.drew := by
    rw [run_choose, if_neg hd1]; rfl
  unfold Builtin.append_
  simp only [ht, List.getElem?_toArray, List.getElem?_cons_zero, List.getElem?_cons_succ, Sem.run_bind, run_under hu, Result.andThen_ok, hsz]
  rcases hz with h | ⟨u, d, h1, h2, h3⟩
  · rw [h]
    simp only [Sem.run_bind, Sem.run_pure, Result.andThen_ok, Bool.false_eq_true, if_false, hn]
    rw [if_neg hng]
    simp only [Sem.run_bind, run_info hi, Result.andThen_ok, false_or, hib, hby0, and_false, Bool.false_eq_true, if_false]
    rw [if_neg hfit']
    simp only [Sem.run_bind, hch, run_info hi, hib, run_askRoom, Result.andThen_ok, hold w.drew rfl, Bool.not_false, if_true, hap w.drew rfl, hz2, newRow, run_newObj, Sem.run_pure]
    rfl
  · rw [h1]
    cases d <;> first | (simp [isIntD] at h3; done) | (
      simp only [Sem.run_bind, run_under h2, Sem.run_pure, Result.andThen_ok, Bool.false_eq_true, if_false, hn]
      rw [if_neg hng]
      simp only [Sem.run_bind, run_info hi, Result.andThen_ok, false_or, hib, hby0, and_false, Bool.false_eq_true, if_false]
      rw [if_neg hfit']
      simp only [Sem.run_bind, hch, run_info hi, hib, run_askRoom, Result.andThen_ok, hold w.drew rfl, Bool.not_false, if_true, hap w.drew rfl, hz2, newRow, run_newObj, Sem.run_pure]
      rfl)

theorem zeroCells_list (z : Array Value) (n : Nat) : (Builtin.zeroCells z n).toList = repZ z.toList n := zero_row z n

theorem app_room0 {ts : Array TypeId} {t u ty e : TypeId} {z : Value} {k k' : IntKind} {base : Option Addr} {sLen sCap : Nat} {l : Int} {w w' : World} {size by_ : Nat}
    (ht : ts[0]? = some t) (hu : P.underlying t = some (.slice e)) (hsize : sizeT P e = some size) (hby : bytesT P e = some by_) (hzero : zeroOf P e = some z) (hzs : z.cells.size = size)
    (h1 : ts[1]? = some u) (h2 : P.underlying u = some (.int k)) (hl0 : 0 ≤ l) (hl1 : l * by_ ≤ 2 ^ 47) (hl2 : l ≤ 2 ^ 47) (hroom : sLen + l.toNat ≤ sCap)
    (hst : ∀ a, base = some a → (storeCells (a.add (sLen * size)) (repZ z.cells.toList l.toNat)).run P w = .ok () w') (hb : base = none → w' = w) :
    (Builtin.append_ ts ty #[.slice base sLen sCap, .int k' l]).run P w = .ok (.slice base (sLen + l.toNat) sCap) w' := by
  obtain ⟨i, hi, hib⟩ := bytes_info hby
  have hsz := run_size (P := P) hsize w
  have hz2 := fun w => (run_zero (P := P) hzero w).1
  have hw : IntKind.i64.wrap l = l := wrap_small hl0 (by omega)
  have hn1 : ¬ (l < 0) := by omega
  have hn2 : ¬ (l * (by_ : Int) > 2 ^ 48) := by omega
  have hcells : ∀ w, ((if l.toNat * size = 0 then pure #[] else do pure (Builtin.zeroCells (← zeroValue e).cells l.toNat)) : Sem (Array Value)).run P w = .ok (repZ z.cells.toList l.toNat).toArray w := by
    intro w
    split
    · rename_i h0
      have : (repZ z.cells.toList l.toNat).length = 0 := by rw [repZ_get]; simp only [Array.length_toList, hzs, h0]
      rw [List.eq_nil_of_length_eq_zero this]; rfl
    · simp only [Sem.run_bind, hz2, Result.andThen_ok, Sem.run_pure]
      rw [← zeroCells_list]
  unfold Builtin.append_
  simp only [ht, h1, List.getElem?_toArray, List.getElem?_cons_zero, List.getElem?_cons_succ, Sem.run_bind, run_under hu, run_under h2, Result.andThen_ok, hsz, Sem.run_pure, if_true, asInt, asIntOf, hw]
  rw [if_neg hn1]
  simp only [Sem.run_bind, run_info hi, hib, Result.andThen_ok]
  rw [if_neg hn2]
  simp only [Sem.run_bind, Sem.run_pure, Result.andThen_ok]
  rw [if_pos hroom]
  simp only [Bool.not_true, Bool.false_eq_true, if_false, Sem.run_bind, hcells, Result.andThen_ok]
  cases base with
  | none => rw [hb rfl]; rfl
  | some a => simp only [Sem.run_bind, hst a rfl, Result.andThen_ok, Sem.run_pure]

theorem app_grow0 {ts : Array TypeId} {t u ty e : TypeId} {z : Value} {k k' : IntKind} {base : Option Addr} {sLen sCap : Nat} {l : Int} {olds : List Value} {w : World} {size by_ : Nat}
    (ht : ts[0]? = some t) (hu : P.underlying t = some (.slice e)) (hsize : sizeT P e = some size) (hby : bytesT P e = some by_) (hzero : zeroOf P e = some z) (hzs : z.cells.size = size) (hby0 : by_ ≠ 0)
    (h1 : ts[1]? = some u) (h2 : P.underlying u = some (.int k)) (hl0 : 0 ≤ l) (hl1 : l * by_ ≤ 2 ^ 47) (hl2 : l ≤ 2 ^ 47) (hroom : sCap < sLen + l.toNat)
    (hold : ∀ w2, w2.heap = w.heap → (Builtin.firstCells size sLen (.slice base sLen sCap)).run P w2 = .ok olds.toArray w2) (hbytes : (sLen + l.toNat) * by_ ≤ 2 ^ 47) (hneed : sLen + l.toNat ≤ 2 ^ 47) :
    ∃ cap, sLen + l.toNat ≤ cap ∧ (Builtin.append_ ts ty #[.slice base sLen sCap, .int k' l]).run P w = .ok (.slice (some ⟨w.heap.size, 0, none⟩) (sLen + l.toNat) cap)
      (w.drew.alloc (.cells (olds.toArray ++ (repZ z.cells.toList l.toNat).toArray ++ Builtin.zeroCells z.cells (cap - (sLen + l.toNat))) e)) := by
  obtain ⟨i, hi, hib⟩ := bytes_info hby
  have hsz := run_size (P := P) hsize w
  have hz2 := fun w => (run_zero (P := P) hzero w).1
  have hw : IntKind.i64.wrap l = l := wrap_small hl0 (by omega)
  have hn1 : ¬ (l < 0) := by omega
  have hn2 : ¬ (l * (by_ : Int) > 2 ^ 48) := by omega
  have hng : ¬ (sLen + l.toNat ≤ sCap) := by omega
  have hfit : Builtin.nextslicecap (sLen + l.toNat) sCap * by_ ≤ 281474976710656 := growslice_fits hroom (by simpa using hbytes)
  have hfit' : ¬ (Builtin.nextslicecap (sLen + l.toNat) sCap * by_ > 2 ^ 48) := by omega
  have hmax : ¬ (((sLen + l.toNat : Nat) : Int) > IntKind.i64.max) := by
    have : IntKind.i64.max = 9223372036854775807 := by decide
    rw [this]; omega
  have hcells : ∀ w, ((if l.toNat * size = 0 then pure #[] else do pure (Builtin.zeroCells (← zeroValue e).cells l.toNat)) : Sem (Array Value)).run P w = .ok (repZ z.cells.toList l.toNat).toArray w := by
    intro w
    split
    · rename_i h0
      have : (repZ z.cells.toList l.toNat).length = 0 := by rw [repZ_get]; simp only [Array.length_toList, hzs, h0]
      rw [List.eq_nil_of_length_eq_zero this]; rfl
    · simp only [Sem.run_bind, hz2, Result.andThen_ok, Sem.run_pure]
      rw [← zeroCells_list]
  refine ⟨(Question.appendCap (sLen + l.toNat) sCap e).cut (w.tape w.drawn (.appendCap (sLen + l.toNat) sCap e)), by simp only [Question.cut]; omega, ?_⟩
  have hd1 : ∀ h : Question.forced (.appendCap (sLen + l.toNat) sCap e) = true, False := fun h => by simp [Question.forced] at h
  have hch : (choose (.appendCap (sLen + l.toNat) sCap e)).run P w = .ok ((Question.appendCap (sLen + l.toNat) sCap e).cut (w.tape w.drawn (.appendCap (sLen + l.toNat) sCap e))) w.drew := by
    rw [run_choose, if_neg hd1]; rfl
  unfold Builtin.append_
  simp only [ht, h1, List.getElem?_toArray, List.getElem?_cons_zero, List.getElem?_cons_succ, Sem.run_bind, run_under hu, run_under h2, Result.andThen_ok, hsz, Sem.run_pure, if_true, asInt, asIntOf, hw]
  rw [if_neg hn1]
  simp only [Sem.run_bind, run_info hi, hib, Result.andThen_ok]
  rw [if_neg hn2]
  simp only [Sem.run_bind, Sem.run_pure, Result.andThen_ok]
  rw [if_neg hng]
  simp only [Sem.run_bind, run_info hi, Result.andThen_ok, hib, hmax, false_and, if_false]
  rw [if_neg hfit']
  simp only [Sem.run_bind, hch, run_info hi, hib, run_askRoom, Result.andThen_ok, hold w.drew rfl, Bool.not_true, Bool.false_eq_true, if_false, hcells, hz2, newRow, run_newObj, Sem.run_pure]
  rfl

/-! ### what is appended or copied -/
theorem run_firstCells_at {w : World} {size n : Nat} {a : Addr} {len cap : Nat} {ds : List Value} {c k : Nat} (ha : a = ⟨c, k, none⟩) (hl : ds.length = n * size) (h : w.rangeAt c k ds) :
    (Builtin.firstCells size n (.slice (some a) len cap)).run P w = .ok ds.toArray w := by
  subst ha
  exact run_firstCells_some w size n _ len cap ds hl fun j v hv => by rw [Addr.add_mid]; exact h j v hv

theorem range_of_heap {w w2 : World} {c k : Nat} {ds : List Value} (e : w2.heap = w.heap) (h : w.rangeAt c k ds) : w2.rangeAt c k ds := fun j v hv => by
  rw [cell_of_heap (w := w) (w' := w2) (by rw [e])]; exact h j v hv

theorem slice_addr {ρ : Rho} {b o cap c' : Nat} {s : Option Nat} {a' : Addr} (h : SRel ρ b o s cap a' c') (hc : 0 < cap) : PRel ρ b o a' := by
  cases hr : ρ b with
  | no => simp [SRel, hr] at h
  | gone x => simp [PRel, hr]
  | live c k x =>
    simp only [SRel, hr] at h; simp only [PRel, hr]
    rcases h.1 with h0 | h0
    · omega
    · exact h0

theorem src_run {ρ : Rho} {base : Nat} {H : AHeap} {w : World} (hs : Sim ρ base H w) {size n : Nat} {x x' : Value} {new : List Value} (h : srcCells H size x = some (n, new)) (hx : VRel ρ x x') :
    ∃ news, VsRel ρ new news ∧ (∀ w, (Builtin.lenOf x').run P w = .ok n w) ∧ ∀ w2, w2.heap = w.heap → (Builtin.firstCells size n x').run P w2 = .ok news.toArray w2 := by
  unfold srcCells at h
  split at h
  · rename_i n' c
    cases hx
    cases hb : Nat.beq n' 0 with
    | false => simp [hb] at h
    | true =>
      simp [hb] at h
      obtain ⟨rfl, rfl⟩ := h
      have : n' = 0 := Nat.eq_of_beq_eq_true hb
      subst this
      exact ⟨[], trivial, fun _ => rfl, fun _ _ => rfl⟩
  · rename_i b o s n' c
    cases hx
    rename_i a' c' hsr
    cases hb : Nat.beq n' 0 with
    | true =>
      simp [hb] at h
      obtain ⟨rfl, rfl⟩ := h
      have : n' = 0 := Nat.eq_of_beq_eq_true hb
      subst this
      refine ⟨[], trivial, fun _ => rfl, fun w2 _ => ?_⟩
      simp [Builtin.firstCells, loadCells, loadCellsFrom]
    | false =>
      simp only [hb, cond_false] at h
      cases hle : Nat.ble n' c with
      | false => simp [hle] at h
      | true =>
        simp only [hle, cond_true] at h
        have hle' : n' ≤ c := Nat.le_of_ble_eq_true hle
        have hn0 : n' ≠ 0 := fun e => by rw [e] at hb; simp [Nat.beq] at hb
        split at h
        · rename_i l hl
          simp at h
          obtain ⟨rfl, rfl⟩ := h
          obtain ⟨ds, c2, k, x, h1, h2, h3, h4⟩ := cells_there hs hl (slice_addr hsr (by omega))
          refine ⟨ds, h3, fun _ => rfl, fun w2 e => run_firstCells_at h2 ?_ (range_of_heap e h4)⟩
          rw [← h3.length]; exact (cellsAt_get hl).choose_spec.choose_spec.choose_spec.2.1
        · cases h
  · rename_i s
    cases hx
    simp at h
    obtain ⟨rfl, rfl⟩ := h
    refine ⟨s.data.toList.map fun b => .int .u8 b.toNat, ?_, fun _ => rfl, fun w2 _ => ?_⟩
    · refine LRel.of_get rfl fun i v hv => ⟨v, hv, ?_⟩
      simp only [List.getElem?_map, Option.map_eq_some_iff] at hv
      obtain ⟨u, _, rfl⟩ := hv
      exact .int _ _
    · have he : s.extract 0 s.size = s := by simp
      simp only [Builtin.firstCells, Sem.run_pure, he]
      congr 1
      apply Array.ext'; simp
  · cases h
end Go.AX
namespace Go.AX
open Go Go.RowKit
set_option linter.unusedVariables false
set_option linter.unusedSimpArgs false

variable {P : Program}

theorem Sim.congr {ρ : Rho} {base : Nat} {H H' : AHeap} {w : World} (h : Sim ρ base H w) (e : ∀ b, H'.get b = H.get b) : Sim ρ base H' w where
  alive b x hb := by rw [e]; exact h.alive b x hb
  bsz := h.bsz
  inb := h.inb
  obj b o hb := h.obj b o (by rw [← e]; exact hb)
  apart b b' c k x k' x' ho := h.apart b b' c k x k' x' (by simpa [ownB, e] using ho)
theorem Step.congr {ρ ρ' : Rho} {H H' H1 : AHeap} {w w' : World} (h : Step ρ H w ρ' H' w') (e : ∀ b, H1.get b = H'.get b) : Step ρ H w ρ' H1 w' :=
  ⟨h.os, h.tape, h.output, h.size, h.block, fun b c k x ho => h.own b c k x (by simpa [ownB, e] using ho), fun b c k x h1 h2 => ⟨(h.keep b c k x h1 h2).1, fun h3 => (h.keep b c k x h1 h2).2 (by simpa [ownB, e] using h3)⟩, h.src⟩
theorem push_get (H : AHeap) (o : AObj) (b : Nat) : (H.push o).get b = (H.set H.next o).get b := by rw [AHeap.get_push, AHeap.get_set]

theorem Step.of_heap {ρ : Rho} {H : AHeap} {w w' : World} (e : w'.heap = w.heap) (h1 : w'.os = w.os) (h2 : w'.tape = w.tape) (h3 : w'.output = w.output) : Step ρ H w ρ H w' :=
  ⟨h1, h2, h3, by rw [e]; exact Nat.le_refl _, fun c _ _ => by rw [e], fun b c k x ho hl => .inr ⟨b, k, x, ho, hl⟩, fun _ _ _ _ h1 h2 => ⟨h1, h2⟩, fun _ _ _ _ h => .inl h⟩

/-- A block that an append has made: in a new row. -/
theorem grow_ok {ρ : Rho} {base : Nat} {H : AHeap} {w : World} (hs : Sim ρ base H w) {cs olds news : List Value} {z : Array Value} {size code need cap : Nat} {e : TypeId} (hf : ρ H.next = .no) (hv : VsRel ρ cs (olds ++ news))
    (hz : z.size = size) (hsz : size ≠ 0) (hcode : szOf code = size) (hct : 1073741824 ≤ code → e = tyOf code) (hcap : need ≤ cap) :
    VRel (upd ρ H.next (.live w.heap.size 0 (cap - need))) (.slice (some ⟨H.next, 0, some 0⟩) need need) (.slice (some ⟨w.heap.size, 0, none⟩) need cap) ∧
    Ok ρ base H w (upd ρ H.next (.live w.heap.size 0 (cap - need))) (H.push (.cells cs code true)) (w.drew.alloc (.cells (olds.toArray ++ news.toArray ++ Builtin.zeroCells z (cap - need)) e)) := by
  have hs' : Sim ρ base H w.drew := hs.of_heap rfl
  have hm : Mono H.next (H.next + 1) ρ (upd ρ H.next (.live w.heap.size 0 (cap - need))) := ⟨fun c hc => .inl (upd_ne _ _ (by omega)), fun c h1 h2 => (show c = H.next by omega) ▸ hf⟩
  have hob : ObjRel (upd ρ H.next (.live w.heap.size 0 (cap - need))) base (w.drew.alloc (.cells (olds.toArray ++ news.toArray ++ Builtin.zeroCells z (cap - need)) e)) H.next (.cells cs code true) := by
    refine obj_new (w := w.drew) (x := cap - need) (upd_same _ _ _) hs.bsz (ds := olds ++ news) (rest := repZ z.toList (cap - need)) ?_ (hv.mono hm) (fun h => absurd (hcode.symm.trans h) hsz) (fun _ => ?_) (fun h => ⟨hct h, fun h0 => absurd (hcode.symm.trans h0) hsz⟩)
    · rw [Array.toList_append, Array.toList_append, zeroCells_list]
    · rw [repZ_get, Array.length_toList, hz, hcode]; exact Nat.le_refl _
  obtain ⟨r1, r2⟩ := sim_new (O := .cells (olds.toArray ++ news.toArray ++ Builtin.zeroCells z (cap - need)) e) hs' hf hob
  refine ⟨.slice ?_, hm, r1.congr (push_get H _), ?_⟩
  · simp only [SRel, upd_same]; exact ⟨.inr (by simp), by omega⟩
  · have h0 : Step ρ H w ρ H w.drew := .of_heap rfl rfl rfl rfl
    exact (h0.trans r2).congr (push_get H _)

theorem there_split {w : World} {c k n m : Nat} (h1 : w.there c k n) (h2 : w.there c (k + n) m) : w.there c k (n + m) := fun j hj => by
  by_cases e : j < n
  · exact h1 j e
  · have := h2 (j - n) (by omega)
    rwa [show k + n + (j - n) = k + j by omega] at this
theorem there_sub {w : World} {c k n k' n' : Nat} (h : w.there c k n) (h1 : k ≤ k') (h2 : k' + n' ≤ k + n) : w.there c k' n' := fun j hj => by
  have := h (k' - k + j) (by omega)
  rwa [show k + (k' - k + j) = k' + j by omega] at this

/-- A block whose room was unknown, and turns out to be enough. -/
theorem place_ok {ρ : Rho} {base : Nat} {H : AHeap} {w : World} (hs : Sim ρ base H w) {b c k x o size code len cap n cap' : Nat} {cs old new news : List Value} (hf : ρ H.next = .no) (hg : H.get b = some (.cells cs code true)) (hb : ρ b = .live c k x)
    (hsz : size ≠ 0) (hcode : szOf code = size) (hcs : o + cap * size = cs.length) (hlc : len ≤ cap) (hold : takeN (len * size) (dropN o cs) = some old) (hnew : VsRel ρ new news) (hnl : new.length = n * size) (hneed : cap < len + n) (hcap : cap' = cap + x) (hroom : len + n ≤ cap') (h1 : ∀ v ∈ news, v.oneCell' = true) :
    ∃ ρ', (storeCells ⟨c, k + o + len * size, none⟩ news).run P w = .ok () (w.setCells c (k + o + len * size) news) ∧
    VRel ρ' (.slice (some ⟨H.next, 0, some 0⟩) (len + n) (len + n)) (.slice (some ⟨c, k + o, none⟩) (len + n) cap') ∧
    Ok ρ base H w ρ' ((H.set b .dead).push (.cells (old ++ new) code true)) (w.setCells c (k + o + len * size) news) := by
  have hob := hs.obj b _ hg
  simp only [ObjRel, hb] at hob
  obtain ⟨hcells, hown, hext, hx0⟩ := hob
  rw [hcode] at hext
  have hlen := hnew.length
  have e1 : (cap + x) * size = cap * size + x * size := Nat.add_mul _ _ _
  have e2 : (len + n) * size = len * size + n * size := Nat.add_mul _ _ _
  have e3 : (len + n) * size ≤ (cap + x) * size := Nat.mul_le_mul_right _ (by omega)
  have hlcs : len * size ≤ cap * size := Nat.mul_le_mul_right _ hlc
  have hall : w.there c k (cs.length + x * size) := there_split (hown trivial).2 (hext hsz)
  have hth : w.there c (k + o + len * size) news.length := there_sub hall (by omega) (by omega)
  obtain ⟨g1, g2, g3, g4, g5⟩ := setCells_other c news (k + o + len * size) w
  have hrun := run_storeCells_cells (P := P) c (k + o + len * size) news 0 w (fun j hj => (hth j hj).1) (fun j hj => (hth j hj).2) h1
  obtain ⟨ol, og⟩ := takeN_get hold
  -- the old block goes
  obtain ⟨s1, s2, s3⟩ := sim_kill hs (cells_own hg) hb
  have hnb : H.next ≠ b := fun e => by rw [e, hb] at hf; cases hf
  obtain ⟨ρ1, hρ1⟩ : ∃ ρ1, ρ1 = upd ρ b (.gone x) := ⟨_, rfl⟩
  rw [← hρ1] at s1 s2 s3
  have hf1 : ρ1 H.next = .no := by rw [hρ1, upd_ne _ _ hnb]; exact hf
  have hfree : ∀ d k1 x1, ρ1 d = .live c k1 x1 → False := fun d k1 x1 hd => by
    rw [hρ1] at hd
    by_cases e : d = b
    · subst e; rw [upd_same] at hd; cases hd
    · rw [upd_ne _ _ e] at hd
      exact e (hs.apart b d c k x k1 x1 (cells_own hg) hb hd).symm
  obtain ⟨ρ2, hρ2⟩ : ∃ ρ2, ρ2 = upd ρ1 H.next (.live c (k + o) (cap' - (len + n))) := ⟨_, rfl⟩
  have hm2 : Mono H.next (H.next + 1) ρ1 ρ2 := by rw [hρ2]; exact ⟨fun d hd => .inl (upd_ne _ _ (by omega)), fun d h1 h2 => (show d = H.next by omega) ▸ hf1⟩
  have hm : Mono H.next (H.next + 1) ρ ρ2 := s3.trans hm2 (Nat.le_refl _) (by omega)
  obtain ⟨w', hw'⟩ : ∃ w', w' = w.setCells c (k + o + len * size) news := ⟨_, rfl⟩
  rw [← hw'] at g1 g2 g3 g4 g5
  refine ⟨ρ2, by simpa using hrun, .slice ?_, ?_⟩
  · rw [hρ2]; simp only [SRel, upd_same]; exact ⟨.inr (by simp), by omega⟩
  rw [← hw']
  refine ⟨hm, ⟨?_, ?_, ?_, ?_, ?_⟩, ⟨g1, g2, g3, by rw [g4]; exact Nat.le_refl _, ?_, ?_, ?_, ?_⟩⟩
  · intro d y hd
    rw [AHeap.get_push]
    by_cases e : d = H.next
    · subst e; rw [hρ2, upd_same] at hd; cases hd
    · rw [if_neg (by simpa using e)]
      rw [hρ2, upd_ne _ _ e] at hd
      exact s1.alive d y hd
  · rw [g4]; exact hs.bsz
  · intro d q1 q2 q3 hd
    rw [g4]
    by_cases e : d = H.next
    · subst e; rw [hρ2, upd_same] at hd; cases hd; exact hs.inb b _ _ _ hb
    · rw [hρ2, upd_ne _ _ e] at hd; exact s1.inb d _ _ _ hd
  · intro d ob hd
    rw [AHeap.get_push] at hd
    split at hd
    · rename_i e
      have e' : d = H.next := by simpa using e
      cases hd
      subst e'
      have hl2 : ρ2 H.next = .live c (k + o) (cap' - (len + n)) := by rw [hρ2, upd_same]
      simp only [ObjRel, hl2]
      refine ⟨fun i v hi => ?_, fun _ => ⟨(hown trivial).1, ?_⟩, fun _ => ?_, fun h => absurd (hcode.symm.trans h) hsz, fun h => ?_⟩
      · by_cases hi2 : i < len * size
        · rw [List.getElem?_append_left (by omega), og i hi2, dropN_get] at hi
          obtain ⟨v', h3, h4⟩ := hcells (o + i) v hi
          refine ⟨v', ?_, (h4.mono hm)⟩
          rw [hw', World.cell?_setCells_out c news _ w ⟨c, k + o + i, none⟩ (fun _ _ => by left; show k + o + i < k + o + len * size; omega), Nat.add_assoc]
          exact h3
        · rw [List.getElem?_append_right (by omega), ol] at hi
          obtain ⟨v', h3, h4⟩ := hnew.get _ v hi
          have hj : i - len * size < news.length := (List.getElem?_eq_some_iff.1 h3).1
          have := World.cell?_setCells_in c news (k + o + len * size) w (fun j hj => (hth j hj).1) (i - len * size) hj
          rw [show k + o + len * size + (i - len * size) = k + o + i by omega] at this
          refine ⟨v', ?_, h4.mono hm⟩
          rw [hw', this, ← h3, List.getElem?_eq_getElem hj]
      · rw [hw']
        refine World.there_setCells (there_sub hall (by omega) ?_) _ _ _
        rw [List.length_append, ol, hnl]; omega
      · rw [hw']
        refine World.there_setCells (there_sub hall (by omega) ?_) _ _ _
        rw [List.length_append, ol, hnl, hcode, Nat.sub_mul, hcap]; omega
      · obtain ⟨ds, ty, fr, hd, hn0, hn1, hn⟩ := hx0.2 h
        obtain ⟨ds', hd', _⟩ := setCells_type c news (k + o + len * size) w hd
        exact ⟨ds', ty, fr, by rw [hw']; exact hd', hn0, hn1, fun h0 => absurd (hcode.symm.trans h0) hsz⟩
    · rename_i e
      have e' : d ≠ H.next := by simpa using e
      refine (s1.obj d ob hd).keep hm2 (by omega) fun q k1 x1 hq => g5 q fun e => ?_
      subst e; exact hfree d k1 x1 hq
  · intro d d' q k1 y1 k2 y2 ho1 h1 h2
    by_cases e : d = H.next
    · by_cases e' : d' = H.next
      · rw [e, e']
      · subst e
        rw [hρ2, upd_same] at h1; rw [hρ2, upd_ne _ _ e'] at h2; cases h1
        exact (hfree d' _ _ h2).elim
    · rw [hρ2, upd_ne _ _ e] at h1
      have ho2 : ownB (H.set b .dead) d := by simpa [ownB, AHeap.get_push, e] using ho1
      by_cases e' : d' = H.next
      · subst e'; rw [hρ2, upd_same] at h2; cases h2
        exact (hfree d _ _ h1).elim
      · rw [hρ2, upd_ne _ _ e'] at h2; exact s1.apart d d' q k1 y1 k2 y2 ho2 h1 h2
  · intro q hq hn
    refine g5 q fun e => ?_
    subst e; exact hn b k x (cells_own hg) hb
  · intro d q k1 y1 ho1 h1
    by_cases e : d = H.next
    · subst e; rw [hρ2, upd_same] at h1; cases h1; exact .inr ⟨b, k, x, cells_own hg, hb⟩
    · rw [hρ2, upd_ne _ _ e] at h1
      have ho2 : ownB (H.set b .dead) d := by simpa [ownB, AHeap.get_push, e] using ho1
      exact s2.own d q k1 y1 ho2 h1
  · intro d q k1 y1 hl hn
    obtain ⟨h1, h2⟩ := s2.keep d q k1 y1 hl hn
    have e : d ≠ H.next := fun e => by rw [e, hf] at hl; cases hl
    exact ⟨by rw [hρ2, upd_ne _ _ e]; exact h1, fun h => h2 (by simpa [ownB, AHeap.get_push, e] using h)⟩
  · intro d q k1 y1 hl
    by_cases e : d = H.next
    · subst e; rw [hρ2, upd_same] at hl; cases hl; exact .inr (.inr ⟨b, k, x, cells_own hg, hb⟩)
    · rw [hρ2, upd_ne _ _ e] at hl; exact s2.src d q k1 y1 hl
end Go.AX
namespace Go.AX
open Go Go.RowKit
set_option linter.unusedVariables false
set_option linter.unusedSimpArgs false

variable {P : Program}

theorem putAt_nil (cs : List Value) (o : Nat) : putAt cs o [] = some cs := by cases cs <;> rfl

theorem set_same {H : AHeap} {b : Nat} {o : AObj} (h : H.get b = some o) (d : Nat) : (H.set b o).get d = H.get d := by
  rw [AHeap.get_set]; split
  · rename_i e; rw [e, h]
  · rfl

/-- What append comes to, out of what the machine does with room and without. -/
theorem appTo_ok {ρ : Rho} {base0 : Nat} {H : AHeap} {w : World} (hs : Sim ρ base0 H w) {size code by_ len cap n : Nat} {base : Option Addr} {new news : List Value} {sv v : Value} {H' : AHeap} {ev : Ev} {z : Array Value} {e : TypeId}
    (h : aAppendTo H size code by_ base len cap n new = some (.val v H' ev)) (hx : VRel ρ (.slice base len cap) sv) (hnew : VsRel ρ new news) (hz : z.size = size) (hsz : size ≠ 0) (hcode : szOf code = size) (hct : 1073741824 ≤ code → e = tyOf code) (hby : by_ ≠ 0) (hf : ∀ b, H.next ≤ b → b < H'.next → ρ b = .no)
    (run : Value → Sem Value)
    (hR : ∀ (base' : Option Addr) (cap' : Nat) (w' : World), len + n ≤ cap' → (∀ a, base' = some a → (storeCells (a.add (len * size)) news).run P w = .ok () w') → (base' = none → w' = w) → (run (.slice base' len cap')).run P w = .ok (.slice base' (len + n) cap') w')
    (hG : ∀ (base' : Option Addr) (cap' : Nat) (olds : List Value), cap' < len + n → (∀ w2, w2.heap = w.heap → (Builtin.firstCells size len (.slice base' len cap')).run P w2 = .ok olds.toArray w2) → (len + n) * by_ ≤ 2 ^ 47 → len + n ≤ 2 ^ 47 →
      ∃ ncap, len + n ≤ ncap ∧ (run (.slice base' len cap')).run P w = .ok (.slice (some ⟨w.heap.size, 0, none⟩) (len + n) ncap) (w.drew.alloc (.cells (olds.toArray ++ news.toArray ++ Builtin.zeroCells z (ncap - (len + n))) e))) :
    ev = .eff H H' ∧ ∃ v' w' ρ', (run sv).run P w = .ok v' w' ∧ VRel ρ' v v' ∧ Ok ρ base0 H w ρ' H' w' := by
  unfold aAppendTo at h
  simp only at h
  cases hc : Nat.ble ((len + n) * by_) (2 ^ 47) && Nat.ble (len + n) (2 ^ 47) && Nat.beq new.length (n * size) && Nat.ble len cap && allOne new with
  | false => rw [hc] at h; simp at h
  | true =>
  rw [hc] at h
  simp only [cond_true] at h
  simp only [Bool.and_eq_true] at hc
  obtain ⟨⟨⟨⟨c1, c2⟩, c3⟩, c4⟩, c5⟩ := hc
  have hb47 : (len + n) * by_ ≤ 2 ^ 47 := Nat.le_of_ble_eq_true c1
  have hn47 : len + n ≤ 2 ^ 47 := Nat.le_of_ble_eq_true c2
  have hnl : new.length = n * size := Nat.eq_of_beq_eq_true c3
  have hlc : len ≤ cap := Nat.le_of_ble_eq_true c4
  have h1 := allOne_rel c5 hnew
  split at h
  · -- nil
    cases hx
    cases hz0 : Nat.beq (len + n) 0 with
    | true =>
      simp [hz0] at h
      obtain ⟨rfl, rfl, rfl⟩ := h
      have h0 : len + n = 0 := Nat.eq_of_beq_eq_true hz0
      refine ⟨rfl, .slice none (len + n) cap, w, ρ, hR none cap w (by omega) (fun a ha => by cases ha) (fun _ => rfl), ?_, Ok.refl hs⟩
      rw [h0]; exact .snil _ _
    | false =>
      simp only [hz0, cond_false] at h
      cases hz1 : Nat.beq cap 0 && Nat.beq len 0 with
      | false => simp [hz1] at h
      | true =>
        simp [hz1] at h
        obtain ⟨rfl, rfl, rfl⟩ := h
        rw [Bool.and_eq_true] at hz1
        have e1 : cap = 0 := Nat.eq_of_beq_eq_true hz1.1
        have e2 : len = 0 := Nat.eq_of_beq_eq_true hz1.2
        have e3 : len + n ≠ 0 := fun e => by rw [e] at hz0; simp [Nat.beq] at hz0
        obtain ⟨ncap, g1, g2⟩ := hG none cap [] (by omega) (fun w2 _ => rfl) hb47 hn47
        obtain ⟨r1, r2⟩ := grow_ok (cs := new) (olds := []) (e := e) (need := len + n) hs (hf H.next (Nat.le_refl _) (by simp)) (by simpa using hnew) hz hsz hcode hct g1
        exact ⟨rfl, _, _, _, g2, r1, r2⟩
  · rename_i b o s
    cases hx
    rename_i a' cap' hsr
    have hcc : cap ≤ cap' := by
      cases hr : ρ b with
      | no => simp [SRel, hr] at hsr
      | gone x => simp only [SRel, hr] at hsr; omega
      | live c k x => simp only [SRel, hr] at hsr; omega
    have hval : VRel ρ (.slice (some ⟨b, o, s⟩) (len + n) cap) (.slice (some a') (len + n) cap') := .slice hsr
    cases hle : Nat.ble (len + n) cap with
    | true =>
      simp only [hle, cond_true] at h
      have hroom : len + n ≤ cap := Nat.le_of_ble_eq_true hle
      have hstay : n = 0 → (run (.slice (some a') len cap')).run P w = .ok (.slice (some a') (len + n) cap') w := fun h0 => by
        have : news = [] := by
          have : news.length = 0 := by rw [← hnew.length, hnl, h0, Nat.zero_mul]
          exact List.eq_nil_of_length_eq_zero this
        refine hR _ _ _ (by omega) (fun a ha => ?_) (fun h => by cases h)
        rw [this]; rfl
      split at h
      · rename_i cs opn own hg
        cases hon : own || Nat.beq n 0 with
        | false => simp [hon] at h
        | true =>
          simp only [hon, cond_true] at h
          split at h
          · rename_i cs' hcs
            simp at h
            obtain ⟨rfl, rfl, rfl⟩ := h
            by_cases h0 : n = 0
            · have hnil : new = [] := List.eq_nil_of_length_eq_zero (by rw [hnl, h0, Nat.zero_mul])
              rw [hnil, putAt_nil] at hcs
              cases hcs
              have hsame := set_same hg
              exact ⟨rfl, _, w, ρ, hstay h0, hval, ⟨Mono.refl _ _, hs.congr hsame, (Step.refl _ _ _).congr hsame⟩⟩
            · have hown : own = true := by
                cases own with
                | true => rfl
                | false => simp at hon; exact (h0 hon).elim
              subst hown
              have hp := slice_addr hsr (by omega)
              obtain ⟨c, k, x, hr, rfl⟩ := live_of_cells hs hg (by simp) hp
              obtain ⟨r1, r2, r3⟩ := store_own (P := P) hs hg hr hcs hnew h1
              refine ⟨rfl, _, _, ρ, hR _ _ _ (by omega) (fun a ha => ?_) (fun h => by cases h), hval, ⟨Mono.refl _ _, r2, r3⟩⟩
              cases ha
              rw [Addr.add_mid, Nat.add_assoc]; exact r1
          · cases h
      · cases h0 : Nat.beq n 0 with
        | false => simp [h0] at h
        | true =>
          simp [h0] at h
          obtain ⟨rfl, rfl, rfl⟩ := h
          exact ⟨rfl, _, w, ρ, hstay (Nat.eq_of_beq_eq_true h0), hval, Ok.refl hs⟩
    | false =>
      simp only [hle, cond_false] at h
      have hgrow : cap < len + n := by
        rcases Nat.lt_or_ge cap (len + n) with e | e
        · exact e
        · rw [Nat.ble_eq_true_of_le e] at hle; cases hle
      split at h
      · -- a row whose room is known
        split at h
        · rename_i old hold
          simp at h
          obtain ⟨rfl, rfl, rfl⟩ := h
          have hce : cap' = cap := by
            cases hr : ρ b with
            | no => simp [SRel, hr] at hsr
            | gone x => simp only [SRel, hr] at hsr; omega
            | live c k x => simp only [SRel, hr] at hsr; omega
          have holds : ∃ olds, VsRel ρ old olds ∧ ∀ w2, w2.heap = w.heap → (Builtin.firstCells size len (.slice (some a') len cap')).run P w2 = .ok olds.toArray w2 := by
            cases hl0 : Nat.beq (len * size) 0 with
            | true =>
              simp [hl0] at hold; subst hold
              have h0 : len * size = 0 := Nat.eq_of_beq_eq_true hl0
              refine ⟨[], trivial, fun w2 _ => ?_⟩
              simp [Builtin.firstCells, h0, loadCells, loadCellsFrom]
            | false =>
              simp only [hl0, cond_false] at hold
              have hlen0 : len ≠ 0 := fun e => by rw [e, Nat.zero_mul] at hl0; simp [Nat.beq] at hl0
              obtain ⟨ds, c2, k, x, q1, q2, q3, q4⟩ := cells_there hs hold (slice_addr hsr (by omega))
              refine ⟨ds, q3, fun w2 e => run_firstCells_at q2 ?_ (range_of_heap e q4)⟩
              rw [← q3.length]; exact (cellsAt_get hold).choose_spec.choose_spec.choose_spec.2.1
          obtain ⟨olds, ho1, ho2⟩ := holds
          obtain ⟨ncap, g1, g2⟩ := hG (some a') cap' olds (by omega) ho2 hb47 hn47
          obtain ⟨r1, r2⟩ := grow_ok (cs := old ++ new) (olds := olds) (e := e) (need := len + n) hs (hf H.next (Nat.le_refl _) (by simp)) (LRel.append ho1 hnew) hz hsz hcode hct g1
          exact ⟨rfl, _, _, _, g2, r1, r2⟩
        · cases h
      · -- a row whose room is not known
        split at h
        · rename_i cs esz hg
          cases hcc2 : Nat.beq esz code && Nat.beq (o + cap * size) cs.length && Nat.ble len cap with
          | false => simp [hcc2] at h
          | true =>
            simp only [hcc2, cond_true] at h
            simp only [Bool.and_eq_true] at hcc2
            obtain ⟨⟨d1, d2⟩, _⟩ := hcc2
            have e1 : esz = code := Nat.eq_of_beq_eq_true d1
            have e2 : o + cap * size = cs.length := Nat.eq_of_beq_eq_true d2
            subst e1
            split at h
            · rename_i old hold
              simp at h
              obtain ⟨rfl, rfl, rfl⟩ := h
              have hfn := hf H.next (Nat.le_refl _) (by simp)
              cases hr : ρ b with
              | no => simp [SRel, hr] at hsr
              | gone x => rcases hs.alive b x hr with e | e <;> rw [hg] at e <;> cases e
              | live c k x =>
                have hsr' := hsr
                simp only [SRel, hr] at hsr'
                by_cases hroom : len + n ≤ cap'
                · have ha : a' = ⟨c, k + o, none⟩ := by
                    rcases hsr'.1 with e | e
                    · omega
                    · exact e
                  subst ha
                  obtain ⟨ρ', p1, p2, p3⟩ := place_ok (P := P) hs hfn hg hr hsz hcode e2 hlc hold hnew hnl hgrow hsr'.2 hroom h1
                  refine ⟨rfl, _, _, ρ', hR _ _ _ hroom (fun a ha => ?_) (fun h => by cases h), p2, p3⟩
                  cases ha
                  rw [Addr.add_mid]; exact p1
                · -- a new row
                  obtain ⟨s1, s2, s3⟩ := sim_kill hs (cells_own hg) hr
                  have hob := hs.obj b _ hg
                  simp only [ObjRel, hr] at hob
                  obtain ⟨ol, og⟩ := takeN_get hold
                  have hca : cellsAt H b o (len * size) = some old := by simp only [cellsAt, hg]; exact hold
                  have holds : ∃ olds, VsRel ρ old olds ∧ ∀ w2, w2.heap = w.heap → (Builtin.firstCells size len (.slice (some a') len cap')).run P w2 = .ok olds.toArray w2 := by
                    by_cases hl0 : len = 0
                    · have : old = [] := List.eq_nil_of_length_eq_zero (by rw [ol, hl0, Nat.zero_mul])
                      rw [this, hl0]
                      refine ⟨[], trivial, fun w2 _ => ?_⟩
                      simp [Builtin.firstCells, loadCells, loadCellsFrom]
                    · obtain ⟨ds, c2, k2, x2, q1, q2, q3, q4⟩ := cells_there hs hca (slice_addr hsr (by omega))
                      refine ⟨ds, q3, fun w2 e => run_firstCells_at q2 ?_ (range_of_heap e q4)⟩
                      rw [← q3.length, ol]
                  obtain ⟨olds, ho1, ho2⟩ := holds
                  obtain ⟨ncap, g1, g2⟩ := hG (some a') cap' olds (by omega) ho2 hb47 hn47
                  have hnb : H.next ≠ b := fun e => by rw [e, hr] at hfn; cases hfn
                  have hfn1 : upd ρ b (.gone x) H.next = .no := by rw [upd_ne _ _ hnb]; exact hfn
                  obtain ⟨r1, r2⟩ := grow_ok (H := H.set b .dead) (cs := old ++ new) (olds := olds) (e := e) (need := len + n) s1 hfn1 (VsRel.mono s3 (LRel.append ho1 hnew)) hz hsz hcode hct g1
                  refine ⟨rfl, _, _, _, g2, r1, ⟨s3.trans r2.mono (Nat.le_refl _) (by simp), r2.sim, s2.trans r2.step⟩⟩
            · cases h
        · cases h

theorem notInt_of {ts : Array TypeId} (h : (match ts[1]? with | some u => (match P.underlying u with | some d => some (isIntD d) | none => none) | none => some false) = some false) : NotInt P ts := by
  cases h1 : ts[1]? with
  | none => exact .inl h1
  | some u =>
    rw [h1] at h
    simp only at h
    cases h2 : P.underlying u with
    | none => rw [h2] at h; cases h
    | some d => rw [h2] at h; simp at h; exact .inr ⟨u, d, h1, h2, h⟩
theorem int_of {ts : Array TypeId} (h : (match ts[1]? with | some u => (match P.underlying u with | some d => some (isIntD d) | none => none) | none => some false) = some true) : ∃ u k, ts[1]? = some u ∧ P.underlying u = some (.int k) := by
  cases h1 : ts[1]? with
  | none => rw [h1] at h; cases h
  | some u =>
    rw [h1] at h
    simp only at h
    cases h2 : P.underlying u with
    | none => rw [h2] at h; cases h
    | some d => rw [h2] at h; simp at h; cases d <;> simp [isIntD] at h; exact ⟨u, _, rfl, h2⟩

theorem append_ok {ρ : Rho} {base0 : Nat} {H : AHeap} {w : World} (hs : Sim ρ base0 H w) {ts : Array TypeId} {args : List Value} {args' : Array Value} {ty : TypeId} {v : Value} {H' : AHeap} {ev : Ev}
    (h : aAppend P H ts args = some (.val v H' ev)) (ha : VsRel ρ args args'.toList) (hf : ∀ b, H.next ≤ b → b < H'.next → ρ b = .no) :
    ev = .eff H H' ∧ ∃ v' w' ρ', (Builtin.append_ ts ty args').run P w = .ok v' w' ∧ VRel ρ' v v' ∧ Ok ρ base0 H w ρ' H' w' := by
  unfold aAppend at h
  split at h
  · rename_i t base len cap x ht
    obtain ⟨sv, x', rfl, hsv, hxr⟩ : ∃ sv x', args' = #[sv, x'] ∧ VRel ρ (.slice base len cap) sv ∧ VRel ρ x x' := by
      obtain ⟨l⟩ := args'
      match l, ha with
      | [a, b], ha => exact ⟨a, b, rfl, ha.1, ha.2.1⟩
    split at h
    · rename_i e hu
      split at h
      · rename_i size by_ z hsize hby hz
        cases hb0 : Nat.beq by_ 0 || Nat.beq size 0 || !(Nat.beq z.cells.size size) || Nat.ble 1073741824 size with
        | true => simp [hb0] at h
        | false =>
          simp only [hb0, cond_false] at h
          rw [Bool.or_eq_false_iff, Bool.or_eq_false_iff, Bool.or_eq_false_iff, Bool.not_eq_false'] at hb0
          obtain ⟨⟨⟨hb1, hb2⟩, hb3⟩, hb4⟩ := hb0
          have hlt0 : size < 1073741824 := Nat.lt_of_not_le fun h => by rw [Nat.ble_eq_true_of_le h] at hb4; cases hb4
          have hby0 : by_ ≠ 0 := fun e => by rw [e] at hb1; simp [Nat.beq] at hb1
          have hsz0 : size ≠ 0 := fun e => by rw [e] at hb2; simp [Nat.beq] at hb2
          have hzs' : z.cells.size = size := Nat.eq_of_beq_eq_true hb3
          have hzr : VsRel ρ z.cells.toList z.cells.toList := (vrel_plain ρ 9 z (run_zero (P := P) hz default).2).cells
          split at h
          · rename_i hint
            obtain ⟨u, k, hu1, hu2⟩ := int_of hint
            split at h
            · rename_i k' l
              split at h
              · rename_i hl
                cases hxr
                refine appTo_ok (P := P) hs h hsv (repZ_rel hzr l.toNat) hzs' hsz0 (szOf_rowV hlt0) (fun _ => (tyOf_rowV hlt0).symm) hby0 hf (fun s => Builtin.append_ ts ty #[s, .int k' l]) ?_ ?_ (e := e)
                · intro base' cap' w' hroom h1 h2
                  exact app_room0 ht hu hsize hby hz hzs' hu1 hu2 hl.1 hl.2.1 hl.2.2 hroom h1 h2
                · intro base' cap' olds hgr hold hb hn
                  exact app_grow0 ht hu hsize hby hz hzs' hby0 hu1 hu2 hl.1 hl.2.1 hl.2.2 hgr hold hb hn
              · cases h
            · cases h
          · rename_i hint
            have hni := notInt_of hint
            split at h
            · rename_i n new hsrc
              obtain ⟨news, q1, q2, q3⟩ := src_run (P := P) hs hsrc hxr
              refine appTo_ok (P := P) hs h hsv q1 hzs' hsz0 (szOf_rowV hlt0) (fun _ => (tyOf_rowV hlt0).symm) hby0 hf (fun s => Builtin.append_ ts ty #[s, x']) ?_ ?_ (e := e)
              · intro base' cap' w' hroom h1 h2
                exact app_room ht hu hsize hni (q2 w) (q3 w rfl) hroom h1 h2
              · intro base' cap' olds hgr hold hb hn
                exact app_grow ht hu hsize hby hz hby0 hni (q2 w) q3 hgr hold hb
            · cases h
          · cases h
      · cases h
    · cases h
  · cases h
end Go.AX
