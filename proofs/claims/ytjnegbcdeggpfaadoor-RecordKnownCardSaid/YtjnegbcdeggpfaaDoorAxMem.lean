/- Operations that make and read memory. -/
import Derived.Test.YtjnegbcdeggpfaaDoorAxQuiet
import Derived.ArgAppend
namespace Go.AX
open Go Go.RowKit
set_option linter.unusedVariables false
set_option linter.unusedSimpArgs false

variable {P : Program}

/-! ### what is made -/
theorem cell_alloc {w : World} {arr : Array Value} {e : TypeId} {i : Nat} {v : Value} (h : arr[i]? = some v) : (w.alloc (.cells arr e)).cell? ⟨w.heap.size, i, none⟩ = some v := by
  unfold World.cell?
  rw [show (w.alloc (.cells arr e)).heap[(⟨w.heap.size, i, none⟩ : Addr).block]? = some (.cells arr e) from heap_alloc_eq _ _]
  simp [h]
theorem frozen_alloc {w : World} {arr : Array Value} {e : TypeId} {i : Nat} : (w.alloc (.cells arr e)).frozen? ⟨w.heap.size, i, none⟩ = false := by
  unfold World.frozen?
  rw [show (w.alloc (.cells arr e)).heap[(⟨w.heap.size, i, none⟩ : Addr).block]? = some (.cells arr e) from heap_alloc_eq _ _]
  simp
theorem there_alloc {w : World} {arr : Array Value} {e : TypeId} {k n : Nat} (h : k + n ≤ arr.size) : (w.alloc (.cells arr e)).there w.heap.size k n := fun j hj => by
  refine ⟨?_, frozen_alloc⟩
  rw [cell_alloc (v := arr[k + j]'(by omega)) (Array.getElem?_eq_getElem _)]; rfl

/-- A new row's object. -/
theorem obj_new {ρ : Rho} {base b : Nat} {w : World} {cs ds rest : List Value} {arr : Array Value} {e : TypeId} {esz x : Nat} (hb : ρ b = .live w.heap.size 0 x) (hbase : base ≤ w.heap.size)
    (ha : arr.toList = ds ++ rest) (hv : VsRel ρ cs ds) (hx : szOf esz = 0 → x = 0) (hr : szOf esz ≠ 0 → x * szOf esz ≤ rest.length) (hty : 1073741824 ≤ esz → e = tyOf esz ∧ (szOf esz = 0 → rest = [])) : ObjRel ρ base (w.alloc (.cells arr e)) b (.cells cs esz true) := by
  have hlen := hv.length
  have hsz : arr.size = ds.length + rest.length := by rw [← Array.length_toList, ha, List.length_append]
  simp only [ObjRel, hb]
  refine ⟨fun i v hi => ?_, fun _ => ⟨hbase, there_alloc (by omega)⟩, fun h => there_alloc (by have := hr h; omega), hx, fun h => ⟨arr, _, (0, 0), by rw [heap_alloc_eq, (hty h).1], fun _ => rfl, fun _ => rfl, fun h0 => ⟨rfl, by rw [hsz, hlen, (hty h).2 h0]; rfl, rfl⟩⟩⟩
  obtain ⟨v', hv', hr'⟩ := hv.get i v hi
  refine ⟨v', ?_, hr'⟩
  rw [Nat.zero_add]
  refine cell_alloc ?_
  have hl : i < ds.length := (List.getElem?_eq_some_iff.1 hv').1
  rw [← Array.getElem?_toList, ha, List.getElem?_append_left hl]; exact hv'

theorem repZ_get (z : List Value) : ∀ (n : Nat), (repZ z n).length = n * z.length
  | 0 => by simp [repZ]
  | n + 1 => by simp only [repZ, List.length_append, repZ_get z n, Nat.succ_mul]; omega
theorem repZ_idx (z : List Value) (hz : 0 < z.length) : ∀ (n i : Nat), i < n * z.length → (repZ z n)[i]? = z[i % z.length]?
  | 0, i, h => by simp at h
  | n + 1, i, h => by
    simp only [repZ]
    by_cases hi : i < z.length
    · rw [List.getElem?_append_left hi, Nat.mod_eq_of_lt hi]
    · rw [List.getElem?_append_right (by omega), repZ_idx z hz n (i - z.length) (by rw [Nat.succ_mul] at h; omega)]
      congr 1
      rw [Nat.mod_eq_sub_mod (a := i) (by omega)]
theorem repZ_zero (z : List Value) (n : Nat) (h : z.length = 0) : repZ z n = [] := by
  have := repZ_get z n
  rw [h, Nat.mul_zero] at this
  exact List.eq_nil_of_length_eq_zero this

/-- The model's own way of spelling n zero values. -/
theorem zero_row (z : Array Value) (n : Nat) : ((Array.range (n * z.size)).map (z[· % z.size]!)).toList = repZ z.toList n := by
  apply List.ext_getElem?
  intro i
  by_cases h : i < n * z.size
  · have hz : 0 < z.size := by rcases Nat.eq_zero_or_pos z.size with e | e
                               · rw [e, Nat.mul_zero] at h; omega
                               · exact e
    rw [repZ_idx z.toList (by simpa using hz) n i (by simpa using h)]
    have hm : i % z.size < z.size := Nat.mod_lt _ hz
    simp [h, hm, getElem!_pos]
  · rw [List.getElem?_eq_none (by simpa using h), List.getElem?_eq_none (by rw [repZ_get]; simpa using h)]
theorem repZ_rel {ρ : Rho} {z z' : List Value} (h : VsRel ρ z z') : ∀ n, VsRel ρ (repZ z n) (repZ z' n)
  | 0 => trivial
  | n + 1 => LRel.append h (repZ_rel h n)

theorem wrap_small {n : Int} (h0 : 0 ≤ n) (h1 : n ≤ 2 ^ 62) : IntKind.i64.wrap n = n := by
  have h2 : n ≤ 4611686018427387904 := by simpa using h1
  have : n % 18446744073709551616 = n := Int.emod_eq_of_lt h0 (by omega)
  simp [IntKind.wrap, IntKind.bits, IntKind.signed, this]
  omega

/-- What 'aMake' tells is what the machine makes, at whatever place it is booked. -/
theorem make_run {ρ : Rho} {f : Fr} {a : Act} {o : Oper} {ob : AObj} {vf : Nat → Value} (hf : FRel ρ f a) (h : aMake P f o.op = some (ob, vf)) (w : World) (base : Nat) (hbase : base ≤ w.heap.size) :
    ∃ v' O, (execOp a.eval o).run P w = .ok (.value v') (w.alloc O) ∧ ∀ b, ρ b = .no → ∀ ρ', ρ' = upd ρ b (.live w.heap.size 0 0) → VRel ρ' (vf b) v' ∧ ObjRel ρ' base (w.alloc O) b ob := by
  have hmono : ∀ b, ρ b = .no → Mono b (b + 1) ρ (upd ρ b (.live w.heap.size 0 0)) := fun b hb => ⟨fun c hc => .inl (upd_ne _ _ (by omega)), fun c h1 h2 => (show c = b by omega) ▸ hb⟩
  cases ho : o.op <;> simp only [ho, aMake] at h <;> try (cases h; done)
  case alloc e =>
    split at h
    · rename_i z hz
      simp [mkTyped] at h
      obtain ⟨rfl, rfl⟩ := h
      have hr := run_zero (P := P) hz w
      refine ⟨.pointer (some ⟨w.heap.size, 0, none⟩), .cells z.cells e, ?_, fun b hb ρ' hρ => ?_⟩
      · simp only [execOp, ho, Instr.alloc, newVar, newRow, Sem.run_bind, hr.1, Result.andThen_ok, run_newObj, Sem.run_pure]; rfl
      · subst hρ
        refine ⟨.ptr (by simp [PRel, upd_same]), ?_⟩
        exact obj_new (upd_same _ _ _) hbase (ds := z.cells.toList) (rest := []) (by simp) (vrel_plain _ 9 z hr.2).cells (fun _ => rfl) (fun _ => by simp) (fun h => ⟨(tyOf_rowV (by decide)).symm, fun _ => rfl⟩)
    · cases h
  case box e x =>
    split at h
    · rename_i v hv
      simp [mkVar] at h
      obtain ⟨rfl, rfl⟩ := h
      have hvr := evO_rel hf hv
      refine ⟨.pointer (some ⟨w.heap.size, 0, none⟩), .cells (a.eval x).cells e, ?_, fun b hb ρ' hρ => ?_⟩
      · simp only [execOp, ho, Instr.box, newVar, newRow, Sem.run_bind, Result.andThen_ok, run_newObj, Sem.run_pure]; rfl
      · subst hρ
        refine ⟨.ptr (by simp [PRel, upd_same]), ?_⟩
        exact obj_new (upd_same _ _ _) hbase (ds := (a.eval x).cells.toList) (rest := []) (by simp) (hvr.mono (hmono b hb)).cells (fun _ => rfl) (fun h => absurd rfl h) (fun h => absurd h (by decide))
    · cases h
  case buildSlice t len ps =>
    split at h
    · rename_i l hl
      have hlr := partsL_rel hf hl
      unfold aBuildSlice at h
      split at h
      · rename_i e hu
        split at h
        · rename_i z n hz hn
          have hr := run_zero (P := P) hz w
          cases hb1 : Nat.ble (len * n) (2 ^ 24) && Nat.beq z.cells.size n with
          | false => simp [hb1] at h
          | true =>
            simp only [hb1, cond_true] at h
            rw [Bool.and_eq_true] at hb1
            have hle : len * n ≤ 2 ^ 24 := Nat.le_of_ble_eq_true hb1.1
            have hzs : z.cells.size = n := Nat.eq_of_beq_eq_true hb1.2
            split at h
            · rename_i cs hcs
              simp [mkSlice] at h
              obtain ⟨rfl, rfl⟩ := h
              -- the zero cells
              obtain ⟨zc, hzc⟩ : ∃ zc : Array Value, zc = (if len * n = 0 then #[] else z.cells) := ⟨_, rfl⟩
              have hzrow : ((Array.range (len * n)).map (zc[· % zc.size]!)).toList = repZ z.cells.toList len := by
                by_cases e0 : len * n = 0
                · rw [e0]; simp
                  have : (repZ z.cells.toList len).length = 0 := by rw [repZ_get]; simp [hzs, e0]
                  exact (List.eq_nil_of_length_eq_zero this)
                · rw [hzc, if_neg e0]
                  have := zero_row z.cells len
                  rw [hzs] at this
                  rw [hzs]; exact this
              have hzz : VsRel ρ (repZ z.cells.toList len) ((Array.range (len * n)).map (zc[· % zc.size]!)).toList := by
                rw [hzrow]; exact repZ_rel (vrel_plain _ 9 z hr.2).cells len
              obtain ⟨arr', ha, hrel⟩ := fill_rel hcs hlr hzz
              refine ⟨.slice (some ⟨w.heap.size, 0, none⟩) len len, .cells arr' e, ?_, fun b hb ρ' hρ => ?_⟩
              · have hps : ps.map (fun (x : Nat × Operand) => (x.1, a.eval x.2)) = (ps.toList.map fun (i, x) => (i, a.eval x)).toArray := by apply Array.ext'; simp only [Array.toList_map]
                have hn24 : ¬ (len * n > 2 ^ 24) := by omega
                simp only [execOp, ho, Sem.run_bind]
                rw [hps]
                simp only [Instr.buildSlice, Sem.run_bind, run_under hu, Result.andThen_ok, run_size hn]
                rw [if_neg hn24]
                by_cases e0 : len * n = 0
                · have hzc0 : zc = #[] := by rw [hzc, if_pos e0]
                  rw [hzc0] at ha
                  rw [if_pos e0]
                  simp only [Sem.run_bind, Sem.run_pure, Result.andThen_ok, ha, newRow, run_newObj]
                  rfl
                · have hzc0 : zc = z.cells := by rw [hzc, if_neg e0]
                  rw [hzc0] at ha
                  rw [if_neg e0]
                  simp only [Sem.run_bind, Sem.run_pure, Result.andThen_ok, hr.1, ha, newRow, run_newObj]
                  rfl
              · subst hρ
                refine ⟨.slice (by simp [SRel, upd_same]), ?_⟩
                exact obj_new (upd_same _ _ _) hbase (ds := arr'.toList) (rest := []) (by simp) (hrel.mono (hmono b hb)) (fun _ => rfl) (fun h => absurd rfl h) (fun h => absurd h (by decide))
            · cases h
        · cases h
      · cases h
    · cases h
  case makeSlice t l c =>
    split at h
    · rename_i lv cv hl hc
      have hlr := evO_rel hf hl
      have hcr := evO_rel hf hc
      generalize hlv : a.eval l = lv' at hlr
      generalize hcv : a.eval c = cv' at hcr
      unfold aMakeSlice at h
      split at h
      · rename_i e k1 l k2 c hu
        cases hlr; cases hcr
        split at h
        · rename_i z by_ sz hz hby hsz
          have hr := run_zero (P := P) hz w
          split at h
          · rename_i hb
            obtain ⟨hl0, hlc, hcb, hc47⟩ := hb
            cases hbz : Nat.beq z.cells.size sz with
            | false => simp [hbz] at h
            | true =>
              have hzs : z.cells.size = sz := Nat.eq_of_beq_eq_true hbz
              simp only [hbz, cond_true, mkSlice, Option.some.injEq, Prod.mk.injEq] at h
              obtain ⟨rfl, rfl⟩ := h
              obtain ⟨i, hi, hib⟩ : ∃ i, P.info? e = some i ∧ i.bytes = by_ := by
                unfold bytesT at hby
                cases hi : P.info? e with
                | none => simp [hi] at hby
                | some i => simp [hi] at hby; exact ⟨i, rfl, hby⟩
              have hwl : IntKind.i64.wrap l = l := wrap_small hl0 (by omega)
              have hwc : IntKind.i64.wrap c = c := wrap_small (by omega) (by omega)
              have hlarge : (decide (c < 0) || decide ((by_ : Int) * c > 2 ^ 48)) = false := by
                rw [Int.mul_comm]
                simp; omega
              obtain ⟨zc, hzc⟩ : ∃ zc : Array Value, zc = (if c.toNat * sz = 0 then #[] else z.cells) := ⟨_, rfl⟩
              have hzrow : ((Array.range (c.toNat * sz)).map (zc[· % zc.size]!)).toList = repZ z.cells.toList c.toNat := by
                by_cases e0 : c.toNat * sz = 0
                · rw [e0]; simp
                  have : (repZ z.cells.toList c.toNat).length = 0 := by rw [repZ_get]; simp only [Array.length_toList, hzs, e0]
                  exact (List.eq_nil_of_length_eq_zero this)
                · rw [hzc, if_neg e0]
                  have := zero_row z.cells c.toNat
                  rw [hzs] at this
                  rw [hzs]; exact this
              refine ⟨.slice (some ⟨w.heap.size, 0, none⟩) l.toNat c.toNat, .cells ((Array.range (c.toNat * sz)).map (zc[· % zc.size]!)) e, ?_, fun b hb ρ' hρ => ?_⟩
              · simp only [execOp, ho, Sem.run_bind, hlv, hcv]
                simp only [Instr.makeSlice, Sem.run_bind, run_under hu, Result.andThen_ok, asInt, asIntOf, Sem.run_pure, run_info hi, hib, hwl, hwc, hlarge, Bool.false_or]
                have hc2 : ¬ ((decide (l < 0) || decide (l > c)) = true) := by simp; omega
                rw [if_neg hc2]
                simp only [Sem.run_bind, run_askRoom, Result.andThen_ok, run_size hsz]
                by_cases e0 : c.toNat * sz = 0
                · have hzc0 : zc = #[] := by rw [hzc, if_pos e0]
                  rw [if_pos e0, hzc0]
                  simp only [Sem.run_bind, Sem.run_pure, Result.andThen_ok, newRow, run_newObj]
                  rfl
                · have hzc0 : zc = z.cells := by rw [hzc, if_neg e0]
                  rw [if_neg e0, hzc0]
                  simp only [Sem.run_bind, Sem.run_pure, Result.andThen_ok, hr.1, newRow, run_newObj]
                  rfl
              · subst hρ
                refine ⟨.slice (by simp [SRel, upd_same]), ?_⟩
                exact obj_new (upd_same _ _ _) hbase (ds := repZ z.cells.toList c.toNat) (rest := []) (by rw [hzrow]; simp) (repZ_rel (vrel_plain _ 9 z hr.2).cells _) (fun _ => rfl) (fun h => absurd rfl h) (fun h => absurd h (by decide))
          · cases h
        · cases h
      · cases h
    · cases h
  case makeMap t r =>
    cases r with
    | some r => simp at h
    | none =>
      simp at h
      obtain ⟨rfl, rfl⟩ := h
      refine ⟨.map (some w.heap.size), .map #[] 0, ?_, fun b hb ρ' hρ => ?_⟩
      · simp only [execOp, ho, Instr.makeMap, Sem.run_bind, Option.map_none, run_newObj, Result.andThen_ok, Sem.run_pure]; rfl
      · subst hρ
        refine ⟨.map (by simp [MRel, upd_same]), ?_⟩
        simp only [ObjRel, upd_same]
        exact ⟨hbase, #[], 0, heap_alloc_eq _ _, trivial⟩
  case range t x =>
    split at h
    · rename_i s hu hx
      simp at h
      obtain ⟨rfl, rfl⟩ := h
      have hvr := evO_rel hf hx
      generalize hv : a.eval x = xv at hvr
      cases hvr
      refine ⟨.pointer (some ⟨w.heap.size, 0, none⟩), .stringIter s 0, ?_, fun b hb ρ' hρ => ?_⟩
      · simp only [execOp, ho, hv, Instr.range, Sem.run_bind, run_under hu, Result.andThen_ok, Sem.run_pure, run_newObj]
        rfl
      · subst hρ
        refine ⟨.ptr (by simp [PRel, upd_same]), ?_⟩
        simp only [ObjRel, upd_same]
        exact ⟨hbase, trivial, heap_alloc_eq _ _⟩
    · cases h

/-! ### what is read -/
theorem takeN_get : ∀ {n : Nat} {l r : List Value}, takeN n l = some r → r.length = n ∧ ∀ i, i < n → r[i]? = l[i]?
  | 0, l, r, h => by simp [takeN] at h; subst h; exact ⟨rfl, fun i hi => by omega⟩
  | n + 1, [], r, h => by simp [takeN] at h
  | n + 1, v :: l, r, h => by
    simp only [takeN] at h
    cases h1 : takeN n l with
    | none => simp [h1] at h
    | some q =>
      simp [h1] at h; subst h
      obtain ⟨h2, h3⟩ := takeN_get h1
      exact ⟨by simp [h2], fun i hi => by cases i with
        | zero => simp
        | succ i => simpa using h3 i (by omega)⟩
theorem dropN_get : ∀ (n : Nat) (l : List Value) (i : Nat), (dropN n l)[i]? = l[n + i]?
  | 0, l, i => by simp [dropN]
  | n + 1, [], i => by simp [dropN]
  | n + 1, v :: l, i => by rw [dropN, dropN_get n l i, show n + 1 + i = (n + i) + 1 by omega]; simp

theorem cellsAt_get {H : AHeap} {b o n : Nat} {l : List Value} (h : cellsAt H b o n = some l) : ∃ cs esz own, H.get b = some (.cells cs esz own) ∧ l.length = n ∧ ∀ i, i < n → l[i]? = cs[o + i]? := by
  unfold cellsAt at h
  split at h
  · rename_i cs esz own hg
    obtain ⟨h1, h2⟩ := takeN_get h
    exact ⟨cs, esz, own, hg, h1, fun i hi => by rw [h2 i hi, dropN_get]⟩
  · cases h

/-- The machine's cells behind an abstract address. -/
theorem cells_there {ρ : Rho} {base : Nat} {H : AHeap} {w : World} (hs : Sim ρ base H w) {b o n : Nat} {l : List Value} (h : cellsAt H b o n = some l) {a' : Addr} (ha : PRel ρ b o a') :
    ∃ ds c k x, ρ b = .live c k x ∧ a' = ⟨c, k + o, none⟩ ∧ VsRel ρ l ds ∧ w.rangeAt c (k + o) ds := by
  obtain ⟨cs, esz, own, hg, hl, hi⟩ := cellsAt_get h
  cases hr : ρ b with
  | no => simp [PRel, hr] at ha
  | gone x => rcases hs.alive b x hr with e | e <;> rw [hg] at e <;> cases e
  | live c k x =>
    simp only [PRel, hr] at ha
    have hob := hs.obj b _ hg
    simp only [ObjRel, hr] at hob
    have hall : ∀ i, i < n → ∃ v, l[i]? = some v ∧ ∃ v', w.cell? ⟨c, k + o + i, none⟩ = some v' ∧ VRel ρ v v' := fun i h => by
      have h1 : i < l.length := by omega
      have h2 : l[i]? = some l[i] := List.getElem?_eq_getElem h1
      obtain ⟨v', h3, h4⟩ := hob.1 (o + i) l[i] (by rw [← hi i h]; exact h2)
      exact ⟨l[i], h2, v', by rw [Nat.add_assoc]; exact h3, h4⟩
    refine ⟨(List.range n).map fun i => (w.cell? ⟨c, k + o + i, none⟩).getD undef, c, k, x, rfl, ha, ?_, ?_⟩
    · refine LRel.of_get (by simp [hl]) fun i v hv => ?_
      have h1 : i < n := by have := (List.getElem?_eq_some_iff.1 hv).1; omega
      obtain ⟨v2, h2, v', h3, h4⟩ := hall i h1
      rw [hv] at h2; cases h2
      exact ⟨v', by simp [h1, h3], h4⟩
    · intro j v hv
      have h1 : j < n := by have := (List.getElem?_eq_some_iff.1 hv).1; simpa using this
      obtain ⟨v2, h2, v', h3, h4⟩ := hall j h1
      simp [h1, h3] at hv
      subst hv; exact h3

theorem run_loadVar_one {w : World} {t : TypeId} {d : TypeDesc} {a : Addr} {v : Value} (hu : P.underlying t = some d) (hd : isAggD d = false) (hc : w.cell? a = some v) : (loadVar t a).run P w = .ok v w := by
  simp only [loadVar, Sem.run_bind, run_agg hu, Result.andThen_ok, hd, Bool.false_eq_true, if_false, run_load, hc]

theorem load_run {ρ : Rho} {base : Nat} {H : AHeap} {w : World} (hs : Sim ρ base H w) {t : TypeId} {x x' v : Value} {H' : AHeap} {e : Ev} (h : aLoad P H t x = some (.val v H' e)) (hx : VRel ρ x x') :
    H' = H ∧ (∃ b o n, e = .look b o n ∧ ∀ F, cellsAt F b o n = cellsAt H b o n → aLoad P F t x = some (.val v F e)) ∧ ∃ v', (Instr.loadAt t x').run P w = .ok v' w ∧ VRel ρ v v' := by
  unfold aLoad at h
  split at h
  · rename_i b o d n hu hn
    cases hx
    rename_i a' hp
    cases hd : isAggD d with
    | true =>
      simp only [hd, cond_true] at h
      split at h
      · rename_i l hl
        simp at h
        obtain ⟨rfl, rfl, rfl⟩ := h
        obtain ⟨ds, c, k, y, h1, rfl, h3, h4⟩ := cells_there hs hl hp
        refine ⟨rfl, ⟨b, o, n, rfl, fun F hF => by simp only [aLoad, hu, hn, hd, cond_true, hF, hl]⟩, .agg ds.toArray, ?_, VRel.mkAgg h3⟩
        have hlen : ds.length = n := by rw [← h3.length]; exact (cellsAt_get hl).choose_spec.choose_spec.choose_spec.2.1
        exact run_loadAt_mid w c (k + o) t ds d h4 hu (by cases d <;> simp_all [isAggD]) (by unfold sizeT at hn; rw [hn, hlen])
      · cases h
    | false =>
      simp only [hd, cond_false] at h
      split at h
      · rename_i v1 hl
        simp at h
        obtain ⟨rfl, rfl, rfl⟩ := h
        obtain ⟨ds, c, k, y, h1, rfl, h3, h4⟩ := cells_there hs hl hp
        cases ds with
        | nil => exact h3.elim
        | cons d1 ds =>
          refine ⟨rfl, ⟨b, o, 1, rfl, fun F hF => by simp only [aLoad, hu, hn, hd, cond_false, hF, hl]⟩, d1, ?_, h3.1⟩
          have hc : w.cell? ⟨c, k + o, none⟩ = some d1 := by simpa using h4 0 d1 (by simp)
          simp only [Instr.loadAt, Instr.sureAddr, Sem.run_bind, Sem.run_pure, Result.andThen_ok, run_loadVar_one hu hd hc]
      · cases h
  · cases h
end Go.AX
