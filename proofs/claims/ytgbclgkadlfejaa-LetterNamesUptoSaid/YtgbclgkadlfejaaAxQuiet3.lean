/- Operations that only compute: slices, addresses, structs, and all of them in one. -/
import Derived.Test.YtgbclgkadlfejaaAxQuiet2
namespace Go.AX
open Go Go.RowKit
set_option linter.unusedVariables false
set_option linter.unusedSimpArgs false

variable {P : Program}

/-- A value that may be there. -/
def MRelO (ρ : Rho) : Option Value → Option Value → Prop
  | none, none => True
  | some v, some v' => VRel ρ v v'
  | _, _ => False
theorem evM_rel {ρ : Rho} {f : Fr} {a : Act} (h : FRel ρ f a) {x : Option Operand} {v : Option Value} (hv : evM f x = some v) : MRelO ρ v (x.map a.eval) := by
  cases x with
  | none => simp [evM] at hv; subst hv; trivial
  | some x =>
    simp only [evM] at hv
    cases h1 : evO f x with
    | none => simp [h1] at hv
    | some w => simp [h1] at hv; subst hv; exact evO_rel h h1

theorem bound_some {v v' : Value} {ρ : Rho} {hi d n : Nat} (h : aBound (some v) 0 hi d = some n) (hv : VRel ρ v v') {hi' : Nat} (hh : hi ≤ hi') (code : BoundsCode) (w : World) :
    (Instr.sliceBound v' hi' code).run P w = .ok n w ∧ n ≤ hi := by
  cases v <;> simp only [aBound] at h <;> try (cases h; done)
  rename_i k i
  cases hv
  split at h
  · rename_i hc
    simp at h; subst h
    have : 0 ≤ i ∧ i ≤ (hi' : Int) := by omega
    refine ⟨?_, by omega⟩
    unfold Instr.sliceBound
    simp only [Sem.run_bind, asIntOf, Sem.run_pure, Result.andThen_ok]
    rw [if_pos this]; rfl
  · cases h

/-- The three bounds of a slice expression. -/
theorem bounds_run {ρ : Rho} {isSlice : Bool} {len cap cap' m h l : Nat} {lo hi mx lo' hi' mx' : Option Value} (hlo : MRelO ρ lo lo') (hhi : MRelO ρ hi hi') (hmx : MRelO ρ mx mx')
    (hm : aBound mx 0 cap cap = some m) (hh : aBound hi 0 m len = some h) (hl : aBound lo 0 h 0 = some l) (hmh : mx = none ∨ ∃ v, hi = some v) (hc : cap ≤ cap') (w : World) :
    (Instr.sliceBounds isSlice len cap' lo' hi' mx').run P w = .ok (l, h, mx.elim cap' (fun _ => m)) w ∧ l ≤ h ∧ m ≤ cap ∧ (hi = none → h = len) ∧ (∀ v, hi = some v → h ≤ m) := by
  have e1 : l ≤ h ∧ ∀ code, (match lo' with | some v => Instr.sliceBound v h code | none => (pure 0 : Sem Nat)).run P w = .ok l w := by
    cases lo with
    | none => cases lo' with
      | none => simp [aBound] at hl; subst hl; exact ⟨Nat.zero_le _, fun _ => rfl⟩
      | some _ => exact hlo.elim
    | some v => cases lo' with
      | none => exact hlo.elim
      | some v' => exact ⟨(bound_some (P := P) hl hlo (Nat.le_refl _) .index w).2, fun code => (bound_some (P := P) hl hlo (Nat.le_refl _) code w).1⟩
  cases mx with
  | none =>
    cases mx' with
    | some _ => exact hmx.elim
    | none =>
      simp [aBound] at hm; subst hm
      cases hi with
      | none => cases hi' with
        | some _ => exact hhi.elim
        | none =>
          simp [aBound] at hh; subst hh
          refine ⟨?_, e1.1, Nat.le_refl _, fun _ => rfl, fun _ e => by cases e⟩
          have := e1.2 (if Option.isSome (none : Option Value) then .slice3C else .sliceB)
          simp only [Instr.sliceBounds, Sem.run_bind, Sem.run_pure, Result.andThen_ok]
          cases lo' <;> simp_all
      | some v => cases hi' with
        | none => exact hhi.elim
        | some v' =>
          have hb := bound_some (P := P) hh hhi hc (if isSlice then .sliceAcap else .sliceAlen) w
          refine ⟨?_, e1.1, Nat.le_refl _, (fun e => by cases e), fun _ _ => hb.2⟩
          have := e1.2 (if Option.isSome (none : Option Value) then .slice3C else .sliceB)
          simp only [Instr.sliceBounds, Sem.run_bind, Sem.run_pure, Result.andThen_ok, hb.1]
          cases lo' <;> simp_all
  | some mv =>
    cases mx' with
    | none => exact hmx.elim
    | some mv' =>
      obtain ⟨v, rfl⟩ : ∃ v, hi = some v := by rcases hmh with e | e; · cases e
                                               · exact e
      cases hi' with
      | none => exact hhi.elim
      | some v' =>
        have hmb := bound_some (P := P) hm hmx hc (if isSlice then .slice3Acap else .slice3Alen) w
        have hb := bound_some (P := P) hh hhi (Nat.le_refl _) .slice3B w
        refine ⟨?_, e1.1, hmb.2, (fun e => by cases e), fun _ _ => hb.2⟩
        have := e1.2 (if Option.isSome (some mv') then .slice3C else .sliceB)
        simp only [Instr.sliceBounds, Sem.run_bind, Sem.run_pure, Result.andThen_ok, hmb.1, hb.1]
        cases lo' <;> simp_all

theorem slice_run {ρ : Rho} {t : TypeId} {x x' v : Value} {lo hi mx lo' hi' mx' : Option Value} (h : aSlice P t x lo hi mx = some v) (hx : VRel ρ x x') (hlo : MRelO ρ lo lo') (hhi : MRelO ρ hi hi') (hmx : MRelO ρ mx mx') :
    ∃ v', (∀ w, (Instr.sliceAt t x' lo' hi' mx').run P w = .ok v' w) ∧ VRel ρ v v' := by
  unfold aSlice at h
  split at h
  · rename_i s hu
    cases hx
    split at h
    · cases h
    · cases mx' with
      | some _ => exact hmx.elim
      | none =>
      split at h
      · rename_i hh hhe
        split at h
        · rename_i ll hle
          simp at h; subst h
          refine ⟨_, fun w => ?_, .string _⟩
          have hb := (bounds_run (P := P) (isSlice := false) (mx := none) (mx' := none) hlo hhi trivial (m := s.size) (cap := s.size) rfl hhe hle (.inl rfl) (Nat.le_refl _) w).1
          simp only [Instr.sliceAt, Instr.slice, Sem.run_bind, run_under hu, Result.andThen_ok, Option.isSome_none, Bool.false_eq_true, if_false, Sem.run_pure, hb]
        · cases h
      · cases h
  · rename_i e a len cap hu
    split at h
    · cases h
    · rename_i hnn
      have hmh : mx = none ∨ ∃ v, hi = some v := by
        cases mx with
        | none => exact .inl rfl
        | some _ => cases hi with
          | none => exact (hnn _ rfl rfl).elim
          | some v => exact .inr ⟨v, rfl⟩
      split at h
      · rename_i m hm
        split at h
        · rename_i hh hhe
          split at h
          · rename_i ll hle
            cases hbm : Nat.ble hh m with
            | false => simp [hbm] at h
            | true =>
            simp only [hbm, cond_true] at h
            have hhm : hh ≤ m := by simpa using hbm
            split at h
            · cases h
            · rename_i n hsz
              simp at h; subst h
              cases hx
              have hb := fun w => bounds_run (P := P) (isSlice := true) hlo hhi hmx hm hhe hle hmh (Nat.le_refl cap) w
              have hmm : mx.elim cap (fun _ => m) = m := by
                cases mx with
                | none => simp [aBound] at hm; exact hm
                | some _ => rfl
              refine ⟨_, fun w => ?_, .snil _ _⟩
              have hb1 := (hb w).1
              rw [hmm] at hb1
              simp only [Instr.sliceAt, Instr.slice, Sem.run_bind, run_under hu, Result.andThen_ok, hb1, run_size hsz, Sem.run_pure]
              congr 2
              split <;> rfl
            · rename_i n b o s hsz
              cases hx
              rename_i a' c' hs
              have hle' : cap ≤ c' := by
                cases hr : ρ b with
                | no => simp [SRel, hr] at hs
                | gone x => simp only [SRel, hr] at hs; omega
                | live c k x => simp only [SRel, hr] at hs; omega
              have hb := fun w => bounds_run (P := P) (isSlice := true) (len := len) hlo hhi hmx hm hhe hle hmh hle' w
              obtain ⟨m', hm'⟩ : ∃ m', m' = mx.elim c' (fun _ => m) := ⟨_, rfl⟩
              have hrun : ∀ w, (Instr.sliceAt t (.slice (some a') len c') lo' hi' mx').run P w = .ok (.slice (some (if m' = ll then a' else a'.add (ll * n))) (hh - ll) (m' - ll)) w := fun w => by
                have hb1 := (hb w).1
                rw [← hm'] at hb1
                simp only [Instr.sliceAt, Instr.slice, Sem.run_bind, run_under hu, Result.andThen_ok, hb1, run_size hsz, Sem.run_pure]
                congr 2
                split <;> rfl
              refine ⟨_, hrun, ?_⟩
              obtain ⟨-, hlh, hmc, hi0, hi1⟩ := hb default
              split at h
              · -- a row whose room is known
                rename_i q
                simp at h; subst h
                have hmm : m' = m := by
                  subst hm'
                  cases mx with
                  | none =>
                    simp [aBound] at hm
                    cases hr : ρ b with
                    | no => simp [SRel, hr] at hs
                    | gone x => simp only [SRel, hr] at hs; simp; omega
                    | live c k x => simp only [SRel, hr] at hs; simp; omega
                  | some _ => rfl
                rw [hmm]
                by_cases e : m = ll
                · rw [if_pos e, if_pos e]
                  refine .slice ?_
                  cases hr : ρ b with
                  | no => simp [SRel, hr] at hs
                  | gone x => simp [SRel, hr]
                  | live c k x => simp [SRel, hr, e]
                · rw [if_neg e, if_neg e]
                  refine .slice ?_
                  cases hr : ρ b with
                  | no => simp [SRel, hr] at hs
                  | gone x => simp [SRel, hr]
                  | live c k x =>
                    simp only [SRel, hr] at hs ⊢
                    refine ⟨.inr ?_, by simp⟩
                    rcases hs.1 with h0 | h0
                    · omega
                    · rw [h0, Addr.add_mid, Nat.add_assoc]
              · rename_i q
                simp at h; subst h
                simp [aBound] at hm
                simp at hm'
                subst hm'
                refine .slice ?_
                cases hr : ρ b with
                | no => simp [SRel, hr] at hs
                | gone x => simp only [SRel, hr] at hs ⊢; omega
                | live c k x =>
                  simp only [SRel, hr] at hs ⊢
                  refine ⟨?_, by omega⟩
                  by_cases e : m' = ll
                  · left; omega
                  · rw [if_neg e]
                    rcases hs.1 with h0 | h0
                    · left; omega
                    · right; rw [h0, Addr.add_mid, Nat.add_assoc]
              · split at h
                · rename_i e
                  simp at h; subst h
                  simp at hm'
                  subst hm'
                  rw [e.2, e.1, Nat.sub_self]
                  refine .slice ?_
                  cases hr : ρ b with
                  | no => simp [SRel, hr] at hs
                  | gone x => simp [SRel, hr]
                  | live c k x => simp [SRel, hr]
                · cases h
          · cases h
        · cases h
      · cases h
  · rename_i n e b o hu
    cases hx
    rename_i a' hp
    split at h
    · cases h
    · cases mx' with
      | some _ => exact hmx.elim
      | none =>
      split at h
      · rename_i hh hhe
        split at h
        · rename_i ll hle
          split at h
          · rename_i k hsz
            simp at h; subst h
            have hb := fun w => (bounds_run (P := P) (isSlice := false) (len := n) (mx := none) (mx' := none) hlo hhi trivial (m := n) (cap := n) rfl hhe hle (.inl rfl) (Nat.le_refl _) w).1
            refine ⟨.slice (some (if n = ll then a' else a'.add (ll * k))) (hh - ll) (n - ll), fun w => ?_, ?_⟩
            · have hb1 := hb w
              simp only [Option.elim_none] at hb1
              simp only [Instr.sliceAt, Instr.sureAddr, Sem.run_bind, run_under hu, Result.andThen_ok, Sem.run_pure, hb1, run_size hsz]
            · by_cases e : n = ll
              · rw [if_pos e, if_pos e]
                refine .slice ?_
                cases hr : ρ b with
                | no => simp [PRel, hr] at hp
                | gone x => simp [SRel, hr]
                | live c q x => simp [SRel, hr, e]
              · rw [if_neg e, if_neg e]
                refine .slice ?_
                cases hr : ρ b with
                | no => simp [PRel, hr] at hp
                | gone x => simp [SRel, hr]
                | live c q x => simp only [PRel, hr] at hp; simp only [SRel, hr]; exact ⟨.inr (by rw [hp, Addr.add_mid, Nat.add_assoc]), by simp⟩
          · cases h
        · cases h
      · cases h
  · cases h

theorem indexAddr_run {ρ : Rho} {t : TypeId} {x x' i i' v : Value} (h : aIndexAddr P t x i = some v) (hx : VRel ρ x x') (hi : VRel ρ i i') :
    ∃ v', (∀ w, (Instr.indexAt t x' i').run P w = .ok v' w) ∧ VRel ρ v v' := by
  unfold aIndexAddr at h
  split at h
  · rename_i k i
    cases hi
    split at h
    · rename_i len e b o hu
      cases hx
      rename_i a' hp
      split at h
      · rename_i n hsz
        split at h
        · rename_i hb
          simp at h; subst h
          refine ⟨.pointer (some (a'.add (i.toNat * n))), fun w => ?_, .ptr ?_⟩
          · simp only [Instr.indexAt, asIntOf, Instr.sureAddr, Sem.run_bind, Sem.run_pure, run_under hu, Result.andThen_ok, run_size hsz, hb, and_self, if_true]
          · cases hr : ρ b with
            | no => simp [PRel, hr] at hp
            | gone x => simp [PRel, hr]
            | live c q x => simp only [PRel, hr] at hp ⊢; rw [hp, Addr.add_mid, Nat.add_assoc]
        · cases h
      · cases h
    · rename_i e b o s len cap hu
      cases hx
      rename_i a' c' hp
      split at h
      · rename_i n hsz
        split at h
        · rename_i hb
          simp at h; subst h
          refine ⟨.pointer (some (a'.add (i.toNat * n))), fun w => ?_, .ptr ?_⟩
          · simp only [Instr.indexAt, asIntOf, Sem.run_bind, Sem.run_pure, run_under hu, Result.andThen_ok, run_size hsz, hb.1, hb.2.1, and_self, if_true]
          · cases hr : ρ b with
            | no => simp [SRel, hr] at hp
            | gone x => simp [PRel, hr]
            | live c q x =>
              simp only [SRel, hr] at hp; simp only [PRel, hr]
              rcases hp.1 with h0 | h0
              · omega
              · rw [h0, Addr.add_mid, Nat.add_assoc]
        · cases h
      · cases h
    · cases h
  · cases h

theorem index_run {ρ : Rho} {t : TypeId} {x x' i i' v : Value} (h : aIndex P t x i = some v) (hx : VRel ρ x x') (hi : VRel ρ i i') (w : World) :
    ∃ v', (Instr.index t x' i').run P w = .ok v' w ∧ VRel ρ v v' := by
  unfold aIndex at h
  split at h
  · rename_i k i
    cases hi
    split at h
    · rename_i len e cs hu
      obtain ⟨cs', rfl⟩ : ∃ q, x' = .agg q := by cases hx; exact ⟨_, rfl⟩
      split at h
      · rename_i n hsz
        split at h
        · rename_i hb
          obtain ⟨v', hv', hr⟩ := part_rel (vs_agg hx) h w
          exact ⟨v', by simp only [Instr.index, asIntOf, Sem.run_bind, Sem.run_pure, run_under hu, Result.andThen_ok, hb, and_self, if_true, run_size hsz, hv'], hr⟩
        · cases h
      · cases h
    · rename_i s hu
      cases hx
      split at h
      · rename_i h0
        split at h
        · rename_i b hb
          simp at h; subst h
          refine ⟨_, ?_, .int _ _⟩
          have hb' : s[i.toNat]? = some b := by
            rw [List.getElem?_eq_some_iff] at hb
            obtain ⟨hi, rfl⟩ := hb
            have hi' : i.toNat < s.size := by have : s.size = s.data.toList.length := by rw [Array.length_toList]; rfl
                                              omega
            rw [getElem?_pos s i.toNat hi']; simp only [Array.getElem_toList]; rfl
          simp only [Instr.index, asIntOf, Sem.run_bind, Sem.run_pure, run_under hu, Result.andThen_ok, h0, if_true, hb']
        · cases h
      · cases h
    · cases h
  · cases h

theorem fieldAddr_run {ρ : Rho} {s : TypeId} {x x' v : Value} {j : Nat} (h : aFieldAddr P s x j = some v) (hx : VRel ρ x x') :
    ∃ v', (∀ w, (Instr.fieldAt s x' j).run P w = .ok v' w) ∧ VRel ρ v v' := by
  unfold aFieldAddr at h
  split at h
  · rename_i fs b o hu
    cases hx
    rename_i a' hp
    split at h
    · rename_i fd hf
      split at h
      · rename_i n hsz
        simp at h; subst h
        refine ⟨.pointer (some (a'.add fd.offset)), fun w => ?_, .ptr ?_⟩
        · simp only [Instr.fieldAt, Instr.sureAddr, fieldPlace, Sem.run_bind, Sem.run_pure, run_under hu, Result.andThen_ok, hf, run_size hsz]
          simp
        · cases hr : ρ b with
          | no => simp [PRel, hr] at hp
          | gone x => simp [PRel, hr]
          | live c q x => simp only [PRel, hr] at hp ⊢; rw [hp, Addr.add_mid, Nat.add_assoc]
      · cases h
    · cases h
  · cases h

theorem field_run {ρ : Rho} {s : TypeId} {x x' v : Value} {j : Nat} (h : aField P s x j = some v) (hx : VRel ρ x x') (w : World) :
    ∃ v', (Instr.field s x' j).run P w = .ok v' w ∧ VRel ρ v v' := by
  unfold aField at h
  split at h
  · rename_i fs cs hu
    obtain ⟨cs', rfl⟩ : ∃ q, x' = .agg q := by cases hx; exact ⟨_, rfl⟩
    split at h
    · rename_i fd hf
      obtain ⟨v', hv', hr⟩ := part_rel (vs_agg hx) h w
      exact ⟨v', by simp only [Instr.field, asAgg, Sem.run_bind, Sem.run_pure, run_under hu, Result.andThen_ok, hf, hv'], hr⟩
    · cases h
  · cases h

/-! ### parts laid into cells -/
theorem putAt_get : ∀ (cs : List Value) (o : Nat) (vs cs' : List Value), putAt cs o vs = some cs' → cs'.length = cs.length ∧ (vs ≠ [] → o + vs.length ≤ cs.length) ∧
    ∀ i, cs'[i]? = if o ≤ i ∧ i < o + vs.length then vs[i - o]? else cs[i]?
  | cs, o, [], cs', h => by
    have : putAt cs o [] = some cs := by cases cs <;> rfl
    rw [this] at h; simp at h; subst h
    exact ⟨rfl, fun e => (e rfl).elim, fun i => by rw [if_neg (by simp only [List.length_nil]; omega)]⟩
  | [], o, v :: vs, cs', h => by simp [putAt] at h
  | c :: cs, 0, v :: vs, cs', h => by
    simp only [putAt] at h
    cases hp : putAt cs 0 vs with
    | none => simp [hp] at h
    | some r =>
      simp [hp] at h; subst h
      obtain ⟨h1, h2, h3⟩ := putAt_get cs 0 vs r hp
      refine ⟨by simp [h1], fun _ => ?_, fun i => ?_⟩
      · cases vs with
        | nil => simp
        | cons _ _ => have := h2 (by simp); simp at this ⊢; omega
      · cases i with
        | zero => simp
        | succ i =>
          simp only [List.getElem?_cons_succ, h3 i, Nat.zero_le, true_and, Nat.zero_add, List.length_cons, Nat.sub_zero]
          by_cases e : i < vs.length
          · rw [if_pos e, if_pos (by omega)]
          · rw [if_neg e, if_neg (by omega)]
  | c :: cs, o + 1, v :: vs, cs', h => by
    simp only [putAt] at h
    cases hp : putAt cs o (v :: vs) with
    | none => simp [hp] at h
    | some r =>
      simp [hp] at h; subst h
      obtain ⟨h1, h2, h3⟩ := putAt_get cs o (v :: vs) r hp
      refine ⟨by simp [h1], fun _ => ?_, fun i => ?_⟩
      · have := h2 (by simp); simp at this ⊢; omega
      · cases i with
        | zero => rw [if_neg (by omega)]; simp
        | succ i =>
          simp only [List.getElem?_cons_succ, h3 i]
          by_cases e : o ≤ i ∧ i < o + (v :: vs).length
          · rw [if_pos e, if_pos (by omega), Nat.add_sub_add_right]
          · rw [if_neg e, if_neg (by omega)]

theorem putAt_rel {ρ : Rho} {cs : List Value} {o : Nat} {vs cs' ds ws ds' : List Value} (h : putAt cs o vs = some cs') (hc : VsRel ρ cs ds) (hv : VsRel ρ vs ws)
    (hl : ds'.length = ds.length) (hd : ∀ i, ds'[i]? = if o ≤ i ∧ i < o + ws.length then ws[i - o]? else ds[i]?) : VsRel ρ cs' ds' := by
  obtain ⟨h1, h2, h3⟩ := putAt_get _ _ _ _ h
  refine LRel.of_get (by rw [h1, hl]; exact hc.length) fun i x hx => ?_
  rw [h3] at hx
  rw [hd, ← hv.length]
  split at hx
  · rename_i hi
    rw [if_pos hi]; exact hv.get _ _ hx
  · rename_i hi
    rw [if_neg hi]; exact hc.get _ _ hx

theorem foldl_set (off : Nat) : ∀ (l : List Value) (k : Nat) (arr : Array Value), ((l.zipIdx k).foldl (fun cs (x : Value × Nat) => cs.setIfInBounds (off + x.2) x.1) arr).size = arr.size
  | [], k, arr => rfl
  | v :: l, k, arr => by simp only [List.zipIdx_cons, List.foldl_cons]; rw [foldl_set off l (k + 1)]; simp
theorem foldl_get (off : Nat) : ∀ (l : List Value) (k : Nat) (arr : Array Value), off + k + l.length ≤ arr.size → ∀ i, ((l.zipIdx k).foldl (fun cs (x : Value × Nat) => cs.setIfInBounds (off + x.2) x.1) arr)[i]? =
    if off + k ≤ i ∧ i < off + k + l.length then l[i - (off + k)]? else arr[i]?
  | [], k, arr, _, i => by rw [if_neg (by simp only [List.length_nil]; omega)]; rfl
  | v :: l, k, arr, hs, i => by
    simp only [List.zipIdx_cons, List.foldl_cons]
    rw [foldl_get off l (k + 1) _ (by simp at hs ⊢; omega)]
    simp only [List.length_cons] at hs ⊢
    by_cases e : i = off + k
    · subst e
      rw [if_neg (by omega), if_pos (by omega), Nat.sub_self]
      simp [Array.getElem?_setIfInBounds]
      try omega
    · by_cases e2 : off + (k + 1) ≤ i ∧ i < off + (k + 1) + l.length
      · rw [if_pos e2, if_pos (by omega), show i - (off + k) = (i - (off + (k + 1))) + 1 by omega]; simp
      · rw [if_neg e2, if_neg (by omega), Array.getElem?_setIfInBounds, if_neg (by omega)]

theorem fill_rel {ρ : Rho} {place : Nat → Option (Nat × Nat)} : ∀ {parts parts' : List (Nat × Value)} {cs cs' : List Value} {arr : Array Value}, fillL place cs parts = some cs' →
    LRel (fun (p q : Nat × Value) => p.1 = q.1 ∧ VRel ρ p.2 q.2) parts parts' → VsRel ρ cs arr.toList → ∃ arr', Instr.fill place arr parts' = some arr' ∧ VsRel ρ cs' arr'.toList
  | [], [], cs, cs', arr, h, _, hc => by simp [fillL] at h; subst h; exact ⟨arr, rfl, hc⟩
  | (i, v) :: r, (i', v') :: r', cs, cs', arr, h, hp, hc => by
    obtain ⟨⟨rfl, hv⟩, hr⟩ := hp
    simp only [fillL] at h
    cases hpl : place i with
    | none => simp [hpl] at h
    | some os =>
      obtain ⟨off, size⟩ := os
      simp only [hpl] at h
      cases hb : Nat.beq v.cells.size size && Nat.ble (off + size) cs.length with
      | false => simp [hb] at h
      | true =>
        simp only [hb, cond_true] at h
        rw [Bool.and_eq_true] at hb
        have hsz : v.cells.size = size := Nat.eq_of_beq_eq_true hb.1
        have hfit : off + size ≤ cs.length := Nat.le_of_ble_eq_true hb.2
        cases hq : putAt cs off v.cells.toList with
        | none => simp [hq] at h
        | some cs1 =>
          simp only [hq] at h
          have hlen := hc.length
          have hvs : v.cells.size = v'.cells.size := hv.size
          have hal : cs.length = arr.size := by simpa using hlen
          have hfit' : off + 0 + v'.cells.toList.length ≤ arr.size := by rw [Array.length_toList]; omega
          have hz : v'.cells.zipIdx.foldl (fun cs (x : Value × Nat) => cs.setIfInBounds (off + x.2) x.1) arr = (v'.cells.toList.zipIdx 0).foldl (fun cs (x : Value × Nat) => cs.setIfInBounds (off + x.2) x.1) arr := by
            rw [← Array.foldl_toList]; simp
          have hnext : VsRel ρ cs1 ((v'.cells.toList.zipIdx 0).foldl (fun cs (x : Value × Nat) => cs.setIfInBounds (off + x.2) x.1) arr).toList := by
            refine putAt_rel hq hc hv.cells (by simp [foldl_set]) fun i => ?_
            have := foldl_get off v'.cells.toList 0 arr hfit' i
            simpa using this
          obtain ⟨arr', ha, hr'⟩ := fill_rel h hr hnext
          refine ⟨arr', ?_, hr'⟩
          have hcond : (decide (v'.cells.size ≠ size) || decide (off + v'.cells.size > arr.size)) = false := by simp; omega
          simp only [Instr.fill, hpl]
          rw [← ha, ← hz]
          have h1 : ¬ (v'.cells.size ≠ size) := by omega
          have h2 : ¬ (off + v'.cells.size > arr.size) := by omega
          simp [h1, h2]
  | [], _ :: _, _, _, _, _, hp, _ => hp.elim
  | _ :: _, [], _, _, _, _, hp, _ => hp.elim
end Go.AX
