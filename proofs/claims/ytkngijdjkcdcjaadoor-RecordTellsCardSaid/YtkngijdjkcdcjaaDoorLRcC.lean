/- strings.Builder: what is written to one is kept. -/
import Derived.Test.YtkngijdjkcdcjaaDoorLDrw
namespace Go.AX.Lw
open Go Go.AX
set_option linter.unusedVariables false
variable {P : Program}
/-- Bytes as cells. -/
abbrev u8s (l : List UInt8) : List Value := l.map fun c => .int .u8 (c.toNat : Int)
theorem bytesU_u8s : ∀ l : List UInt8, bytesU (u8s l) = some l
  | [] => rfl
  | c :: r => by
    have h : Nat.blt c.toNat 256 = true := by
      have := c.toNat_lt
      show Nat.ble (c.toNat + 1) 256 = true
      rw [Nat.ble_eq]; omega
    have ih := bytesU_u8s r
    show (bif Nat.blt c.toNat 256 then (match bytesU (u8s r) with | some l => some (UInt8.ofNat c.toNat :: l) | none => none) else none) = _
    rw [h, ih]
    simp
theorem u8s_one (l : List UInt8) : allOne (u8s l) = true := by
  unfold allOne
  rw [List.all_eq_true]
  intro x hx
  obtain ⟨c, -, rfl⟩ := List.mem_map.1 hx
  rfl
/-- What is no row of bytes that grows, and is not the block b, stays. -/
structure Frm (code b : Nat) (H H' : AHeap) : Prop where
  next : H.next ≤ H'.next
  get : ∀ c o, H.get c = some o → c ≠ b → (∀ xs, o ≠ .cells xs code true) → H'.get c = some o
theorem Frm.refl (code b : Nat) (H : AHeap) : Frm code b H H := ⟨Nat.le_refl _, fun _ _ h _ _ => h⟩
theorem Frm.trans {code b : Nat} {H1 H2 H3 : AHeap} (h : Frm code b H1 H2) (h' : Frm code b H2 H3) : Frm code b H1 H3 := ⟨Nat.le_trans h.next h'.next, fun c o h1 h2 h3 => h'.get c o (h.get c o h1 h2 h3) h2 h3⟩
theorem Frm.set {code b : Nat} {H H' : AHeap} (h : Frm code b H H') (o : AObj) : Frm code b H (H'.set b o) := ⟨h.next, fun c o' h1 h2 h3 => by rw [AHeap.get_set, if_neg h2]; exact h.get c o' h1 h2 h3⟩
theorem Frm.push {code b : Nat} {H H' : AHeap} (hw : Wf H') (h : Frm code b H H') (o : AObj) : Frm code b H (H'.push o) := ⟨by have := h.next; simp; omega, fun c o' h1 h2 h3 => by
  have h4 := h.get c o' h1 h2 h3
  rw [AHeap.get_push, if_neg (by have := hw.lt h4; omega)]; exact h4⟩
/-- An append to a text of its own turns nothing but that text. -/
theorem grownF_ok {H0 H : AHeap} (he : Ext H0 H) (hw : Wf H) {ts : Array TypeId} {e : TypeId} {by_ : Nat} (ty : AppTy P ts e by_) {v x : Value} {xs new : List Value} {m : Nat} (hv : Grown H0 H (rowV e 1) v xs)
    (hx : srcCells H 1 x = some (m, new)) (hm : new.length = m) (hone : allOne new = true) (hne : m ≠ 0) (hb : (xs.length + m) * by_ ≤ 2 ^ 47) (hb1 : xs.length + m ≤ 2 ^ 47) (b : Nat) :
    ∃ v' H' ev, aAppend P H ts [v, x] = some (.val v' H' ev) ∧ Grown H0 H' (rowV e 1) v' (xs ++ new) ∧ Ext H0 H' ∧ Wf H' ∧ H.next ≤ H'.next ∧ ∀ c o, H.get c = some o → (∀ ys, o ≠ .cells ys (rowV e 1) true) → H'.get c = some o := by
  have hnn : xs ++ new ≠ [] := by cases new with
    | nil => simp at hm; omega
    | cons y r => simp
  rcases hv with ⟨rfl, rfl⟩ | ⟨b, rfl, hg, hlb, hxs⟩
  · simp only [List.length_nil, Nat.zero_add] at hb hb1
    refine ⟨_, _, _, (append_eq ty hx).trans (appTo_nil hb hb1 hm hone hne), ?_, he.trans (Ext.push _ _), hw.push _, by simp, fun c o h1 h2 => ?_⟩
    · exact .inr ⟨H.next, by simp [hm], by rw [AHeap.get_push, if_pos rfl]; rfl, he.next, hnn⟩
    · rw [AHeap.get_push, if_neg (by have := hw.lt h1; omega)]; exact h1
  · refine ⟨_, _, _, (append_eq ty hx).trans (appTo_open hg hb hb1 hm hone hne), ?_, (he.set hlb _).trans (Ext.push _ _), (hw.set hg _).push _, by simp, fun c o h1 h2 => ?_⟩
    · exact .inr ⟨H.next, by simp [hm], by rw [AHeap.get_push, if_pos (by rfl)], he.next, hnn⟩
    · have hcb : c ≠ b := fun e' => by subst e'; rw [hg] at h1; cases h1; exact h2 _ rfl
      rw [AHeap.get_push, if_neg (by have := hw.lt h1; simp; omega), AHeap.get_set, if_neg hcb]; exact h1
theorem Grown.set {H0 H : AHeap} {code b : Nat} {v : Value} {xs : List Value} (h : Grown H0 H code v xs) {cs cs' : List Value} {k k' : Nat} (hg : H.get b = some (.cells cs k true)) (hk : code ≠ k) : Grown H0 (H.set b (.cells cs' k' true)) code v xs := by
  rcases h with h | ⟨b', hv, hg', hb, hx⟩
  · exact .inl h
  · refine .inr ⟨b', hv, ?_, hb, hx⟩
    rw [AHeap.get_set, if_neg]
    · exact hg'
    · intro e
      subst e
      rw [hg] at hg'
      cases hg'
      exact hk rfl
end Go.AX.Lw
namespace Go.AX.Tryd
open Go Go.AX Go.AX.Lw Go.Proofs
set_option linter.unusedVariables false
set_option linter.unusedSimpArgs false
set_option maxRecDepth 100000
abbrev rC : Nat := rowV 5 1
abbrev bC : Nat := typedV 50
theorem rb_ne : rC ≠ bC := by decide
theorem byTy : AppTy Tryd.prog #[48, 9] 5 1 := ⟨by kernel_rfl, by kernel_rfl, by kernel_rfl, by kernel_rfl, by decide, ⟨.int .u8 0, by kernel_rfl, by kernel_rfl⟩⟩
theorem byTy2 : AppTy Tryd.prog #[48, 48] 5 1 := ⟨by kernel_rfl, by kernel_rfl, by kernel_rfl, by kernel_rfl, by decide, ⟨.int .u8 0, by kernel_rfl, by kernel_rfl⟩⟩
/-- A Builder at b that holds s. -/
structure BuildR (H0 H : AHeap) (b : Nat) (s : List UInt8) : Prop where
  there : ∃ p v, H.get b = some (.cells [.pointer p, v] bC true) ∧ (p = none ∨ p = some ⟨b, 0, none⟩) ∧ Grown H0 H rC v (u8s s)
  low : H0.next ≤ b
theorem copyCheck_any (H : AHeap) (b : Nat) (p : Option Addr) (v : Value) (hg : H.get b = some (.cells [.pointer p, v] bC true)) (hp : p = none ∨ p = some ⟨b, 0, none⟩) :
    Does Tryd.prog orc 36 [.pointer (some ⟨b, 0, none⟩)] H fun r H' => r = .ret (.tuple #[]) ∧ H'.get b = some (.cells [.pointer (some ⟨b, 0, none⟩), v] bC true) ∧ (H' = H ∨ H' = H.set b (.cells [.pointer (some ⟨b, 0, none⟩), v] bC true)) := by
  have hu : Tryd.prog.underlying 47 = some (.pointer 50) := Tryd.underlying47
  have hbe : Nat.beq bC (typedV 50) = true := Nat.beq_refl _
  rcases hp with rfl | rfl
  · refine Does.known (r := .ret (.tuple #[])) (H' := H.set b (.cells [.pointer (some ⟨b, 0, none⟩), v] bC true)) ?_ ⟨rfl, by rw [AHeap.get_set, if_pos rfl], .inr rfl⟩
    have : primA Tryd.prog (.check 47) [.pointer (some ⟨b, 0, none⟩)] H = some (.tuple #[], H.set b (.cells [.pointer (some ⟨b, 0, none⟩), v] bC true)) := by
      unfold primA
      simp only [hu, hg, hbe, cond_true]
    show primO (.check 47) _ H = _
    unfold primO
    rw [this]
  · refine Does.known (r := .ret (.tuple #[])) (H' := H) ?_ ⟨rfl, hg, .inl rfl⟩
    have : primA Tryd.prog (.check 47) [.pointer (some ⟨b, 0, none⟩)] H = some (.tuple #[], H) := by
      unfold primA
      simp only [hu, hg, hbe, nbeq, Bool.and_self, cond_true]
    show primO (.check 47) _ H = _
    unfold primO
    rw [this]
theorem writeString_any (H0 H : AHeap) (b : Nat) (s : List UInt8) (hB : BuildR H0 H b s) (he : Ext H0 H) (hw : Wf H) (t : ByteArray) (ht : t.size ≠ 0) (hl : s.length + t.size ≤ 2 ^ 40) :
    Does Tryd.prog orc 29 [.pointer (some ⟨b, 0, none⟩), .string t] H fun r H' => r = .ret (.tuple #[.int .i64 t.size, .nilIface]) ∧ BuildR H0 H' b (s ++ t.data.toList) ∧ Ext H0 H' ∧ Wf H' ∧ Frm rC b H H' := by
  obtain ⟨⟨p, v, hg, hp, hG⟩, hlow⟩ := hB
  refine Does.of Tryd.func29 (fun _ _ => rfl) rfl ?_
  repeat' ((conv => whnf); first
    | (refine Both.intro ?_ ?_ <;> intro _ <;> try (exfalso; omega))
    | (refine Need.intro (by omega) ?_)
    | (refine Does.mono (copyCheck_any H b p v hg hp) ?_ ; rintro _ H1 ⟨rfl, g1, hc⟩)
    | fail)
  all_goals (conv => whnf)
  have w1 : Wf H1 := by rcases hc with rfl | rfl; exact hw; exact hw.set hg _
  have e1 : Ext H0 H1 := by rcases hc with rfl | rfl; exact he; exact he.set hlow _
  have G1 : Grown H0 H1 rC v (u8s s) := by rcases hc with rfl | rfl; exact hG; exact hG.set hg rb_ne
  have f1 : Frm rC b H H1 := by rcases hc with rfl | rfl; exact Frm.refl _ _ _; exact (Frm.refl _ _ _).set _
  have q1 := cellAt_of g1 (o := 1) rfl
  have hsz : t.data.toList.length = t.size := by simp
  obtain ⟨v2, H2, ev, happ, G2, e2, w2, n2, k2⟩ := grownF_ok e1 w1 byTy G1 (x := .string t) (m := t.size) (new := u8s t.data.toList) rfl (by simp [u8s]) (u8s_one _) ht (by simp [u8s]; omega) (by simp [u8s]; omega) b
  have g2 : H2.get b = some (.cells [.pointer (some ⟨b, 0, none⟩), v] bC true) := k2 b _ g1 (fun ys h => by cases h)
  have hst := store_ok (P := Tryd.prog) (t := 48) (b := b) (o := 1) (v := v2) (by kernel_rfl) (by rcases G2 with ⟨rfl, -⟩ | ⟨_, rfl, -⟩ <;> rfl) (by rcases G2 with ⟨rfl, -⟩ | ⟨_, rfl, -⟩ <;> rfl) g2 (by simp)
  repeat' ((conv => whnf); first
    | (refine Both.intro ?_ ?_ <;> intro _ <;> try (exfalso; omega))
    | (refine Need.intro (by omega) ?_)
    | (refine ⟨_, q1, ?_⟩)
    | (refine Outs.intro ⟨_, _, _, happ, ?_⟩)
    | (refine Outs.intro ⟨_, _, _, hst, ?_⟩)
    | fail)
  all_goals (conv => whnf)
  refine ⟨rfl, ⟨⟨_, _, by rw [AHeap.get_set, if_pos rfl]; rfl, .inr rfl, ?_⟩, hlow⟩, e2.set hlow _, w2.set g2 _, ?_⟩
  · have := G2.set (cs' := [.pointer (some ⟨b, 0, none⟩), v2]) (k' := bC) g2 rb_ne
    rwa [← List.map_append] at this
  · refine f1.trans (Frm.set ⟨n2, fun c o h1 h2 h3 => k2 c o h1 h3⟩ _)
theorem writeByte_any (H0 H : AHeap) (b : Nat) (s : List UInt8) (hB : BuildR H0 H b s) (he : Ext H0 H) (hw : Wf H) (t : UInt8) (hl : s.length + 1 ≤ 2 ^ 40) :
    Does Tryd.prog orc 30 [.pointer (some ⟨b, 0, none⟩), .int .u8 t.toNat] H fun r H' => r = .ret .nilIface ∧ BuildR H0 H' b (s ++ [t]) ∧ Ext H0 H' ∧ Wf H' ∧ Frm rC b H H' := by
  obtain ⟨⟨p, v, hg, hp, hG⟩, hlow⟩ := hB
  refine Does.of Tryd.func30 (fun _ _ => rfl) rfl ?_
  repeat' ((conv => whnf); first
    | (refine Both.intro ?_ ?_ <;> intro _ <;> try (exfalso; omega))
    | (refine Need.intro (by omega) ?_)
    | (refine Does.mono (copyCheck_any H b p v hg hp) ?_ ; rintro _ H1 ⟨rfl, g1, hc⟩)
    | fail)
  all_goals (conv => whnf)
  have w1 : Wf H1 := by rcases hc with rfl | rfl; exact hw; exact hw.set hg _
  have e1 : Ext H0 H1 := by rcases hc with rfl | rfl; exact he; exact he.set hlow _
  have G1 : Grown H0 H1 rC v (u8s s) := by rcases hc with rfl | rfl; exact hG; exact hG.set hg rb_ne
  have f1 : Frm rC b H H1 := by rcases hc with rfl | rfl; exact Frm.refl _ _ _; exact (Frm.refl _ _ _).set _
  have q1 := cellAt_of g1 (o := 1) rfl
  have wP := w1.push (.cells [.int .u8 t.toNat] 0 true)
  have eP := Ext.push H1 (.cells [.int .u8 t.toNat] 0 true)
  have gP : (H1.push (.cells [.int .u8 t.toNat] 0 true)).get b = some (.cells [.pointer (some ⟨b, 0, none⟩), v] bC true) := by rw [eP.get b (w1.lt g1)]; exact g1
  have hx : srcCells (H1.push (.cells [.int .u8 t.toNat] 0 true)) 1 (.slice (some ⟨H1.next, 0, none⟩) 1 1) = some (1, u8s [t]) := src_slice (get_new _ _) rfl (Nat.le_refl _) (by decide)
  obtain ⟨v2, H2, ev, happ, G2, e2, w2, n2, k2⟩ := grownF_ok (e1.trans eP) wP byTy2 (G1.ext w1 eP) hx rfl rfl (by decide) (by simp [u8s]; omega) (by simp [u8s]; omega) b
  have g2 : H2.get b = some (.cells [.pointer (some ⟨b, 0, none⟩), v] bC true) := k2 b _ gP (fun ys h => by cases h)
  have hst := store_ok (P := Tryd.prog) (t := 48) (b := b) (o := 1) (v := v2) (by kernel_rfl) (by rcases G2 with ⟨rfl, -⟩ | ⟨_, rfl, -⟩ <;> rfl) (by rcases G2 with ⟨rfl, -⟩ | ⟨_, rfl, -⟩ <;> rfl) g2 (by simp)
  repeat' ((conv => whnf); first
    | (refine Both.intro ?_ ?_ <;> intro _ <;> try (exfalso; omega))
    | (refine Need.intro (by omega) ?_)
    | (refine ⟨_, q1, ?_⟩)
    | (refine ⟨[.int .u8 (t.toNat : Int)], by kernel_rfl, ?_⟩)
    | (refine Outs.intro ⟨_, _, _, happ, ?_⟩)
    | (refine Outs.intro ⟨_, _, _, hst, ?_⟩)
    | fail)
  all_goals (conv => whnf)
  refine ⟨rfl, ⟨⟨_, _, by rw [AHeap.get_set, if_pos rfl]; rfl, .inr rfl, ?_⟩, hlow⟩, e2.set hlow _, w2.set g2 _, ?_⟩
  · have := G2.set (cs' := [.pointer (some ⟨b, 0, none⟩), v2]) (k' := bC) g2 rb_ne
    rwa [← List.map_append] at this
  · refine (f1.push w1 _).trans (Frm.set ⟨n2, fun c o h1 h2 h3 => k2 c o h1 h3⟩ _)
theorem string_any (H0 H : AHeap) (b : Nat) (s : List UInt8) (hB : BuildR H0 H b s) (he : Ext H0 H) (hw : Wf H) (hs : s ≠ []) (hl : s.length ≤ 2 ^ 40) :
    Does Tryd.prog orc 19 [.pointer (some ⟨b, 0, none⟩)] H fun r H' => r = .ret (.string ⟨s.toArray⟩) ∧ Ext H0 H' ∧ Wf H' := by
  obtain ⟨⟨p, v, hg, hp, hG⟩, hlow⟩ := hB
  obtain ⟨bb, rfl, gb, hbb, -⟩ := hG.resolve_left (fun h => hs (by simpa [u8s] using h.2))
  have q1 := cellAt_of hg (o := 1) rfl
  have hne : bb ≠ b := fun e => by
    subst e
    have := hg.symm.trans gb
    simp only [Option.some.injEq, AObj.cells.injEq] at this
    exact rb_ne this.2.1.symm
  have hul : (u8s s).length = s.length := by simp [u8s]
  have hl0 : (u8s s).length ≠ 0 := by rw [hul]; exact fun e => hs (List.eq_nil_of_length_eq_zero e)
  have hsl : aSliceData H [.slice (some ⟨bb, 0, some 0⟩) (u8s s).length (u8s s).length] = some (.val (.pointer (some ⟨bb, 0, none⟩)) H (.eff H H)) := by
    show (bif Nat.beq (u8s s).length 0 then _ else _) = _
    rw [nbeq_no hl0]
    rfl
  have hus : aUnsafeStr Tryd.prog H #[69, 3] [.pointer (some ⟨bb, 0, none⟩), .int .i64 ((u8s s).length : Nat)] = some (.val (.string ⟨s.toArray⟩) (H.set bb .dead) (.eff H (H.set bb .dead))) := by
    have hu : Tryd.prog.underlying 69 = some (.pointer 5) := Tryd.underlying69
    have c1 : (Nat.beq rC (rowV 5 1) && Nat.beq (Tryd.prog.cellsOf 5) 1 && Nat.ble (u8s s).length 140737488355328) = true := by
      rw [show Nat.beq rC (rowV 5 1) = true from Nat.beq_refl _, show Nat.beq (Tryd.prog.cellsOf 5) 1 = true by kernel_rfl, nble (by omega)]
      rfl
    have h0 : Nat.beq (u8s s).length 0 = false := nbeq_no hl0
    show (bif Nat.beq (u8s s).length 0 then _ else _) = _
    rw [h0]
    have hu' : Tryd.prog.underlying (#[69, 3] : Array TypeId)[0] = some (.pointer 5) := hu
    simp only [cond_false, hu', gb, c1, cond_true, dropN, takeN_all, bytesU_u8s]
  refine Does.of Tryd.func19 (fun _ _ => rfl) rfl ?_
  repeat' ((conv => whnf); first
    | (refine Both.intro ?_ ?_ <;> intro _ <;> try (exfalso; omega))
    | (refine Need.intro (by omega) ?_)
    | (refine ⟨_, q1, ?_⟩)
    | (refine Outs.intro ⟨_, _, _, hsl, ?_⟩)
    | (refine Outs.intro ⟨_, _, _, hus, ?_⟩)
    | (refine Need.intro (draw_of (by (simp only [effAll, lookAll]; repeat' apply And.intro) <;> first | exact True.intro | rfl | exact cellsAt_set (Ne.symm hne))) ?_)
    | fail)
  all_goals (conv => whnf)
  exact ⟨rfl, he.set hbb _, hw.set gb _⟩
end Go.AX.Tryd
