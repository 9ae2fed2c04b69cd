/- Arguments, taken in block by block. -/
import Derived.Test.YtkngijdjkcdcjaaDoorLOpen
import Derived.Test.YtkngijdjkcdcjaaDoorLDrw
import Derived.DataReads
import Derived.ChangeSame
import Derived.ChangeArms
import Derived.SizedLaws
namespace Go.AX.Lw
open Go Go.AX Go.RowKit Go.ChangeShapes Go.WideShapes
set_option linter.unusedVariables false
set_option linter.unusedSimpArgs false
variable {P : Program} {O : Orc}
/-- A memory of what was handed in: nobody writes it. -/
structure ArgS (ρ : Rho) (H : AHeap) (w : World) : Prop where
  sim : Sim ρ w.heap.size H w
  wf : Wf H
  no : ∀ b, ¬ ownB H b
  fresh : ∀ b, H.next ≤ b → ρ b = .no
structure ArgLe (ρ : Rho) (H : AHeap) (ρ' : Rho) (H' : AHeap) : Prop where
  ext : Ext H H'
  rel : ∀ v v', VRel ρ v v' → VRel ρ' v v'
theorem ArgLe.refl (ρ : Rho) (H : AHeap) : ArgLe ρ H ρ H := ⟨Ext.refl _, fun _ _ h => h⟩
theorem ArgLe.trans {ρ ρ' ρ'' : Rho} {H H' H'' : AHeap} (h : ArgLe ρ H ρ' H') (h' : ArgLe ρ' H' ρ'' H'') : ArgLe ρ H ρ'' H'' := ⟨h.ext.trans h'.ext, fun v v' q => h'.rel v v' (h.rel v v' q)⟩
theorem arg_new {ρ : Rho} {H : AHeap} {w : World} (h : ArgS ρ H w) (o : AObj) (s : BS) (hs : (∃ c k, s = .live c k 0 ∧ c < w.heap.size) ∨ (s = .gone 0 ∧ o = .dead)) (ho : ObjRel (upd ρ H.next s) w.heap.size w H.next o)
    (hn : o = .dead ∨ ∃ cs e, o = .cells cs e false) : ArgS (upd ρ H.next s) (H.push o) w ∧ ArgLe ρ H (upd ρ H.next s) (H.push o) := by
  have hm : Mono H.next (H.next + 1) ρ (upd ρ H.next s) := ⟨fun c hc => .inl (upd_ne _ _ (by omega)), fun c h1 h2 => h.fresh c h1⟩
  have hno : ∀ b, ¬ ownB (H.push o) b := fun b hb => by
    have hb' := hb
    unfold ownB at hb
    rw [AHeap.get_push] at hb
    by_cases e : b = H.next
    · rw [if_pos e] at hb
      rcases hn with rfl | ⟨cs, e, rfl⟩ <;> exact hb
    · rw [if_neg e] at hb; exact h.no b hb
  refine ⟨⟨⟨?_, ?_, ?_, ?_, fun b b' c k x k' x' ho => absurd ho (hno b)⟩, h.wf.push _, hno, fun b hb => ?_⟩, ⟨Ext.push _ _, fun v v' q => q.mono hm⟩⟩
  · intro b x hb
    rw [AHeap.get_push]
    by_cases e : b = H.next
    · subst e; rw [upd_same] at hb
      rcases hs with ⟨c, k, rfl, -⟩ | ⟨-, rfl⟩
      · cases hb
      · rw [if_pos rfl]; exact .inr rfl
    · rw [upd_ne _ _ e] at hb; rw [if_neg e]; exact h.sim.alive b x hb
  · exact h.sim.bsz
  · intro b c k x hb
    by_cases e : b = H.next
    · subst e; rw [upd_same] at hb
      rcases hs with ⟨c', k', rfl, hc⟩ | ⟨rfl, -⟩
      · cases hb; exact hc
      · cases hb
    · rw [upd_ne _ _ e] at hb; exact h.sim.inb b c k x hb
  · intro b o' hb
    rw [AHeap.get_push] at hb
    split at hb
    · rename_i e; subst e; cases hb; exact ho
    · exact (h.sim.obj b o' hb).keep hm (by omega) fun q k y hq => rfl
  · rw [AHeap.next_push] at hb
    rw [upd_ne _ _ (by omega)]; exact h.fresh b (by omega)
theorem cell_lt' {W : World} {a : Addr} {v : Value} (h : W.cell? a = some v) : a.block < W.heap.size := by
  by_cases hb : a.block < W.heap.size
  · exact hb
  · exfalso
    have : W.heap[a.block]? = none := Array.getElem?_eq_none (by omega)
    unfold World.cell? at h
    simp [this] at h
/-- A slice whose cells are told. -/
theorem arg_sl {ρ : Rho} {H : AHeap} {w : World} (h : ArgS ρ H w) {a : Addr} {len cap : Nat} {cs : List Value} (hc : 0 < cap → ∃ v, w.cell? a = some v) (h0 : cap = 0 → cs = [])
    (hcell : ∀ j v, cs[j]? = some v → ∃ v', w.cell? (a.add j) = some v' ∧ VRel ρ v v') :
    ∃ ρ' H', ArgS ρ' H' w ∧ ArgLe ρ H ρ' H' ∧ VRel ρ' (.slice (some ⟨H.next, 0, none⟩) len cap) (.slice (some a) len cap) ∧ (cs ≠ [] → H'.get H.next = some (.cells cs 0 false)) := by
  by_cases hcap : cap = 0
  · subst hcap
    obtain rfl := h0 rfl
    obtain ⟨h1, h2⟩ := arg_new h .dead (.gone 0) (.inr ⟨rfl, rfl⟩) trivial (.inl rfl)
    exact ⟨_, _, h1, h2, (.slice (by unfold SRel; rw [upd_same]; rfl)), fun e => absurd rfl e⟩
  · obtain ⟨v, hv⟩ := hc (by omega)
    have hsp := World.cell?_spot hv
    obtain ⟨b, off, spot⟩ := a
    obtain rfl : spot = none := hsp
    have hb := cell_lt' hv
    have hm : Mono H.next (H.next + 1) ρ (upd ρ H.next (.live b off 0)) := ⟨fun c hc => .inl (upd_ne _ _ (by omega)), fun c h1 h2 => h.fresh c h1⟩
    obtain ⟨h1, h2⟩ := arg_new h (.cells cs 0 false) (.live b off 0) (.inl ⟨b, off, rfl, hb⟩) (by
      simp only [ObjRel, upd_same]
      refine ⟨fun j v hj => ?_, (fun h => by cases h), (fun h => absurd rfl h), fun _ => trivial, .none (by decide)⟩
      obtain ⟨v', q1, q2⟩ := hcell j v hj
      rw [add_plain] at q1
      exact ⟨v', q1, q2.mono hm⟩) (.inr ⟨_, _, rfl⟩)
    exact ⟨_, _, h1, h2, .slice (by unfold SRel; rw [upd_same]; exact ⟨.inr rfl, rfl⟩), fun _ => get_new _ _⟩
/-- The weights of a reading are small. -/
def Light {H : Type} (P : Program) (t : TypeId) (d : DataW H) : Prop := ∀ n ∈ d.weights P t, n ≤ reachBytes
theorem weights_all {H : Type} {P : Program} {e : TypeId} : ∀ {l : List (DataW H)} {d : DataW H}, d ∈ l → ∀ n ∈ d.weights P e, n ∈ DataW.weightsAll P e l
  | x :: r, d, h, n, hn => by
    rw [DataW.weightsAll, List.mem_append]
    rcases List.mem_cons.1 h with rfl | h
    · exact .inl hn
    · exact .inr (weights_all h n hn)
theorem Light.slice {H : Type} {t e : TypeId} {es rs : List (DataW H)} (ht : P.underlying t = some (.slice e)) (h : Light P t (.slice es rs)) : (es.length + rs.length) * P.bytesOf e ≤ reachBytes ∧ ∀ d ∈ es, Light P e d := by
  unfold Light at h
  simp only [DataW.weights, ht] at h
  exact ⟨h _ (by simp), fun d hd n hn => h n (List.mem_cons_of_mem _ (List.mem_append_left _ (weights_all hd n hn)))⟩
theorem Light.struct {H : Type} {t : TypeId} {fs : Array Field} {ds : List (DataW H)} (ht : P.underlying t = some (.struct fs)) (h : Light P t (.agg ds)) {j : Nat} {f : Field} {d : DataW H} (hf : fs[j]? = some f) (hd : ds[j]? = some d) : Light P f.type d := fun n hn => by
  unfold Light at h
  simp only [DataW.weights, ht] at h
  exact h n (DataW.weights_mem_each (ts := fs.toList.map (·.type)) (j := j) (by rw [List.getElem?_map]; simp [hf]) hd n hn)
theorem Light.each {H : Type} {ts : List TypeId} {ds : List (DataW H)} (h : (DataW.weightsEach P ts ds).all (· ≤ reachBytes) = true) {j : Nat} {t : TypeId} {d : DataW H} (ht : ts[j]? = some t) (hd : ds[j]? = some d) : Light P t d := fun n hn =>
  of_decide_eq_true (List.all_eq_true.1 h n (DataW.weights_mem_each ht hd n hn))
section
variable {H : Type} {enc : TypeId × Value → H} {W : World} {ρ : Rho} {A : AHeap} {held : Bool} {fuel : Nat} {cs : List Value} {x : DataW H × List MemPlace}
/-- A list of one-cell things that are plain. -/
theorem arg_plain {α : Type} {t e : TypeId} (ht : P.underlying t = some (.slice e)) (hc : P.cellsOf e = 1) (f : α → Value) (g : α → Prop) (hf : ∀ a, plainV 9 (f a) = true)
    (hel : ∀ {fuel : Nat} {cs : List Value} {x : DataW H × List MemPlace}, DataW.trod enc P W 0 (fun _ => true) held fuel e cs = some x → ∃ a, cs = [f a] ∧ g a)
    (hA : ArgS ρ A W) (h : DataW.trod enc P W 0 (fun _ => true) held fuel t cs = some x) (hL : Light P t x.1) :
    ∃ (ρ' : Rho) (A' : AHeap) (a : Option Addr) (n c : Nat) (l : List α) (v : Value), cs = [v] ∧ ArgS ρ' A' W ∧ ArgLe ρ A ρ' A' ∧ VRel ρ' (.slice a n c) v ∧ Row A' a n c (l.map f) ∧ (∀ y ∈ l, g y) ∧ n * P.bytesOf e ≤ reachBytes := by
  rcases DataW.trod_slice ht h with ⟨rfl, -⟩ | ⟨a, len, cap, elems, rest, n, -, rfl, hx, -, hl, hmx, hlen, hel', hsp, -⟩
  · exact ⟨ρ, A, none, 0, 0, [], _, rfl, hA, ArgLe.refl _ _, .snil 0 0, ⟨rfl, Nat.le_refl _, fun i x h => by simp at h⟩, by simp, by simp⟩
  have each : ∀ i, i < len → ∃ y, W.cell? (a.add i) = some (f y) ∧ g y := fun i hi => by
    have hE := hel' i hi
    rw [hc, Nat.mul_one] at hE
    obtain ⟨y, hy⟩ : ∃ y, elems[i]? = some y := ⟨_, List.getElem?_eq_getElem (by omega)⟩
    rw [hy, Option.bind_eq_some_iff] at hE
    obtain ⟨l, hl2, htr⟩ := hE
    obtain ⟨z, rfl, hz⟩ := hel htr
    exact ⟨z, cell_of_cells?_one hl2, hz⟩
  have hl2 : ∃ l : List α, l.length = len ∧ (∀ i y, l[i]? = some y → W.cell? (a.add i) = some (f y)) ∧ ∀ y ∈ l, g y := by
    clear h hL hx hlen hel' hsp
    suffices hh : ∀ k, k ≤ len → ∃ l : List α, l.length = k ∧ (∀ i y, l[i]? = some y → W.cell? (a.add i) = some (f y)) ∧ ∀ y ∈ l, g y from hh len (Nat.le_refl _)
    intro k
    induction k with
    | zero => intro _; exact ⟨[], rfl, by simp, by simp⟩
    | succ k ih =>
      intro hk
      obtain ⟨l, h1, h2, h3⟩ := ih (by omega)
      obtain ⟨y, q1, q2⟩ := each k (by omega)
      refine ⟨l ++ [y], by simp [h1], fun i z hz => ?_, fun z hz => ?_⟩
      · by_cases hi : i < l.length
        · rw [List.getElem?_append_left hi] at hz; exact h2 i z hz
        · have hb := (List.getElem?_eq_some_iff.1 hz).1
          simp at hb
          obtain rfl : i = k := by omega
          rw [List.getElem?_append_right (by omega), h1, Nat.sub_self] at hz
          cases hz; exact q1
      · rcases List.mem_append.1 hz with hz | hz
        · exact h3 z hz
        · simp at hz; subst hz; exact q2
  obtain ⟨l, h1, h2, h3⟩ := hl2
  have hcap0 : 0 < cap → ∃ v, W.cell? a = some v := fun hc0 => by
    by_cases h : 0 < len
    · obtain ⟨y, hy, -⟩ := each 0 h; exact ⟨_, by simpa [Addr.add] using hy⟩
    · obtain rfl : len = 0 := by omega
      obtain ⟨hr1, hr2⟩ := hsp rfl
      have hr := hr2 0 (by omega)
      obtain ⟨y, hy⟩ : ∃ y, rest[0]? = some y := ⟨_, List.getElem?_eq_getElem (by omega)⟩
      rw [hy, hc, Option.bind_eq_some_iff] at hr
      obtain ⟨l, hl2, htr⟩ := hr
      obtain ⟨z, rfl, -⟩ := hel htr
      exact ⟨f z, by have := cell_of_cells?_one hl2; simpa [Addr.add] using this⟩
  obtain ⟨ρ', A', k1, k2, k3, k4⟩ := arg_sl hA (a := a) (len := len) (cap := cap) (cs := l.map f) hcap0 (fun e => by rw [List.eq_nil_of_length_eq_zero (by omega : l.length = 0)]; rfl) (fun j v hj => by
    rw [List.getElem?_map, Option.map_eq_some_iff] at hj
    obtain ⟨y, hy, rfl⟩ := hj
    exact ⟨_, h2 j y hy, vrel_plain _ 9 _ (hf y)⟩)
  refine ⟨ρ', A', some ⟨A.next, 0, none⟩, len, cap, l, _, rfl, k1, k2, k3, ?_, h3, ?_⟩
  · by_cases hn : l.map f = []
    · have : l = [] := by simpa using hn
      subst this
      exact ⟨h1.symm, hl, fun i x h => by simp at h⟩
    · exact Row.of_block (k4 hn) (by simp [h1]) hl (List.prefix_refl _)
  · rw [hx] at hL
    have := (hL.slice ht).1
    simp only [List.length_map] at this
    rw [hlen] at this
    exact Nat.le_trans (Nat.mul_le_mul_right _ (Nat.le_add_right _ _)) this
end
/-- A call over such a memory that comes to true. -/
theorem does_args (hp : progOk P = true) (hmix : P.follows .mixedOrders = true) (hO : CallOk P O) (hOw : CallWf O) {ρ : Rho} {A : AHeap} {w : World} (hA : ArgS ρ A w) {args : List Value} {g : FuncId} (h : Does P O g args A fun r _ => r = .ret (.bool true))
    (args' : Array Value) (hargs : VsRel ρ args args'.toList) :
    Calls P g args' w fun e w' => e = .returned (.bool true) ∧ Below w.heap.size w w' := by
  obtain ⟨k, r, H', hr, rfl⟩ := h.ends
  obtain ⟨-, ⟨-, h3⟩ | ⟨-, v0, hv0, hv1, -⟩⟩ := callAO_ok hp hmix hO hOw k g args A _ H' hr
  case inr => cases hv0; exact absurd rfl (hv1 _)
  refine (h3 hA.wf ρ w.heap.size w args' hA.sim hargs (fun b hb _ => hA.fresh b hb)).mono fun e w' he => ?_
  obtain ⟨ρ', ok, hm⟩ := he
  have hb : Below w.heap.size w w' := ⟨ok.step.os, ok.step.tape, ok.step.output, ok.step.size, fun k hk => ok.step.block k hk fun b c x ho hl => hA.no b ho⟩
  cases e with
  | returned v' => cases hm; exact ⟨rfl, hb⟩
  | panicked c => exact hm.elim
  | outgrown => exact hm.elim
/-- No variable is laid. -/
theorem args_none (w : World) : ArgS (argRho []) H0 w := ⟨(sim_args (by simp) (by simp) : Sim (argRho []) _ (argH []) w), argH_wf [], argNo (bs := []), fun b _ => rfl⟩
/-- The laid variables. -/
theorem args_laid {w : World} {n : Nat} {ts : List (Nat × List Value)} (hn : n ≤ w.heap.size) (hlt : ∀ t ∈ ts, t.1 < n) (hc : ∀ t ∈ ts, ∀ i v, t.2[i]? = some v → w.cell? ⟨t.1, i, none⟩ = some v ∧ plainV 9 v = true) : ArgS (laidRho n) (laidH n ts) w where
  sim := sim_laid hn hlt hc
  wf b hb := by
    rw [laidH_next] at hb
    cases hg : (laidH n ts).get b with
    | none => rfl
    | some o =>
      rcases laidH_get hg with ⟨rfl, rfl⟩ | ⟨t, ht, rfl, rfl⟩
      · omega
      · have := hlt t ht; omega
  no b ho := by
    unfold ownB at ho
    cases hg : (laidH n ts).get b with
    | none => rw [hg] at ho; exact ho.elim
    | some o => rcases laidH_get hg with ⟨rfl, rfl⟩ | ⟨t, ht, rfl, rfl⟩ <;> rw [hg] at ho <;> exact ho.elim
  fresh b hb := by rw [laidH_next] at hb; unfold laidRho; rw [if_neg (by omega)]
end Go.AX.Lw
