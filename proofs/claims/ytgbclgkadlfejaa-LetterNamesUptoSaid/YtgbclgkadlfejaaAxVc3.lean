/- The conditions along the code are enough: operations. -/
import Derived.Test.YtgbclgkadlfejaaAxVc2
namespace Go.AX
open Go
set_option linter.unusedVariables false
set_option linter.unusedSimpArgs false

variable {P : Program} {N ng : Nat}

theorem opK_sound {env : Env} {f : Fr} (hf : FOk env N ng f) {H : AHeap} {op : Op} {K : Value → AHeap → Ev → Prop} (h : opK P ng env H op K) :
    ∃ v H' e, OpEnd P f H op v H' e ∧ K v H' e := by
  cases op with
  | move x => obtain ⟨v, hv, hk⟩ := oE_sound hf h; exact ⟨v, H, _, .of fun k => by simp only [aOp, aQuiet, hv, Option.map_some], hk⟩
  | assign x => obtain ⟨v, hv, hk⟩ := oE_sound hf h; exact ⟨v, H, _, .of fun k => by simp only [aOp, aQuiet, hv, Option.map_some], hk⟩
  | pick c a b =>
    obtain ⟨v, hv, hk⟩ := oE_sound hf h
    cases v <;> try exact hk.elim
    rcases Br_sound hk with ⟨rfl, hk⟩ | ⟨rfl, hk⟩
    · obtain ⟨u, hu, hk⟩ := oE_sound hf hk; exact ⟨u, H, _, .of fun k => by simp only [aOp, aQuiet, hv, cond_true, hu, Option.map_some], hk⟩
    · obtain ⟨u, hu, hk⟩ := oE_sound hf hk; exact ⟨u, H, _, .of fun k => by simp only [aOp, aQuiet, hv, cond_false, hu, Option.map_some], hk⟩
  | binOp op t x y yt =>
    obtain ⟨a, ha, hk⟩ := oE_sound hf h
    obtain ⟨b, hb, hk⟩ := oE_sound hf hk
    obtain ⟨v, hv, hk⟩ := binK_sound hk
    exact ⟨v, H, _, .of fun k => by simp only [aOp, aQuiet, ha, hb, hv, Option.map_some], hk⟩
  | unOp op t x =>
    obtain ⟨a, ha, hk⟩ := oE_sound hf h
    cases a with
    | bool t =>
      cases op <;> try exact hk.elim
      rcases Br_sound hk with ⟨rfl, hk⟩ | ⟨rfl, hk⟩
      · exact ⟨_, H, _, .of fun k => by simp only [aOp, aQuiet, ha, aUn, Option.map_some]; rfl, hk⟩
      · exact ⟨_, H, _, .of fun k => by simp only [aOp, aQuiet, ha, aUn, Option.map_some]; rfl, hk⟩
    | _ => obtain ⟨v, hv, hk⟩ := Gives.ends hk; exact ⟨v, H, _, .of fun k => by simp only [aOp, aQuiet, ha, hv, Option.map_some], hk⟩
  | convert s d x =>
    obtain ⟨a, ha, hk⟩ := oE_sound hf h
    cases a with
    | int k n => obtain ⟨v, hv, hk⟩ := Gives.ends hk; exact ⟨v, H, _, .of fun k => by simp only [aOp, aText, ha, hv, Option.map_some], hk⟩
    | _ => obtain ⟨v, H', e, hv, hk⟩ := Outs.ends hk; exact ⟨v, H', e, .of fun k => by simp only [aOp, ha, hv], hk⟩
  | slice t x lo hi mx =>
    obtain ⟨a, ha, hk⟩ := oE_sound hf h
    obtain ⟨l, hl, hk⟩ := oM_sound hf hk
    obtain ⟨i, hi', hk⟩ := oM_sound hf hk
    obtain ⟨m, hm, hk⟩ := oM_sound hf hk
    obtain ⟨v, hv, hk⟩ := Gives.ends hk
    exact ⟨v, H, _, .of fun k => by simp only [aOp, aQuiet, ha, hl, hi', hm, hv, Option.map_some], hk⟩
  | indexAddr t x i =>
    obtain ⟨a, ha, hk⟩ := oE_sound hf h
    obtain ⟨b, hb, hk⟩ := oE_sound hf hk
    obtain ⟨v, hv, hk⟩ := indexAddrK_sound hk
    exact ⟨v, H, _, .of fun k => by simp only [aOp, aQuiet, ha, hb, hv, Option.map_some], hk⟩
  | index t x i =>
    obtain ⟨a, ha, hk⟩ := oE_sound hf h
    obtain ⟨b, hb, hk⟩ := oE_sound hf hk
    obtain ⟨v, hv, hk⟩ := indexK_sound hk
    exact ⟨v, H, _, .of fun k => by simp only [aOp, aQuiet, ha, hb, hv, Option.map_some], hk⟩
  | fieldAddr s x j =>
    obtain ⟨a, ha, hk⟩ := oE_sound hf h
    obtain ⟨v, hv, hk⟩ := Gives.ends hk
    exact ⟨v, H, _, .of fun k => by simp only [aOp, aQuiet, ha, hv, Option.map_some], hk⟩
  | field s x j =>
    obtain ⟨a, ha, hk⟩ := oE_sound hf h
    obtain ⟨v, hv, hk⟩ := Gives.ends hk
    exact ⟨v, H, _, .of fun k => by simp only [aOp, aQuiet, ha, hv, Option.map_some], hk⟩
  | extract t i =>
    obtain ⟨a, ha, hk⟩ := oE_sound hf h
    cases a <;> try exact hk.elim
    obtain ⟨v, hv, hk⟩ := optK_sound hk
    exact ⟨v, H, _, .of fun k => by simp only [aOp, aQuiet, ha, hv, Option.map_some], hk⟩
  | nilCheck x =>
    obtain ⟨a, ha, hk⟩ := oE_sound hf h
    split at hk
    · exact ⟨_, H, _, .of fun k => by simp only [aOp, aQuiet, ha, Option.map_some], hk⟩
    · exact ⟨_, H, _, .of fun k => by simp only [aOp, aQuiet, ha, Option.map_some], hk⟩
    · exact hk.elim
  | build t ps =>
    obtain ⟨l, hl, hk⟩ := pL_sound hf h
    obtain ⟨v, hv, hk⟩ := Gives.ends hk
    exact ⟨v, H, _, .of fun k => by simp only [aOp, aQuiet, hl, hv, Option.map_some], hk⟩
  | makeFunc fn first captured =>
    obtain ⟨a, ha, hk⟩ := oL_sound hf h
    obtain ⟨b, hb, hk⟩ := oL_sound hf hk
    exact ⟨_, H, _, .of fun k => by simp only [aOp, aQuiet, ha, hb, Option.map_some], hk⟩
  | alloc e =>
    obtain ⟨z, hz, hk⟩ := Gives.ends h
    exact ⟨_, _, _, .of fun k => by simp only [aOp, aMake, hz, mkTyped], hk⟩
  | box e x =>
    obtain ⟨v, hv, hk⟩ := oE_sound hf h
    exact ⟨_, _, _, .of fun k => by simp only [aOp, aMake, hv, mkVar], hk⟩
  | buildSlice t len ps =>
    obtain ⟨l, hl, hk⟩ := pL_sound hf h
    obtain ⟨cs, hc, hk⟩ := hk
    exact ⟨_, _, _, .of fun k => by simp only [aOp, aMake, hl, hc, mkSlice], hk⟩
  | makeSlice t l c =>
    obtain ⟨a, ha, hk⟩ := oE_sound hf h
    obtain ⟨b, hb, hk⟩ := oE_sound hf hk
    obtain ⟨cs, n, m, hc, hk⟩ := hk
    exact ⟨_, _, _, .of fun k => by simp only [aOp, aMake, ha, hb, hc, mkSlice], hk⟩
  | makeMap t r =>
    cases r with
    | none => exact ⟨_, _, _, .of fun k => by simp only [aOp, aMake], h⟩
    | some _ => exact h.elim
  | load t a =>
    obtain ⟨a, ha, hk⟩ := oE_sound hf h
    obtain ⟨v, H', e, hv, hk⟩ := loadK_sound hk
    exact ⟨v, H', e, .of fun k => by simp only [aOp, ha, hv], hk⟩
  | store t a x =>
    obtain ⟨a, ha, hk⟩ := oE_sound hf h
    obtain ⟨u, hu, hk⟩ := oE_sound hf hk
    obtain ⟨v, H', e, hv, hk⟩ := Outs.ends hk
    exact ⟨v, H', e, .of fun k => by simp only [aOp, ha, hu, hv], hk⟩
  | lookup t m k ok =>
    obtain ⟨a, ha, hk⟩ := oE_sound hf h
    obtain ⟨u, hu, hk⟩ := oE_sound hf hk
    obtain ⟨v, H', e, hv, hk⟩ := Outs.ends hk
    exact ⟨v, H', e, .of fun k => by simp only [aOp, ha, hu, hv], hk⟩
  | mapUpdate t m k v =>
    obtain ⟨a, ha, hk⟩ := oE_sound hf h
    obtain ⟨u, hu, hk⟩ := oE_sound hf hk
    obtain ⟨x, hx, hk⟩ := oE_sound hf hk
    obtain ⟨v, H', e, hv, hk⟩ := Outs.ends hk
    exact ⟨v, H', e, .of fun k => by simp only [aOp, ha, hu, hx, hv], hk⟩
  | insert t m k v =>
    obtain ⟨a, ha, hk⟩ := oE_sound hf h
    obtain ⟨u, hu, hk⟩ := oE_sound hf hk
    obtain ⟨x, hx, hk⟩ := oE_sound hf hk
    obtain ⟨v, H', e, hv, hk⟩ := Outs.ends hk
    exact ⟨v, H', e, .of fun k => by simp only [aOp, ha, hu, hx, hv], hk⟩
  | call c =>
    unfold opK at h
    dsimp only at h
    split at h <;> rename_i hcal
    · obtain ⟨l, hl, hk⟩ := oL_sound hf h
      obtain ⟨v, H', e, hv, hk⟩ := Outs.ends hk
      exact ⟨v, H', e, .of fun k => by simp only [aOp, hcal, hl, hv], hk⟩
    · obtain ⟨l, hl, hk⟩ := oL_sound hf h
      obtain ⟨v, H', e, hv, hk⟩ := Outs.ends hk
      exact ⟨v, H', e, .of fun k => by simp only [aOp, hcal, hl, hv], hk⟩
    · obtain ⟨l, hl, hk⟩ := oL_sound hf h
      obtain ⟨v, H', e, hv, hk⟩ := lenK_sound hk
      exact ⟨v, H', e, .of fun k => by simp only [aOp, hcal, hl, hv], hk⟩
    · obtain ⟨l, hl, hk⟩ := oL_sound hf h
      unfold capK at hk
      split at hk
      · rename_i n c'
        obtain ⟨t, d, ht, hd, hk⟩ := undK_sound hk
        cases d <;> try exact hk.elim
        have ho : (c.args[0]?).bind (evO f) = some (.slice none n c') := by
          cases ha : c.args.toList with
          | nil => rw [ha] at hl; simp [evL] at hl
          | cons x r =>
            rw [ha] at hl
            have : c.args[0]? = some x := by rw [← Array.getElem?_toList, ha]; rfl
            simp only [evL] at hl
            split at hl
            · rename_i v vs h1 h2; cases hl; simp [this, h1]
            · cases hl
        exact ⟨_, _, _, .of fun k => by simp only [aOp, hcal, aQuiet, ht, ho, aLenCap, hd, cond_false, Option.map_some], hk⟩
      · rename_i b o n c'
        obtain ⟨t, d, ht, hd, hk⟩ := undK_sound hk
        cases d <;> try exact hk.elim
        have ho : (c.args[0]?).bind (evO f) = some (.slice (some ⟨b, o, none⟩) n c') := by
          cases ha : c.args.toList with
          | nil => rw [ha] at hl; simp [evL] at hl
          | cons x r =>
            rw [ha] at hl
            have : c.args[0]? = some x := by rw [← Array.getElem?_toList, ha]; rfl
            simp only [evL] at hl
            split at hl
            · rename_i v vs h1 h2; cases hl; simp [this, h1]
            · cases hl
        exact ⟨_, _, _, .of fun k => by simp only [aOp, hcal, aQuiet, ht, ho, aLenCap, hd, cond_false, Option.map_some], hk⟩
      · exact hk.elim
    · rename_i g
      obtain ⟨x, hx, hk⟩ := oE_sound hf h
      split at hk
      · rename_i g' first captured
        obtain ⟨args, ha, hk⟩ := oL_sound hf hk
        obtain ⟨k0, r, H', hr, hk⟩ := Does.ends hk
        cases r with
        | panic _ => exact hk.elim
        | ret v =>
          refine ⟨v, H', _, ⟨k0, fun k hkk => ?_⟩, hk⟩
          simp only [aOp, hcal, hx, ha, callA_mono P hkk _ _ _ _ hr]
      · exact hk.elim
    · exact h.elim
  | _ => exact h.elim
end Go.AX
