/- The fast form of the executor is the executor, part 3: regions, code and calls. -/
import Derived.Test.YtoagchkgffopeaaGreatDoorAxSame2
namespace Go.AX
open Go
set_option linter.unusedVariables false
set_option linter.unusedSimpArgs false

theorem aLen_val (P : Program) (H : AHeap) (ts : Array TypeId) (l : List Value) (x : Out) : aLen P H ts l ≠ some x ∨ ∃ u H' e, x = .val u H' e := by
  by_cases h : aLen P H ts l = some x
  · right
    unfold aLen at h
    split at h
    · split at h
      · simp only [Option.some.injEq] at h; subst h; exact ⟨_, _, _, rfl⟩
      · cases h
    · cases hc : aLenCap P true _ _ with
      | none => rw [hc] at h; cases h
      | some v => rw [hc] at h; simp only [Option.map_some, Option.some.injEq] at h; subst h; exact ⟨_, _, _, rfl⟩
    · cases h
  · exact .inl h

theorem ty0_get {ts : Array TypeId} (h : Nat.blt 0 ts.size = true) : ts[0]? = some (ty0 ts) := by
  obtain ⟨l⟩ := ts
  cases l with
  | nil => simp [Nat.blt_eq] at h
  | cons t r => rfl

theorem fLen_eq (P : Program) (H : AHeap) (ts : Array TypeId) (l : List Value) (kp : Value → AHeap → Res) (k : KV) : fLen P H ts l k = ofOut (aLen P H ts l) kp k := by
  have hno : ∀ kp', ofOut (aLen P H ts l) kp' k = ofOut (aLen P H ts l) kp k := fun kp' => by
    cases hs : aLen P H ts l with
    | none => rfl
    | some x =>
      rcases aLen_val P H ts l x with h | ⟨u, H', e, rfl⟩
      · exact absurd hs h
      · rfl
  unfold fLen
  simp only [fV_eq]
  rcases l with _ | ⟨x, _ | ⟨y, r⟩⟩
  · exact hno _
  · show Bool.rec (motive := fun _ => Res) (ofOut (aLen P H ts [x]) (fun _ _ => .no) k) (asSli x (ofOut (aLen P H ts [x]) (fun _ _ => .no) k) fun _ n _ => k (.int .i64 (Int.ofNat n)) H .quiet) (Nat.blt 0 ts.size && isSli P (ty0 ts)) = _
    rw [hno]
    cases hb : (Nat.blt 0 ts.size && isSli P (ty0 ts)) with
    | false => rfl
    | true =>
      rw [Bool.and_eq_true] at hb
      cases x with
      | slice a n c =>
        show k (.int .i64 (Int.ofNat n)) H .quiet = _
        have hs := hb.2
        unfold isSli at hs
        cases hu : P.underlying (ty0 ts) with
        | none => rw [hu] at hs; cases hs
        | some d => cases d with
          | slice e => simp only [aLen, ty0_get hb.1, aLenCap, hu, cond_true, Option.map_some]; rfl
          | _ => rw [hu] at hs; cases hs
      | _ => rfl
  · exact hno _

/-- The call in both forms. -/
def CallSame (fc : KCall) (ac : FuncId → List Value → AHeap → Option (CRes × AHeap)) : Prop :=
  ∀ g args H kp kr, fc g args H kp kr = (match ac g args H with | some (.ret v, H') => kr v H' | some (.panic v, H') => kp v H' | none => .no)

theorem slow_eq (P : Program) (ac : FuncId → List Value → AHeap → Option (CRes × AHeap)) (op : Op) (f : Fr) (H : AHeap) (kp : Value → AHeap → Res) (k : KV)
    (h : aOp P (fun _ _ _ => none) f H op = aOp P ac f H op) : slowOp P op f H kp k = ofOut (aOp P ac f H op) kp k := by unfold slowOp; rw [h]; simp only [fV_eq]

theorem ofO_ofOut {α : Type} (o : Option α) (g : α → Option Out) (kp : Value → AHeap → Res) (k : KV) : (ofO o fun x => ofOut (g x) kp k) = ofOut (match o with | some x => g x | none => none) kp k := by cases o <;> rfl

theorem fOp_eq {P : Program} {fc : KCall} {ac : FuncId → List Value → AHeap → Option (CRes × AHeap)} (hc : CallSame fc ac) (op : Op) (f : Fr) (H : AHeap) (kp : Value → AHeap → Res) (k : KV) :
    fOp P fc op f H kp k = ofOut (aOp P ac f H op) kp k := by
  cases op with
  | move x => show fE x f _ = _; rw [fE_eq]; show _ = ofOut ((evO f x).map _) kp k; rw [ofOut_map]
  | assign x => show fE x f _ = _; rw [fE_eq]; show _ = ofOut ((evO f x).map _) kp k; rw [ofOut_map]
  | pick c a b =>
    show fE c f (fun c => asBool c .no fun t => Bool.rec (motive := fun _ => Res) (fE b f fun v => k v H .quiet) (fE a f fun v => k v H .quiet) t) = ofOut (Option.map _ (match evO f c with | some (.bool t) => bif t then evO f a else evO f b | _ => none)) kp k
    rw [ofOut_map, fE_eq]
    cases evO f c with
    | none => rfl
    | some v => cases v with
      | bool t => cases t
                  · exact fE_eq b f _
                  · exact fE_eq a f _
      | _ => rfl
  | alloc e =>
    show (ofO (zeroOf P e) fun z => fMake H _ _ k) = _
    simp only [aOp, aMake]
    cases zeroOf P e with
    | none => rfl
    | some z => rw [ofO_some]; unfold fMake; rw [pushH_eq, fV_eq]; rfl
  | box t x =>
    show fE x f (fun v => fMake H _ _ k) = _
    rw [fE_eq]; simp only [aOp, aMake]
    cases evO f x with
    | none => rfl
    | some v => rw [ofO_some]; unfold fMake; rw [pushH_eq, fV_eq]; rfl
  | load t a =>
    show fE a f (fun a => fLoad P H t a k) = _
    rw [fE_eq]; simp only [aOp]
    cases evO f a with
    | none => rfl
    | some a => exact fLoad_eq P H t a kp k
  | store t a x =>
    show fE a f (fun a => fE x f fun v => fStore P H t a v k) = _
    rw [fE_eq]; simp only [aOp]
    cases evO f a with
    | none => rfl
    | some a =>
      rw [ofO_some, fE_eq]
      cases evO f x with
      | none => rfl
      | some v => exact fStore_eq P H t a v kp k (aStore_val P H t a v)
  | nilCheck x =>
    show fE x f (fun v => asPtr v (slowOp P (.nilCheck x) f H kp k) fun b o => k (.pointer (some ⟨b, o, none⟩)) H .quiet) = _
    rw [slow_eq P ac _ f H kp k rfl, fE_eq]
    cases hv : evO f x with
    | none => show Res.no = _; simp only [aOp, aQuiet, hv]; rfl
    | some v => cases v with
      | pointer a => rcases a with _ | ⟨b, o, _ | s⟩
                     · rfl
                     · simp only [aOp, aQuiet, hv]; rfl
                     · rfl
      | _ => rfl
  | binOp op t x y u =>
    show fE x f (fun a => fE y f fun b => fBin P op t (isConst x) (isConst y) a b fun v => k v H .quiet) = ofOut (Option.map _ (match evO f x, evO f y with | some a, some b => aBin P op t (isConst x) (isConst y) a b | _, _ => none)) kp k
    rw [ofOut_map, fE_eq]
    cases evO f x with
    | none => rfl
    | some a =>
      rw [ofO_some, fE_eq]
      cases evO f y with
      | none => rfl
      | some b => exact fBin_eq P op t _ _ a b _
  | fieldAddr s x j =>
    show fE x f (fun a => ofO (fldOff P s j) fun off => asPtr a .no fun b o => fN (Nat.add o off) fun o => k (.pointer (some ⟨b, o, none⟩)) H .quiet) = ofOut (Option.map _ (match evO f x with | some a => aFieldAddr P s a j | none => none)) kp k
    rw [ofOut_map, fE_eq]
    cases evO f x with
    | none => rfl
    | some a => exact fField_eq P s j a fun v => k v H .quiet
  | indexAddr t x i =>
    show fE x f (fun a => fE i f fun i => fIxAddr P t a i fun v => k v H .quiet) = ofOut (Option.map _ (match evO f x, evO f i with | some a, some b => aIndexAddr P t a b | _, _ => none)) kp k
    rw [ofOut_map, fE_eq]
    cases evO f x with
    | none => rfl
    | some a =>
      rw [ofO_some, fE_eq]
      cases evO f i with
      | none => rfl
      | some b => exact fIx_eq P t a b _
  | extract x i =>
    show fE x f (fun a => asTup a .no fun vs => ofO (nthR vs.toList i) fun v => fV v fun v => k v H .quiet) = ofOut (Option.map _ (match evO f x with | some (.tuple vs) => vs[i]? | _ => none)) kp k
    simp only [fV_eq]
    rw [ofOut_map, fE_eq]
    cases evO f x with
    | none => rfl
    | some a => cases a with
      | tuple vs =>
        show ofO (nthR vs.toList i) _ = ofO vs[i]? _
        have : ∀ (l : List Value) (n : Nat), nthR l n = l[n]? := by
          intro l; induction l with
          | nil => intro n; rfl
          | cons v r ih => intro n; cases n with
            | zero => rfl
            | succ n => exact ih n
        rw [this]; simp
      | _ => rfl
  | call c =>
    show fCallOp P fc c (.call c) f H kp k = _
    obtain ⟨ce, args, ts⟩ := c
    cases ce with
    | value g =>
      show fE g f (fun g => asFun g .no fun g first captured => fL args.toList f fun args => fc g (first.toList ++ args ++ captured.toList) H kp fun v H' => fV v fun v => k v H' (.eff H H')) = _
      simp only [fV_eq]
      rw [fE_eq]; simp only [aOp]
      cases evO f g with
      | none => rfl
      | some g => cases g with
        | func fn a b => cases fn with
          | func g =>
            show fL args.toList f _ = _
            rw [fL_eq]
            cases evL f args.toList with
            | none => rfl
            | some as =>
              show fc g _ H kp _ = _
              rw [hc]; simp only []
              rcases ac g (a.toList ++ as ++ b.toList) H with _ | ⟨_ | _, H'⟩ <;> rfl
          | _ => show Res.no = _; cases evL f args.toList <;> rfl
        | _ => show Res.no = _; cases evL f args.toList <;> rfl
    | invoke r m => rfl
    | builtin b =>
      cases b with
      | append =>
        show fL args.toList f (fun l => ofOut (aAppend P H ts l) kp fun v H e => fV v fun v => k v H e) = _
        simp only [fV_eq]
        rw [fL_eq]; simp only [aOp]
        cases evL f args.toList <;> rfl
      | len =>
        show fL args.toList f (fun l => fLen P H ts l k) = _
        rw [fL_eq]; simp only [aOp]
        cases evL f args.toList with
        | none => rfl
        | some l => exact fLen_eq P H ts l kp k
      | _ => refine Eq.trans ?_ (slow_eq P ac (.call ⟨.builtin _, args, ts⟩) f H kp k rfl); rfl
  | _ => exact slow_eq P ac _ f H kp k rfl
end Go.AX
