/- The fast form of the executor is the executor, part 3: regions, code and calls. -/
import Derived.Test.YtgbclgkadlfejaaDoorAxSame2
namespace Go.AX
open Go
set_option linter.unusedVariables false
set_option linter.unusedSimpArgs false

theorem aLen_val (P : Program) (H : AHeap) (ts : Array TypeId) (l : List Value) (x : Out) : aLen P H ts l ≠ some x ∨ ∃ u H' e, x = .val u H' e := by
  by_cases h : aLen P H ts l = some x
  · right
    unfold aLen at h
    split at h
    · split at h
      · simp only [Option.some.injEq] at h; subst h; exact ⟨_, _, _, rfl⟩
      · cases h
    · cases hc : aLenCap P true _ _ with
      | none => rw [hc] at h; cases h
      | some v => rw [hc] at h; simp only [Option.map_some, Option.some.injEq] at h; subst h; exact ⟨_, _, _, rfl⟩
    · cases h
  · exact .inl h

theorem ty0_get {ts : Array TypeId} (h : Nat.blt 0 ts.size = true) : ts[0]? = some (ty0 ts) := by
  obtain ⟨l⟩ := ts
  cases l with
  | nil => simp [Nat.blt_eq] at h
  | cons t r => rfl

theorem fLen_eq (P : Program) (H : AHeap) (ts : Array TypeId) (l : List Value) (kp : Value → AHeap → Res) (k : KV) : fLen P H ts l k = ofOut (aLen P H ts l) kp k := by
  have hno : ∀ kp', ofOut (aLen P H ts l) kp' k = ofOut (aLen P H ts l) kp k := fun kp' => by
    cases hs : aLen P H ts l with
    | none => rfl
    | some x =>
      rcases aLen_val P H ts l x with h | ⟨u, H', e, rfl⟩
      · exact absurd hs h
      · rfl
  unfold fLen
  simp only [fV_eq]
  rcases l with _ | ⟨x, _ | ⟨y, r⟩⟩
  · exact hno _
  · show Bool.rec (motive := fun _ => Res) (ofOut (aLen P H ts [x]) (fun _ _ => .no) k) (asSli x (ofOut (aLen P H ts [x]) (fun _ _ => .no) k) fun _ n _ => k (.int .i64 (Int.ofNat n)) H .quiet) (Nat.blt 0 ts.size && isSli P (ty0 ts)) = _
    rw [hno]
    cases hb : (Nat.blt 0 ts.size && isSli P (ty0 ts)) with
    | false => rfl
    | true =>
      rw [Bool.and_eq_true] at hb
      cases x with
      | slice a n c =>
        show k (.int .i64 (Int.ofNat n)) H .quiet = _
        have hs := hb.2
        unfold isSli at hs
        cases hu : P.underlying (ty0 ts) with
        | none => rw [hu] at hs; cases hs
        | some d => cases d with
          | slice e => simp only [aLen, ty0_get hb.1, aLenCap, hu, cond_true, Option.map_some]; rfl
          | _ => rw [hu] at hs; cases hs
      | _ => rfl
  · exact hno _

theorem takeN_all : ∀ (l : List Value), takeN l.length l = some l
  | [] => rfl
  | v :: r => by simp only [List.length_cons, takeN, takeN_all r]
theorem fAppFull_eq {H : AHeap} {by_ code b len cap : Nat} {s : Nat} {x : Value} {slow : Res} {k : KV} {kp : Value → AHeap → Res}
    (hs : slow = ofOut (match srcCells H 1 x with | some (n, new) => aAppendTo H 1 code by_ (some ⟨b, 0, some s⟩) len cap n new | none => none) kp k) : fAppFull H by_ code b len cap x slow k = slow := by
  unfold fAppFull
  cases hx : srcCells H 1 x with
  | none => rw [hs, hx]; rfl
  | some p =>
    obtain ⟨n, new⟩ := p
    rw [ofO_some, fN_eq]
    dsimp only
    cases hc : (Nat.beq len cap && Nat.ble 1 n && Nat.ble (Nat.mul (Nat.add len n) by_) (2 ^ 47) && Nat.ble (Nat.add len n) (2 ^ 47) && Nat.beq new.length n && allOne new) with
    | false => rfl
    | true =>
      simp only [Bool.and_eq_true] at hc
      obtain ⟨⟨⟨⟨⟨c1, c2⟩, c3⟩, c4⟩, c5⟩, c6⟩ := hc
      have e1 : len = cap := Nat.eq_of_beq_eq_true c1
      have e2 : 1 ≤ n := Nat.le_of_ble_eq_true c2
      have e5 : new.length = n := Nat.eq_of_beq_eq_true c5
      subst e1
      show objK H b _ = slow
      rw [objK_eq]
      cases hg : H.get b with
      | none =>
        rw [hs, hx]
        have h1 : (Nat.ble ((len + n) * by_) (2 ^ 47) && Nat.ble (len + n) (2 ^ 47) && Nat.beq new.length (n * 1) && Nat.ble len len && allOne new) = true := by
          simp only [Bool.and_eq_true]; exact ⟨⟨⟨⟨c3, c4⟩, by rw [Nat.mul_one]; exact c5⟩, by simp⟩, c6⟩
        have h2 : Nat.ble (len + n) len = false := by rw [← Bool.not_eq_true, Nat.ble_eq]; omega
        simp only [aAppendTo, h1, cond_true, h2, cond_false, hg]; rfl
      | some o =>
        cases o with
        | cells cs esz own =>
          dsimp only
          cases ho : (own && Nat.beq esz code) with
          | false => rfl
          | true =>
            rw [Bool.and_eq_true] at ho
            obtain ⟨rfl, ho2⟩ := ho
            have e6 : code = esz := (Nat.eq_of_beq_eq_true ho2).symm
            subst e6
            show appR cs new len slow _ = slow
            rw [appR_eq]
            by_cases hl : cs.length = len
            · rw [if_pos hl]
              simp only [setH_eq, pushH_eq]
              rw [hs, hx]
              have h1 : (Nat.ble ((len + n) * by_) (2 ^ 47) && Nat.ble (len + n) (2 ^ 47) && Nat.beq new.length (n * 1) && Nat.ble len len && allOne new) = true := by
                simp only [Bool.and_eq_true]; exact ⟨⟨⟨⟨c3, c4⟩, by rw [Nat.mul_one]; exact c5⟩, by simp⟩, c6⟩
              have h2 : Nat.ble (len + n) len = false := by rw [← Bool.not_eq_true, Nat.ble_eq]; omega
              have h3 : (Nat.beq code code && Nat.beq (0 + len * 1) cs.length && Nat.ble len len) = true := by simp [hl]
              have h4 : takeN (len * 1) (dropN 0 cs) = some cs := by rw [Nat.mul_one, ← hl]; exact takeN_all cs
              simp only [aAppendTo, h1, cond_true, h2, cond_false, hg, h3, h4]; rfl
            · rw [if_neg hl]
        | _ =>
          rw [hs, hx]
          have h1 : (Nat.ble ((len + n) * by_) (2 ^ 47) && Nat.ble (len + n) (2 ^ 47) && Nat.beq new.length (n * 1) && Nat.ble len len && allOne new) = true := by
            simp only [Bool.and_eq_true]; exact ⟨⟨⟨⟨c3, c4⟩, by rw [Nat.mul_one]; exact c5⟩, by simp⟩, c6⟩
          have h2 : Nat.ble (len + n) len = false := by rw [← Bool.not_eq_true, Nat.ble_eq]; omega
          simp only [aAppendTo, h1, cond_true, h2, cond_false, hg]; rfl

theorem fAppend_eq (P : Program) (H : AHeap) (ts : Array TypeId) (l : List Value) (kp : Value → AHeap → Res) (k : KV) : fAppend P H ts l (ofOut (aAppend P H ts l) kp k) k = ofOut (aAppend P H ts l) kp k := by
  unfold fAppend
  rcases l with _ | ⟨s, _ | ⟨x, _ | ⟨y, r⟩⟩⟩
  · rfl
  · rfl
  · show Option.rec (motive := fun _ => Res) _ (fun p => fN p.2 fun code => asSli s _ fun a len cap => _) (appOne P ts) = _
    cases ha : appOne P ts with
    | none => rfl
    | some pc =>
      obtain ⟨by_, code⟩ := pc
      show fN code (fun code => asSli s _ fun a len cap => _) = _
      rw [fN_eq]
      cases s with
      | slice a len cap =>
        rcases a with _ | ⟨b, o, _ | sp⟩
        · rfl
        · rfl
        · show Bool.rec (motive := fun _ => Res) _ (fAppFull H by_ code b len cap x _ k) (Nat.beq o 0) = _
          cases ho : Nat.beq o 0 with
          | false => rfl
          | true =>
            have e0 : o = 0 := Nat.eq_of_beq_eq_true ho
            subst e0
            show fAppFull H by_ code b len cap x _ k = _
            refine fAppFull_eq (s := sp) (kp := kp) ?_
            unfold appOne at ha
            split at ha
            · rename_i t ht
              split at ha
              · rename_i e hu
                split at ha
                · rename_i size by2 z h1 h2 h3
                  cases hb : (Nat.beq by2 0 || !(Nat.beq size 1) || !(Nat.beq z.cells.size 1)) with
                  | true => rw [hb] at ha; cases ha
                  | false =>
                    rw [hb] at ha
                    simp only [cond_false] at ha
                    simp only [Bool.or_eq_false_iff, Bool.not_eq_false'] at hb
                    have es : size = 1 := Nat.eq_of_beq_eq_true hb.1.2
                    have ez : z.cells.size = 1 := Nat.eq_of_beq_eq_true hb.2
                    subst es
                    have hcond : (Nat.beq by2 0 || Nat.beq 1 0 || !(Nat.beq z.cells.size 1)) = false := by rw [hb.1.1, ez]; rfl
                    have hmode : (match ts[1]? with | some u => (match P.underlying u with | some d => some (isIntD d) | none => none) | none => some false) = some false ∧ by2 = by_ ∧ rowV e 1 = code := by
                      cases h1 : ts[1]? with
                      | none => rw [h1] at ha; simp at ha; exact ⟨rfl, ha⟩
                      | some u =>
                        rw [h1] at ha
                        dsimp only at ha ⊢
                        cases hd : P.underlying u with
                        | none => rw [hd] at ha; cases ha
                        | some d =>
                          rw [hd] at ha
                          dsimp only at ha ⊢
                          cases hi : isIntD d with
                          | true => rw [hi] at ha; cases ha
                          | false => rw [hi] at ha; simp at ha; exact ⟨rfl, ha⟩
                    obtain ⟨hm, rfl, rfl⟩ := hmode
                    congr 1
                    simp only [aAppend, ht, hu, h1, h2, h3, hcond, cond_false]
                    clear ha
                    revert hm
                    cases ts[1]? with
                    | none => intro _; rfl
                    | some u =>
                      dsimp only
                      cases P.underlying u with
                      | none => intro hm; cases hm
                      | some d =>
                        dsimp only
                        intro hm
                        rw [hm]
                        rcases srcCells H 1 x with _ | ⟨n, new⟩ <;> rfl
                · cases ha
              · cases ha
            · cases ha
      | _ => rfl
  · rfl

theorem lenR_eq : ∀ l : List UInt8, lenR l = l.length
  | [] => rfl
  | a :: r => by show Nat.succ (lenR r) = _; rw [lenR_eq r]; rfl
theorem eqL_eq : ∀ l m : List UInt8, eqL l m = true ↔ l = m
  | [], [] => by simp [eqL]
  | [], b :: m => by simp [eqL]
  | a :: l, [] => by simp [eqL]
  | a :: l, b :: m => by
    show Bool.rec (motive := fun _ => Bool) false (eqL l m) (Nat.beq a.toNat b.toNat) = true ↔ _
    cases h : Nat.beq a.toNat b.toNat with
    | false =>
      have : a ≠ b := fun e => by subst e; simp at h
      constructor
      · intro h; cases h
      · intro h; exact (this (List.cons.inj h).1).elim
    | true =>
      have : a = b := UInt8.toNat_inj.1 (Nat.eq_of_beq_eq_true h)
      subst this
      show eqL l m = true ↔ _
      rw [eqL_eq l m]; simp
theorem eqS_eq (a b : ByteArray) : eqS a b = (a == b) := by
  have hb : (a == b) = (a.data == b.data) := by cases a; cases b; rfl
  have hd : a.data = b.data ↔ a = b := by cases a; cases b; simp
  rw [hb, Bool.eq_iff_iff, beq_iff_eq, hd]
  unfold eqS
  rw [lenR_eq, lenR_eq]
  cases h : Nat.beq a.data.toList.length b.data.toList.length with
  | false =>
    constructor
    · intro h; cases h
    · intro e; subst e; simp at h
  | true =>
    show eqL _ _ = true ↔ _
    rw [eqL_eq]
    constructor
    · intro e
      obtain ⟨a⟩ := a; obtain ⟨b⟩ := b
      rw [show a = b from Array.ext' e]
    · intro e; rw [e]
theorem findS_eq {P : Program} {kt : TypeId} (hk : P.underlying kt = some .string) (s : ByteArray) (slow miss : Res) (hit : Value → Res) :
    ∀ (es : List (Value × Value)) (i : Nat), findS s slow miss hit es = slow ∨ ∃ r, findA P kt (.string s) es i = some r ∧ findS s slow miss hit es = (match r with | some (_, v) => hit v | none => miss)
  | [], i => .inr ⟨none, rfl, rfl⟩
  | (k, v) :: r, i => by
    show asStr k slow (fun s' => Bool.rec (motive := fun _ => Res) (findS s slow miss hit r) (hit v) (eqS s s')) = slow ∨ _
    cases k with
    | string s' =>
      have ha : aEqIn P 50 kt (.string s) (.string s') = some (s == s') := by simp only [aEqIn, hk]
      rw [← eqS_eq] at ha
      show Bool.rec (motive := fun _ => Res) (findS s slow miss hit r) (hit v) (eqS s s') = slow ∨ _
      cases hs : eqS s s' with
      | true =>
        rw [hs] at ha
        refine .inr ⟨some (i, v), by simp only [findA, ha], ?_⟩
        show Bool.rec (motive := fun _ => Res) (findS s slow miss hit r) (hit v) (eqS s s') = _
        rw [hs]
      | false =>
        rw [hs] at ha
        rcases findS_eq hk s slow miss hit r (i + 1) with h | ⟨r', h1, h2⟩
        · exact .inl h
        · refine .inr ⟨r', by simp only [findA, ha]; exact h1, ?_⟩
          show Bool.rec (motive := fun _ => Res) (findS s slow miss hit r) (hit v) (eqS s s') = _
          rw [hs]; exact h2
    | _ => exact .inl rfl
theorem mapK_eq (H : AHeap) (b : Nat) (bad : Res) (k : List (Value × Value) → Res) : mapK H b bad k = (match H.get b with | some (.map es) => k es | _ => bad) := by
  unfold mapK; rw [slot_get]; unfold AHeap.get
  rcases H.objs.get b with _ | o
  · rfl
  · cases o <;> rfl
theorem fLookup_eq (P : Program) (H : AHeap) (t : TypeId) (m key : Value) (ok : Bool) (kp : Value → AHeap → Res) (k : KV) : fLookup P H t m key ok (ofOut (aLookup P H t m key ok) kp k) k = ofOut (aLookup P H t m key ok) kp k := by
  unfold fLookup
  cases hz : strMap P t with
  | none => rfl
  | some z =>
    cases key with
    | string s =>
      cases m with
      | map r =>
        cases r with
        | none => rfl
        | some r =>
          show mapK H r _ _ = _
          rw [mapK_eq]
          cases hg : H.get r with
          | none => rfl
          | some o =>
            cases o with
            | map es =>
              dsimp only
              unfold strMap at hz
              split at hz
              · rename_i kt e hu
                split at hz
                · rename_i hk
                  rcases findS_eq hk s (ofOut (aLookup P H t (.map (some r)) (.string s) ok) kp k) (k (bif ok then .tuple #[z, .bool false] else z) H (.eff H H)) (fun v => k (bif ok then .tuple #[v, .bool true] else v) H (.eff H H)) es 0 with h | ⟨r', h1, h2⟩
                  · exact h
                  · refine h2.trans ?_
                    have hc : keyChk P 9 kt (.string s) = true := by simp only [keyChk, hk]
                    simp only [aLookup, hu, hc, cond_true, entriesOf, hg, hz, h1]
                    rcases r' with _ | ⟨i, v⟩ <;> rfl
                · cases hz
              · cases hz
            | _ => rfl
      | _ => rfl
    | _ => rfl

/-- The call in both forms. -/
def CallSame (fc : KCall) (ac : FuncId → List Value → AHeap → Option (CRes × AHeap)) : Prop :=
  ∀ g args H kp kr, fc g args H kp kr = (match ac g args H with | some (.ret v, H') => kr v H' | some (.panic v, H') => kp v H' | none => .no)

theorem slow_eq (P : Program) (ac : FuncId → List Value → AHeap → Option (CRes × AHeap)) (op : Op) (f : Fr) (H : AHeap) (kp : Value → AHeap → Res) (k : KV)
    (h : aOp P (fun _ _ _ => none) f H op = aOp P ac f H op) : slowOp P op f H kp k = ofOut (aOp P ac f H op) kp k := by unfold slowOp; rw [h]; simp only [fV_eq]

theorem ofO_ofOut {α : Type} (o : Option α) (g : α → Option Out) (kp : Value → AHeap → Res) (k : KV) : (ofO o fun x => ofOut (g x) kp k) = ofOut (match o with | some x => g x | none => none) kp k := by cases o <;> rfl

theorem fOp_eq {P : Program} {fc : KCall} {ac : FuncId → List Value → AHeap → Option (CRes × AHeap)} (hc : CallSame fc ac) (op : Op) (f : Fr) (H : AHeap) (kp : Value → AHeap → Res) (k : KV) :
    fOp P fc op f H kp k = ofOut (aOp P ac f H op) kp k := by
  cases op with
  | move x => show fE x f _ = _; rw [fE_eq]; show _ = ofOut ((evO f x).map _) kp k; rw [ofOut_map]
  | assign x => show fE x f _ = _; rw [fE_eq]; show _ = ofOut ((evO f x).map _) kp k; rw [ofOut_map]
  | pick c a b =>
    show fE c f (fun c => asBool c .no fun t => Bool.rec (motive := fun _ => Res) (fE b f fun v => k v H .quiet) (fE a f fun v => k v H .quiet) t) = ofOut (Option.map _ (match evO f c with | some (.bool t) => bif t then evO f a else evO f b | _ => none)) kp k
    rw [ofOut_map, fE_eq]
    cases evO f c with
    | none => rfl
    | some v => cases v with
      | bool t => cases t
                  · exact fE_eq b f _
                  · exact fE_eq a f _
      | _ => rfl
  | alloc e =>
    show (ofO (zeroOf P e) fun z => fMake H _ _ k) = _
    simp only [aOp, aMake]
    cases zeroOf P e with
    | none => rfl
    | some z => rw [ofO_some]; unfold fMake; rw [pushH_eq, fV_eq]; rfl
  | box t x =>
    show fE x f (fun v => fMake H _ _ k) = _
    rw [fE_eq]; simp only [aOp, aMake]
    cases evO f x with
    | none => rfl
    | some v => rw [ofO_some]; unfold fMake; rw [pushH_eq, fV_eq]; rfl
  | load t a =>
    show fE a f (fun a => fLoad P H t a k) = _
    rw [fE_eq]; simp only [aOp]
    cases evO f a with
    | none => rfl
    | some a => exact fLoad_eq P H t a kp k
  | store t a x =>
    show fE a f (fun a => fE x f fun v => fStore P H t a v k) = _
    rw [fE_eq]; simp only [aOp]
    cases evO f a with
    | none => rfl
    | some a =>
      rw [ofO_some, fE_eq]
      cases evO f x with
      | none => rfl
      | some v => exact fStore_eq P H t a v kp k (aStore_val P H t a v)
  | nilCheck x =>
    show fE x f (fun v => asPtr v (slowOp P (.nilCheck x) f H kp k) fun b o => k (.pointer (some ⟨b, o, none⟩)) H .quiet) = _
    rw [slow_eq P ac _ f H kp k rfl, fE_eq]
    cases hv : evO f x with
    | none => show Res.no = _; simp only [aOp, aQuiet, hv]; rfl
    | some v => cases v with
      | pointer a => rcases a with _ | ⟨b, o, _ | s⟩
                     · rfl
                     · simp only [aOp, aQuiet, hv]; rfl
                     · rfl
      | _ => rfl
  | binOp op t x y u =>
    show fE x f (fun a => fE y f fun b => fBin P op t (isConst x) (isConst y) a b fun v => k v H .quiet) = ofOut (Option.map _ (match evO f x, evO f y with | some a, some b => aBin P op t (isConst x) (isConst y) a b | _, _ => none)) kp k
    rw [ofOut_map, fE_eq]
    cases evO f x with
    | none => rfl
    | some a =>
      rw [ofO_some, fE_eq]
      cases evO f y with
      | none => rfl
      | some b => exact fBin_eq P op t _ _ a b _
  | fieldAddr s x j =>
    show fE x f (fun a => ofO (fldOff P s j) fun off => asPtr a .no fun b o => fN (Nat.add o off) fun o => k (.pointer (some ⟨b, o, none⟩)) H .quiet) = ofOut (Option.map _ (match evO f x with | some a => aFieldAddr P s a j | none => none)) kp k
    rw [ofOut_map, fE_eq]
    cases evO f x with
    | none => rfl
    | some a => exact fField_eq P s j a fun v => k v H .quiet
  | indexAddr t x i =>
    show fE x f (fun a => fE i f fun i => fIxAddr P t a i fun v => k v H .quiet) = ofOut (Option.map _ (match evO f x, evO f i with | some a, some b => aIndexAddr P t a b | _, _ => none)) kp k
    rw [ofOut_map, fE_eq]
    cases evO f x with
    | none => rfl
    | some a =>
      rw [ofO_some, fE_eq]
      cases evO f i with
      | none => rfl
      | some b => exact fIx_eq P t a b _
  | extract x i =>
    show fE x f (fun a => asTup a .no fun vs => ofO (nthR vs.toList i) fun v => fV v fun v => k v H .quiet) = ofOut (Option.map _ (match evO f x with | some (.tuple vs) => vs[i]? | _ => none)) kp k
    simp only [fV_eq]
    rw [ofOut_map, fE_eq]
    cases evO f x with
    | none => rfl
    | some a => cases a with
      | tuple vs =>
        show ofO (nthR vs.toList i) _ = ofO vs[i]? _
        have : ∀ (l : List Value) (n : Nat), nthR l n = l[n]? := by
          intro l; induction l with
          | nil => intro n; rfl
          | cons v r ih => intro n; cases n with
            | zero => rfl
            | succ n => exact ih n
        rw [this]; simp
      | _ => rfl
  | lookup t x i c =>
    show fE x f (fun m => fE i f fun key => fLookup P H t m key c (ofOut (aLookup P H t m key c) kp fun v H e => fV v fun v => k v H e) fun v H e => fV v fun v => k v H e) = _
    simp only [fV_eq, fLookup_eq]
    rw [fE_eq]; simp only [aOp]
    cases evO f x with
    | none => rfl
    | some m =>
      rw [ofO_some, fE_eq]
      cases evO f i with
      | none => rfl
      | some key => rfl
  | call c =>
    show fCallOp P fc c (.call c) f H kp k = _
    obtain ⟨ce, args, ts⟩ := c
    cases ce with
    | value g =>
      show fE g f (fun g => asFun g .no fun g first captured => fL args.toList f fun args => fc g (first.toList ++ args ++ captured.toList) H kp fun v H' => fV v fun v => k v H' (.eff H H')) = _
      simp only [fV_eq]
      rw [fE_eq]; simp only [aOp]
      cases evO f g with
      | none => rfl
      | some g => cases g with
        | func fn a b => cases fn with
          | func g =>
            show fL args.toList f _ = _
            rw [fL_eq]
            cases evL f args.toList with
            | none => rfl
            | some as =>
              show fc g _ H kp _ = _
              rw [hc]; simp only []
              rcases ac g (a.toList ++ as ++ b.toList) H with _ | ⟨_ | _, H'⟩ <;> rfl
          | _ => show Res.no = _; cases evL f args.toList <;> rfl
        | _ => show Res.no = _; cases evL f args.toList <;> rfl
    | invoke r m => rfl
    | builtin b =>
      cases b with
      | append =>
        show fL args.toList f (fun l => fAppend P H ts l (ofOut (aAppend P H ts l) kp fun v H e => fV v fun v => k v H e) k) = _
        simp only [fV_eq, fAppend_eq]
        rw [fL_eq]; simp only [aOp]
        cases evL f args.toList <;> rfl
      | len =>
        show fL args.toList f (fun l => fLen P H ts l k) = _
        rw [fL_eq]; simp only [aOp]
        cases evL f args.toList with
        | none => rfl
        | some l => exact fLen_eq P H ts l kp k
      | _ => refine Eq.trans ?_ (slow_eq P ac (.call ⟨.builtin _, args, ts⟩) f H kp k rfl); rfl
  | _ => exact slow_eq P ac _ f H kp k rfl
end Go.AX
