/- TableOnce. -/
import Derived.Test.YtgbclgkadlfejaaLNew
namespace Go.AX.Try
open Go Go.AX Go.AX.Lw Go.Proofs
set_option linter.unusedVariables false
set_option maxRecDepth 100000
theorem stk_tfr {Hb H H' : AHeap} {T M code sz : Nat} {a : Option Addr} {n c : Nat} {xs : List (List Value)} (hw : Wf H) (hs : Stk Hb H code sz a n c xs) (f : TFr H H' T M) (hT : T < Hb.next) (hM : M < Hb.next) (hd : ∀ b o s, a = some ⟨b, o, s⟩ → ¬ TabB H T b) :
    Stk Hb H' code sz a n c xs ∧ ∀ b o s, a = some ⟨b, o, s⟩ → ¬ TabB H' T b := by
  refine ⟨hs.same fun b hb => ?_, fun b o s hb h => hd b o s hb (f.tabB b (hs.lt hw hb).2 h)⟩
  have := hs.lt hw hb
  exact f.get b this.2 (by omega) (by omega) (hd b _ _ hb)
/-- A formula that was kept: where it lies, and its tokens. -/
structure Kp where
  a : Option Addr
  n : Nat
  c : Nat
  ts : List Tk
def Kp.cells (q : Kp) : List Value := [.slice q.a q.n q.c]
/-- What was kept so far, and under which numbers. -/
structure Kept (H0 : AHeap) (items : List It) (kept : List Kp) (nums : List Int) : Prop where
  len : kept.length = nums.length
  at_ : ∀ (j : Nat) q, kept[j]? = some q → RowS H0 q.a q.n q.c 2 (q.ts.map Tk.cells) ∧ q.n ≤ 400 ∧ ∃ v : Nat, nums[j]? = some (v : Int) ∧ v < items.length ∧ textOf items v = q.ts ∧ ∀ its, items <+: its → its.Nodup → findR its q.ts = ((v : Int), true)
theorem textOf_pre {items items' : List It} (hg : Good items) (hp : items <+: items') {v : Nat} (hv : v < items.length) : textOf items' v = textOf items v := text_pre hg hp _ _ (by simpa using hv)
theorem Kept.pre {H0 : AHeap} {items items' : List It} {kept : List Kp} {nums : List Int} (h : Kept H0 items kept nums) (hg : Good items) (hp : items <+: items') : Kept H0 items' kept nums :=
  ⟨h.len, fun j q hq => by
    obtain ⟨h1, h2, v, h3, h4, h5, h6⟩ := h.at_ j q hq
    exact ⟨h1, h2, v, h3, Nat.lt_of_lt_of_le h4 hp.length_le, by rw [textOf_pre hg hp h4, h5], fun its hi hn => h6 its (hp.trans hi) hn⟩⟩
theorem Kept.snoc {H0 : AHeap} {items : List It} {kept : List Kp} {nums : List Int} (h : Kept H0 items kept nums) {q : Kp} {v : Nat} (h1 : RowS H0 q.a q.n q.c 2 (q.ts.map Tk.cells)) (h2 : q.n ≤ 400) (h4 : v < items.length) (h5 : textOf items v = q.ts) (h6 : ∀ its, items <+: its → its.Nodup → findR its q.ts = ((v : Int), true)) : Kept H0 items (kept ++ [q]) (nums ++ [(v : Int)]) := by
  refine ⟨by simp [h.len], fun j p hp => ?_⟩
  rw [List.getElem?_append] at hp
  split at hp
  · rename_i hj
    obtain ⟨a1, a2, u, a3, a4, a5, a6⟩ := h.at_ j p hp
    exact ⟨a1, a2, u, by rw [List.getElem?_append_left (by rw [← h.len]; exact hj)]; exact a3, a4, a5, a6⟩
  · rename_i hj
    have hl := (List.getElem?_eq_some_iff.1 hp).1
    simp at hl
    have hj' : j = kept.length := by omega
    subst hj'
    simp at hp
    subst hp
    exact ⟨h1, h2, v, by rw [h.len, List.getElem?_append_right (Nat.le_refl _)]; simp, h4, h5, h6⟩
/-- What Keep answers, and that it answers so again. -/
theorem keepR_ok {items : List It} {ts : List Tk} (hg : Good items) (h : (keepR items ts).2.1 = 0) :
    ∃ v : Nat, (keepR items ts).1 = v ∧ Good (keepR items ts).2.2 ∧ items <+: (keepR items ts).2.2 ∧ v < (keepR items ts).2.2.length ∧ textOf (keepR items ts).2.2 v = ts ∧ (keepR items ts).2.2.length ≤ items.length + ts.length ∧
      ∀ its, (keepR items ts).2.2 <+: its → its.Nodup → keepR its ts = ((v : Int), 0, its) ∧ findR its ts = ((v : Int), true) := by
  by_cases hc : checkF ts = 0
  · have e1 : ∀ its, keepR its ts = if (itemsGo keepF ts [] its).2.1 then ((itemsGo keepF ts [] its).1, 0, (itemsGo keepF ts [] its).2.2) else (0, 3, its) := fun its => by unfold keepR; rw [if_neg (by simp [hc])]
    have e2 : ∀ its, findR its ts = ((itemsGo findF ts [] its).1, (itemsGo findF ts [] its).2.1) := fun its => by unfold findR; rw [if_neg (by simp [hc])]
    by_cases hok : (itemsGo keepF ts [] items).2.1 = true
    · rw [e1, if_pos hok]
      have hx := keep_text ts [] items hg (by simp) (fits_check hc) hok
      have hlen := itemsGo_len ts [] items
      have hag := keep_again ts [] items hok
      obtain ⟨g, p, v0, vl, vt⟩ := hx
      obtain ⟨v, hv⟩ := Int.eq_ofNat_of_zero_le v0
      rw [hv] at vl vt hag
      refine ⟨v, hv, g, p, by show v < (itemsGo keepF ts [] items).2.2.length; omega, by simpa using vt, hlen, fun its h1 h2 => ?_⟩
      have := hag its h1 h2
      rw [e1, e2, this.1, this.2]
      exact ⟨rfl, rfl⟩
    · rw [e1, if_neg hok] at h; cases h
  · have e1 : keepR items ts = (0, checkF ts, items) := by unfold keepR; rw [if_pos hc]
    rw [e1] at h
    exact absurd h hc
theorem keepR_no {items : List It} {ts : List Tk} (h : (keepR items ts).2.1 ≠ 0) : (keepR items ts).2.2 = items := by
  unfold keepR at h ⊢
  split
  · rfl
  · rename_i hc
    rw [if_neg hc] at h
    split
    · rename_i hok; rw [if_pos hok] at h; exact absurd rfl h
    · rfl
theorem checkF_le (ts : List Tk) : checkF ts ≤ 7 := by
  unfold checkF
  split
  · omega
  · split
    · split <;> omega
    · omega
structure LS where
  k : Nat
  items : List It
  kept : List Kp
  nums : List Int
  ka : Option Addr
  kc : Nat
  na : Option Addr
  nc : Nat
structure LI (H0 H1 H : AHeap) (T M n : Nat) (s : LS) : Prop where
  k : s.k ≤ n
  wf : Wf H
  tab : Tab H0 H T M s.items
  good : Good s.items
  len : s.items.length ≤ s.k * 400
  kept : Kept H0 s.items s.kept s.nums
  klen : s.kept.length ≤ s.k
  next : H1.next ≤ H.next
  ks : Stk H1 H (rowV 44 1) 1 s.ka s.kept.length s.kc (s.kept.map Kp.cells)
  ns : Stk H1 H (rowV 3 1) 1 s.na s.nums.length s.nc (s.nums.map cI)
  d1 : ∀ b o t, s.ka = some ⟨b, o, t⟩ → ¬ TabB H T b
  d2 : ∀ b o t, s.na = some ⟨b, o, t⟩ → ¬ TabB H T b
  d3 : ∀ b o t o' t', s.ka = some ⟨b, o, t⟩ → s.na ≠ some ⟨b, o', t'⟩
theorem LI.tfr {H0 H1 H H' : AHeap} {T M n : Nat} {s : LS} (h : LI H0 H1 H T M n s) (hT : T < H1.next) (hM : M < H1.next) (f : TFr H H' T M) (w : Wf H') {its : List It} (ht : Tab H0 H' T M its) (hg : Good its) (hp : s.items <+: its) (hk : s.k + 1 ≤ n) (hl : its.length ≤ (s.k + 1) * 400) :
    LI H0 H1 H' T M n ⟨s.k + 1, its, s.kept, s.nums, s.ka, s.kc, s.na, s.nc⟩ := by
  have a1 := stk_tfr h.wf h.ks f hT hM h.d1
  have a2 := stk_tfr h.wf h.ns f hT hM h.d2
  exact ⟨hk, w, ht, hg, hl, h.kept.pre h.good hp, Nat.le_trans h.klen (Nat.le_succ _), Nat.le_trans h.next f.next, a1.1, a2.1, a1.2, a2.2, h.d3⟩
theorem once_any (H0 : AHeap) (hw0 : Wf H0) (a : Option Addr) (n c : Nat) (ls : List (List Tk)) (hf : Forms H0 a n c ls) (hn : n ≤ 2 ^ 63 - 1) :
    Does Try.prog orc 4 [.slice a n c] H0 fun r _ => r = .ret (.bool true) := by
  have hlen := hf.len
  have hcap := hlen.2
  refine Does.of Try.func4 (fun _ _ => rfl) rfl ?_
  repeat' ((conv => whnf); first
    | (refine Both.intro ?_ ?_ <;> intro _ <;> try (exfalso; omega))
    | (refine Need.intro (by omega) ?_)
    | (refine Does.mono (awake_any H0) ?_ ; rintro _ _ ⟨rfl, rfl⟩)
    | (refine Does.mono (new_any H0 hw0) ?_ ; rintro _ H1 ⟨rfl, ht1, w1, e1, htb1⟩)
    | (refine Gives.intro ⟨.bool _, rfl, ?_⟩)
    | fail)
  all_goals (conv => whnf)
  · rfl
  rename_i hn12
  have hn12 : n ≤ 12 := by omega
  obtain ⟨hT, hM⟩ := ht1.lt2 w1
  obtain ⟨T, hTe⟩ : ∃ T, T = H0.next + 1 := ⟨_, rfl⟩
  obtain ⟨M, hMe⟩ : ∃ M, M = H0.next := ⟨_, rfl⟩
  rw [← hTe] at ht1 hT htb1
  rw [← hMe] at ht1 hM
  refine Runs.loop (fun s : LS => [(7, .int .i64 s.k), (0, .slice a n c), (4, .pointer (some ⟨T, 0, none⟩)), (3, .bool true), (6, .slice s.na s.nums.length s.nc), (5, .slice s.ka s.kept.length s.kc)])
    (fun s H' => LI H0 H1 H' T M n s) (fun s => n - s.k) ⟨0, [], [], [], none, 0, none, 0⟩ ⟨rfl, rfl, by rw [hTe]; rfl, rfl, rfl, rfl, trivial⟩
    ⟨by simp, w1, ht1, Good.nil, by simp, ⟨rfl, by simp⟩, by simp, Nat.le_refl _, Stk.nil _ _ _ _, Stk.nil _ _ _ _, by simp, by simp, by simp⟩ ?_
  rintro s H2 hI
  have hk := hI.k
  have hklen := hI.klen
  have hkl := hI.kept.len
  show vc _ _ _ _ _ [(7, .int .i64 s.k), (0, .slice a n c), (4, .pointer (some ⟨T, 0, none⟩)), (3, .bool true), (6, .slice s.na s.nums.length s.nc), (5, .slice s.ka s.kept.length s.kc)] _ _
  by_cases hlt : s.k < n
  · obtain ⟨b, o, st, aj, nj, cj, ts, rfl, hcell, hts, hrow, hnj⟩ := hf.at hlt
    have c2 := cellAt_ext hw0 hI.tab.base hcell
    by_cases h400 : nj > 400
    · skip
      repeat' ((conv => whnf); first
        | (refine Both.intro ?_ ?_ <;> intro _ <;> try (exfalso; omega))
        | (refine Need.intro (by omega) ?_)
        | (refine ⟨_, c2, ?_⟩)
        | fail)
      all_goals (conv => whnf)
      rfl
    · have hrl := hrow.len
      simp at hrl
      have hil := hI.len
      have hk40 : s.k * 400 ≤ 4800 := by omega
      have hkeep := keep_any H0 H2 hI.wf hw0 T M s.items hI.tab (by omega) aj nj cj ts hrow (by omega)
      by_cases he : (keepR s.items ts).2.1 = 0
      · obtain ⟨v, hv1, g2, p2, v2, tx2, l2, hag⟩ := keepR_ok hI.good he
        obtain ⟨its, hits⟩ : ∃ its, its = (keepR s.items ts).2.2 := ⟨_, rfl⟩
        rw [hv1, he] at hkeep
        rw [← hits] at hkeep g2 p2 v2 tx2 l2 hag
        have hag2 := hag its (List.prefix_refl _) g2.uniq
        have hil2 : its.length ≤ 5200 := by omega
        repeat' ((conv => whnf); first
          | (refine Both.intro ?_ ?_ <;> intro _ <;> try (exfalso; omega))
          | (refine Need.intro (by omega) ?_)
          | (refine ⟨_, c2, ?_⟩)
          | (refine Does.mono hkeep ?_ ; rintro _ H3 ⟨rfl, ht3, w3, f3⟩)
          | fail)
        all_goals (conv => whnf)
        have hI3 := hI.tfr hT hM f3 w3 ht3 g2 p2 (by omega) (by omega)
        have c3 := cellAt_ext hw0 ht3.base hcell
        have hlen3 := len_any H0 H3 T M its ht3
        have hkeep3 := keep_any H0 H3 w3 hw0 T M its ht3 (by omega) aj nj cj ts hrow (by omega)
        rw [hag2.1] at hkeep3
        dsimp only at hkeep3
        repeat' ((conv => whnf); first
          | (refine Both.intro ?_ ?_ <;> intro _ <;> try (exfalso; omega))
          | (refine Need.intro (by omega) ?_)
          | (refine Does.mono hlen3 ?_ ; rintro _ _ ⟨rfl, rfl⟩)
          | (refine ⟨_, c3, ?_⟩)
          | (refine Does.mono hkeep3 ?_ ; rintro _ H4 ⟨rfl, ht4, w4, f4⟩)
          | fail)
        all_goals (conv => whnf)
        have c4 := cellAt_ext hw0 ht4.base hcell
        have hfind4 := find_any H0 H4 w4 hw0 T M its ht4 aj nj cj ts hrow (by omega)
        rw [hag2.2] at hfind4
        dsimp only at hfind4
        repeat' ((conv => whnf); first
          | (refine Both.intro ?_ ?_ <;> intro _ <;> try (exfalso; omega))
          | (refine Need.intro (by omega) ?_)
          | (refine ⟨_, c4, ?_⟩)
          | (refine Does.mono hfind4 ?_ ; rintro _ H5 ⟨rfl, ht5, w5, f5⟩)
          | fail)
        all_goals (conv => whnf)
        have c5 := cellAt_ext hw0 ht5.base hcell
        have hlen5 := len_any H0 H5 T M its ht5
        repeat' ((conv => whnf); first
          | (refine Both.intro ?_ ?_ <;> intro _ <;> try (exfalso; omega))
          | (refine Need.intro (by omega) ?_)
          | (refine Does.mono hlen5 ?_ ; rintro _ _ ⟨rfl, rfl⟩)
          | (refine ⟨_, c5, ?_⟩)
          | fail)
        all_goals (conv => whnf)
        have k4 := stk_tfr w3 hI3.ks f4 hT hM hI3.d1
        have k5 := stk_tfr w4 k4.1 f5 hT hM k4.2
        have m4 := stk_tfr w3 hI3.ns f4 hT hM hI3.d2
        have m5 := stk_tfr w4 m4.1 f5 hT hM m4.2
        dsimp only at k5 m5
        have hd3 := hI.d3
        have hn5 : H1.next ≤ H5.next := by have := hI3.next; have := f4.next; have := f5.next; omega
        have e6 := Ext.push H5 (.cells [.slice aj nj cj] 0 true)
        have w6 := w5.push (.cells [.slice aj nj cj] 0 true)
        have ht6 := ht5.ext w5 e6
        have hT5l := ht5.lt2 w5
        obtain ⟨a7, q7, H7, happ7, k7, w7, n7, hk7, hn7⟩ := stk_pushC (Nat.le_trans hn5 e6.next) w6 toksTy (k5.1.ext w5 e6) (m := s.kept.length) (Nat.le_refl _) (srcS (st := none) (get_new H5 (.cells [.slice aj nj cj] 0 true)) rfl) rfl rfl (by omega) (by omega)
        have hn6 : (H5.push (.cells [.slice aj nj cj] 0 true)).next = H5.next + 1 := by simp
        have m7 : Stk H1 H7 (rowV 3 1) 1 s.na s.nums.length s.nc (s.nums.map cI) := (m5.1.ext w5 e6).same fun b hb => hk7 b (by have := (m5.1.lt w5 hb).2; omega) (fun o t h => hd3 _ _ _ _ _ h hb)
        have e8 := Ext.push H7 (.cells (cI v) 0 true)
        have w8 := w7.push (.cells (cI v) 0 true)
        obtain ⟨a9, q9, H9, happ9, m9, w9, n9, hk9, hn9⟩ := stk_pushC (by have := e8.next; have := e6.next; omega) w8 intTy (m7.ext w7 e8) (m := s.nums.length) (Nat.le_refl _) (srcS (st := none) (get_new H7 (.cells (cI v) 0 true)) rfl) rfl rfl (by omega) (by omega)
        have hn8 : (H7.push (.cells (cI v) 0 true)).next = H7.next + 1 := by simp
        have hbs7 : aBuildSlice Try.prog 39 1 [(0, .slice aj nj cj)] = mkSlice [.slice aj nj cj] 1 1 := by kernel_rfl
        have hbs9 : aBuildSlice Try.prog 43 1 [(0, .int .i64 v)] = mkSlice (cI v) 1 1 := by kernel_rfl
        repeat' ((conv => whnf); first
          | (refine Both.intro ?_ ?_ <;> intro _ <;> try (exfalso; omega))
          | (refine Need.intro (by omega) ?_)
          | (refine ⟨_, hbs7, ?_⟩)
          | (refine Outs.intro ⟨_, _, _, happ7, ?_⟩)
          | (refine ⟨_, hbs9, ?_⟩)
          | (refine Outs.intro ⟨_, _, _, happ9, ?_⟩)
          | fail)
        all_goals (conv => whnf)
        have kaN : ∀ b o t, s.ka = some ⟨b, o, t⟩ → H1.next ≤ b ∧ b < H5.next := fun b o t h => k5.1.lt w5 h
        have naN : ∀ b o t, s.na = some ⟨b, o, t⟩ → H1.next ≤ b ∧ b < H5.next := fun b o t h => m5.1.lt w5 h
        have a7N : ∀ b o t o' t', a7 = some ⟨b, o, t⟩ → s.na ≠ some ⟨b, o', t'⟩ := fun b o t o' t' h h' => by
          rcases hn7 _ _ _ h with h1 | h1
          · exact hd3 _ _ _ _ _ h1 h'
          · have := (naN _ _ _ h').2; omega
        have k9 : Stk H1 H9 (rowV 44 1) 1 a7 (s.kept.length + 1) q7 ((s.kept.map Kp.cells).take s.kept.length ++ [[.slice aj nj cj]]) := (k7.ext w7 e8).same fun b hb => hk9 b (by have := (k7.lt w7 hb).2; omega) (fun o t h => a7N _ _ _ _ _ hb h)
        have low : ∀ b, b < H5.next → (∀ o t, s.ka ≠ some ⟨b, o, t⟩) → (∀ o t, s.na ≠ some ⟨b, o, t⟩) → H9.get b = H5.get b := fun b hb h1 h2 => by
          rw [hk9 b (by omega) h2, e8.get b (by omega), hk7 b (by omega) h1, e6.get b hb]
        have lowT : ∀ b, b < H1.next → H9.get b = H5.get b := fun b hb => low b (by omega) (fun o t h => by have := (kaN _ _ _ h).1; omega) (fun o t h => by have := (naN _ _ _ h).1; omega)
        have tb : ∀ b, TabB H9 T b → TabB H5 T b := fun b ⟨o, t, n', c', x, hx⟩ => ⟨o, t, n', c', x, by rw [← lowT T hT]; exact hx⟩
        have ht9 : Tab H0 H9 T M its := ht5.same (lowT T hT) (lowT M hM) (fun b hb => low b (TabB.lt ht5 w5 hb).1 (fun o t h => k5.2 _ _ _ h hb) (fun o t h => m5.2 _ _ _ h hb)) ⟨by have := ht5.base.next; omega, fun b hb => (lowT b (Nat.lt_of_lt_of_le hb ht1.base.next)).trans (ht5.base.get b hb)⟩
        have hlk : (s.kept ++ [(⟨aj, nj, cj, ts⟩ : Kp)]).length = s.kept.length + 1 := by simp
        have hln : (s.nums ++ [(v : Int)]).length = s.nums.length + 1 := by simp
        refine ⟨⟨s.k + 1, its, s.kept ++ [⟨aj, nj, cj, ts⟩], s.nums ++ [(v : Int)], a7, q7, a9, q9⟩, ⟨rfl, rfl, rfl, rfl, by dsimp only; rw [hln]; rfl, by dsimp only; rw [hlk]; rfl, trivial⟩,
          ⟨by show s.k + 1 ≤ n; omega, w9, ht9, g2, by dsimp only; omega, (hI.kept.pre hI.good p2).snoc hrow (by dsimp only; omega) v2 tx2 (fun its' h1 h2 => (hag its' h1 h2).2), by dsimp only; rw [hlk]; omega, by omega, ?_, ?_, ?_, ?_, ?_⟩, by dsimp only; omega⟩
        · dsimp only
          rw [hlk, List.map_append]
          rw [List.take_of_length_le (by simp)] at k9
          exact k9
        · dsimp only
          rw [hln, List.map_append]
          rw [List.take_of_length_le (by simp)] at m9
          exact m9
        · intro b o t hb h
          have h5 := tb b h
          rcases hn7 _ _ _ hb with h1 | h1
          · exact k5.2 _ _ _ h1 h5
          · have := (TabB.lt ht5 w5 h5).1; omega
        · intro b o t hb h
          have h5 := tb b h
          rcases hn9 _ _ _ hb with h1 | h1
          · exact m5.2 _ _ _ h1 h5
          · have := (TabB.lt ht5 w5 h5).1; omega
        · intro b o t o' t' hb hb'
          dsimp only at hb hb'
          rcases hn9 _ _ _ hb' with h1 | h1
          · exact a7N _ _ _ _ _ hb h1
          · have := (k7.lt w7 hb).2; omega
      · have hno := keepR_no he
        rw [hno] at hkeep
        obtain ⟨e, hee⟩ : ∃ e, e = (keepR s.items ts).2.1 := ⟨_, rfl⟩
        rw [← hee] at hkeep he
        repeat' ((conv => whnf); first
          | (refine Both.intro ?_ ?_ <;> intro _ <;> try (exfalso; omega))
          | (refine Need.intro (by omega) ?_)
          | (refine ⟨_, c2, ?_⟩)
          | (refine Does.mono hkeep ?_ ; rintro _ H3 ⟨rfl, ht3, w3, f3⟩)
          | fail)
        all_goals (conv => whnf)
        exact ⟨⟨s.k + 1, s.items, s.kept, s.nums, s.ka, s.kc, s.na, s.nc⟩, ⟨rfl, rfl, rfl, rfl, rfl, rfl, trivial⟩, hI.tfr hT hM f3 w3 ht3 hI.good (List.prefix_refl _) (by omega) (by omega), by dsimp only; omega⟩
  · skip
    repeat' ((conv => whnf); first
      | (refine Both.intro ?_ ?_ <;> intro _ <;> try (exfalso; omega))
      | (refine Need.intro (by omega) ?_)
      | fail)
    all_goals (conv => whnf)
    have hil := hI.len
    have hk40 : s.k * 400 ≤ 4800 := by omega
    refine Runs.loop (fun k : Nat => [(15, .int .i64 k), (4, .pointer (some ⟨T, 0, none⟩)), (3, .bool true), (6, .slice s.na s.nums.length s.nc), (5, .slice s.ka s.kept.length s.kc)])
      (fun k H' => k ≤ s.kept.length ∧ Ext H2 H' ∧ Wf H') (fun k => s.kept.length - k) 0 ⟨rfl, rfl, rfl, rfl, rfl, trivial⟩ ⟨by omega, Ext.refl _, hI.wf⟩ ?_
    rintro k H3 ⟨hk3, e3, w3⟩
    have hkc := hI.ks.2.1
    have hnc := hI.ns.2.1
    by_cases hlk : k < s.kept.length
    · obtain ⟨q, hq⟩ := get_of (l := s.kept) (k := k) hlk
      obtain ⟨hrow, hqn, v, hnv, hvl, htx, hfd⟩ := hI.kept.at_ k q hq
      obtain ⟨x, hx⟩ := get_of (l := s.items) (k := v) hvl
      have hlt2 := hI.good.lt v x hx
      have hrl := hrow.len
      simp at hrl
      have ht3 := hI.tab.ext hI.wf e3
      obtain ⟨bn, on, sn, hna, hcn0⟩ := hI.ns.row.cell k (cI v) (by rw [List.getElem?_map, hnv]; rfl)
      obtain ⟨bk, ok, sk, hka, hck0⟩ := hI.ks.row.cell k q.cells (by rw [List.getElem?_map, hq]; rfl)
      rw [Nat.mul_one] at hcn0 hck0
      have hcn := cellsAt_cell hcn0 (j := 0) (v := .int .i64 v) rfl
      have hck := cellsAt_cell hck0 (j := 0) (v := .slice q.a q.n q.c) rfl
      have hcn3 := cellAt_ext hI.wf e3 hcn
      rw [hna, hka]
      have htext := tText_any H0 H3 w3 T M s.items hI.good ht3 (by omega) v hvl (by rw [htx]; omega)
      repeat' ((conv => whnf); first
        | (refine Both.intro ?_ ?_ <;> intro _ <;> try (exfalso; omega))
        | (refine Need.intro (by omega) ?_)
        | (refine ⟨_, hcn3, ?_⟩)
        | (refine Does.mono htext ?_ ; rintro _ H4 ⟨a4, n4, c4, rfl, e4, w4, r4⟩)
        | fail)
      all_goals (conv => whnf)
      have hcn4 := cellAt_ext w3 e4 hcn3
      have hitem := tItem_any H0 H4 w4 T M s.items (ht3.ext w3 e4) v x hx (by omega)
      have hzi : zeroOf Try.prog 54 = some (.agg #[.int .u8 0, .int .u8 0, .int .i64 0, .int .i64 0]) := by kernel_rfl
      repeat' ((conv => whnf); first
        | (refine Both.intro ?_ ?_ <;> intro _ <;> try (exfalso; omega))
        | (refine Need.intro (by omega) ?_)
        | (refine ⟨_, hcn4, ?_⟩)
        | (refine Does.mono hitem ?_ ; rintro _ H5 ⟨rfl, e5, w5⟩)
        | (refine Gives.intro ⟨_, hzi, ?_⟩)
        | fail)
      all_goals (conv => whnf)
      have g6 := get_new H5 (.cells [.int .u8 0, .int .u8 0, .int .i64 0, .int .i64 0] (typedV 54) true)
      have hs6 := storeAgg_ok (P := Try.prog) (t := 54) (vs := x.cells) (by kernel_rfl) rfl g6 rfl
      have w6 := (w5.push (.cells [.int .u8 0, .int .u8 0, .int .i64 0, .int .i64 0] (typedV 54) true)).set g6 (.cells x.cells (typedV 54) true)
      have e6 := ((Ext.refl H5).trans (Ext.push H5 (.cells [.int .u8 0, .int .u8 0, .int .i64 0, .int .i64 0] (typedV 54) true))).set (Nat.le_refl _) (.cells x.cells (typedV 54) true)
      have q6 : ((H5.push (.cells [.int .u8 0, .int .u8 0, .int .i64 0, .int .i64 0] (typedV 54) true)).set H5.next (.cells x.cells (typedV 54) true)).get H5.next = some (.cells x.cells (typedV 54) true) := by rw [AHeap.get_set, if_pos rfl]
      obtain ⟨H6, hH6⟩ : ∃ H6, H6 = (H5.push (.cells [.int .u8 0, .int .u8 0, .int .i64 0, .int .i64 0] (typedV 54) true)).set H5.next (.cells x.cells (typedV 54) true) := ⟨_, rfl⟩
      rw [← hH6] at hs6 w6 e6 q6
      have pa := cellAt_of q6 (o := 2) (v := .int .i64 x.a) rfl
      have pb := cellAt_of q6 (o := 3) (v := .int .i64 x.b) rfl
      have e26 := ((e3.trans e4).trans e5).trans e6
      have hcn6 := cellAt_ext hI.wf e26 hcn
      have hck6 := cellAt_ext hI.wf e26 hck
      have hr6 := hrow.ext hw0 (hI.tab.base.trans e26)
      have hsame := sameToks_any H6 a4 q.a n4 c4 q.n q.c _ q.ts ((r4.ext w4 e5).ext w5 e6) hr6 (by have := r4.len; simp [htx] at this; omega) (by omega)
      have hsame : Does Try.prog orc 30 [.slice a4 n4 c4, .slice q.a q.n q.c] H6 fun r H' => r = .ret (.bool true) ∧ H6 = H' := hsame.mono fun r H' ⟨b, h1, h2, h3⟩ => ⟨by rw [h1, h2.2 htx], h3⟩
      repeat' ((conv => whnf); first
        | (refine Both.intro ?_ ?_ <;> intro _ <;> try (exfalso; omega))
        | (refine Need.intro (by omega) ?_)
        | (refine Outs.intro ⟨_, _, _, hs6, ?_⟩)
        | (refine ⟨_, hcn6, ?_⟩)
        | (refine ⟨_, hck6, ?_⟩)
        | (refine ⟨_, pa, ?_⟩)
        | (refine ⟨_, pb, ?_⟩)
        | (refine Gives.intro ⟨.pointer (some ⟨_, 0 + 2, none⟩), rfl, ?_⟩)
        | (refine Gives.intro ⟨.pointer (some ⟨_, 0 + 3, none⟩), rfl, ?_⟩)
        | (refine Does.mono hsame ?_ ; rintro _ _ ⟨rfl, rfl⟩)
        | (refine Need.intro (draw_of (by simp only [effAll, lookAll, and_self])) ?_)
        | fail)
      all_goals (conv => whnf)
      refine Runs.loop (fun j : Nat => [(20, .int .i64 j), (15, .int .i64 k), (4, .pointer (some ⟨T, 0, none⟩)), (3, .bool true), (6, .slice (some ⟨bn, on, sn⟩) s.nums.length s.nc), (5, .slice (some ⟨bk, ok, sk⟩) s.kept.length s.kc)])
        (fun j H' => j ≤ k ∧ H6 = H') (fun j => k - j) 0 ⟨rfl, rfl, rfl, rfl, rfl, rfl, trivial⟩ ⟨by omega, rfl⟩ ?_
      rintro j _ ⟨hj, rfl⟩
      by_cases hjk : j < k
      · obtain ⟨q', hq'⟩ := get_of (l := s.kept) (k := j) (by omega)
        obtain ⟨hrow', hqn', u, hnu, hul, htx', hfd'⟩ := hI.kept.at_ j q' hq'
        obtain ⟨b', o', s', hb', hcn0'⟩ := hI.ns.row.cell j (cI u) (by rw [List.getElem?_map, hnu]; rfl)
        rw [hna] at hb'; cases hb'
        obtain ⟨b', o', s', hb', hck0'⟩ := hI.ks.row.cell j q'.cells (by rw [List.getElem?_map, hq']; rfl)
        rw [hka] at hb'; cases hb'
        rw [Nat.mul_one] at hcn0' hck0'
        have hcnj := cellAt_ext hI.wf e26 (cellsAt_cell hcn0' (j := 0) (v := .int .i64 u) rfl)
        have hckj := cellAt_ext hI.wf e26 (cellsAt_cell hck0' (j := 0) (v := .slice q'.a q'.n q'.c) rfl)
        have hrl' := hrow'.len
        simp at hrl'
        have hsj := sameToks_any H6 q.a q'.a q.n q.c q'.n q'.c q.ts q'.ts hr6 (hrow'.ext hw0 (hI.tab.base.trans e26)) (by omega) (by omega)
        by_cases hvu : v = u
        · have heq : q.ts = q'.ts := by rw [← htx, ← htx', hvu]
          have hsj : Does Try.prog orc 30 [.slice q.a q.n q.c, .slice q'.a q'.n q'.c] H6 fun r H' => r = .ret (.bool true) ∧ H6 = H' := hsj.mono fun r H' ⟨b, h1, h2, h3⟩ => ⟨by rw [h1, h2.2 heq], h3⟩
          repeat' ((conv => whnf); first
            | (refine Both.intro ?_ ?_ <;> intro _ <;> try (exfalso; omega))
            | (refine Need.intro (by omega) ?_)
            | (refine ⟨_, hcn6, ?_⟩)
            | (refine ⟨_, hck6, ?_⟩)
            | (refine ⟨_, hcnj, ?_⟩)
            | (refine ⟨_, hckj, ?_⟩)
            | (refine Does.mono hsj ?_ ; rintro _ _ ⟨rfl, rfl⟩)
            | (refine Gives.intro ⟨.bool false, rfl, ?_⟩)
            | (refine Need.intro (draw_of (by simp only [effAll, lookAll, and_self])) ?_)
            | fail)
          all_goals (conv => whnf)
          exact ⟨j + 1, ⟨rfl, rfl, rfl, rfl, rfl, rfl, trivial⟩, ⟨by omega, rfl⟩, by omega⟩
        · have hne : q.ts ≠ q'.ts := fun hh => hvu (by
            have h1 := hfd s.items (List.prefix_refl _) hI.good.uniq
            have h2 := hfd' s.items (List.prefix_refl _) hI.good.uniq
            rw [hh, h2] at h1
            simp at h1; omega)
          have hsj : Does Try.prog orc 30 [.slice q.a q.n q.c, .slice q'.a q'.n q'.c] H6 fun r H' => r = .ret (.bool false) ∧ H6 = H' := hsj.mono fun r H' ⟨b, h1, h2, h3⟩ => ⟨by cases b with
            | false => exact h1
            | true => exact absurd (h2.1 rfl) hne, h3⟩
          repeat' ((conv => whnf); first
            | (refine Both.intro ?_ ?_ <;> intro _ <;> try (exfalso; omega))
            | (refine Need.intro (by omega) ?_)
            | (refine ⟨_, hcn6, ?_⟩)
            | (refine ⟨_, hck6, ?_⟩)
            | (refine ⟨_, hcnj, ?_⟩)
            | (refine ⟨_, hckj, ?_⟩)
            | (refine Does.mono hsj ?_ ; rintro _ _ ⟨rfl, rfl⟩)
            | (refine Gives.intro ⟨.bool false, rfl, ?_⟩)
            | (refine Need.intro (draw_of (by simp only [effAll, lookAll, and_self])) ?_)
            | fail)
          all_goals (conv => whnf)
          exact ⟨j + 1, ⟨rfl, rfl, rfl, rfl, rfl, rfl, trivial⟩, ⟨by omega, rfl⟩, by omega⟩
      · skip
        repeat' ((conv => whnf); first
          | (refine Both.intro ?_ ?_ <;> intro _ <;> try (exfalso; omega))
          | (refine Need.intro (by omega) ?_)
          | fail)
        all_goals (conv => whnf)
        exact ⟨k + 1, ⟨rfl, rfl, rfl, rfl, rfl, trivial⟩, ⟨by omega, e26, w6⟩, by omega⟩
    · skip
      repeat' ((conv => whnf); first
        | (refine Both.intro ?_ ?_ <;> intro _ <;> try (exfalso; omega))
        | (refine Need.intro (by omega) ?_)
        | fail)
      all_goals (conv => whnf)
      rfl
end Go.AX.Try
