/-
  PROVED: 'Rows.ModelKnownCardSaid': marqueelaw32.ModelKnown returns true from every world in which the listed library variables hold what the program's text lays into them (the row's condition 'laid'), and leaves memory as it was; by a verified evaluator of the calculus (Go.Ae), run by the kernel. The card ties the pruned copy of the repository only.
  This text: the evaluator and its soundness, part 5 of 6.
-/
import Derived.Test.YtdiegifjhdfckabGreatDoorAe4
import Derived.Lib.Bytealg
import Derived.Laws.Externs
import Derived.Maps.RangeRun

section
/-
  AE: the steps of an open region, in whatever order.
-/
namespace Go.Ae

theorem pairAt_symm {agg : Bool} {off n : Nat} {xs ys : List Value} {a b : Value} (h : pairAt agg off n xs ys = some (a, b)) : pairAt agg off n ys xs = some (b, a) := by
  unfold pairAt at h ⊢
  cases agg with
  | true =>
    simp only at h ⊢
    cases h1 : cut xs off n <;> cases h2 : cut ys off n <;> rw [h1, h2] at h <;> first | cases h | skip
    rfl
  | false =>
    simp only at h ⊢
    cases h1 : nth xs off <;> cases h2 : nth ys off <;> rw [h1, h2] at h <;> first | cases h | skip
    rfl

theorem cmpArr_symm {f : Value → Value → Option Bool} (hf : ∀ x y b, f x y = some b → f y x = some b) (size : Nat) (agg : Bool) (xs ys : List Value) : ∀ (k off : Nat) (b : Bool), cmpArr f size agg xs ys k off = some b → cmpArr f size agg ys xs k off = some b := by
  intro k
  induction k with
  | zero => intro off b h; exact h
  | succ k ih =>
    intro off b h
    have h : (match pairAt agg off size xs ys with
      | some (a, b) => (match f a b with
        | some true => cmpArr f size agg xs ys k (off + size)
        | r => r)
      | none => none) = some b := h
    show (match pairAt agg off size ys xs with
      | some (a, b) => (match f a b with
        | some true => cmpArr f size agg ys xs k (off + size)
        | r => r)
      | none => none) = some b
    cases hp : pairAt agg off size xs ys with
    | none => rw [hp] at h; cases h
    | some p =>
      obtain ⟨x, y⟩ := p
      rw [hp] at h
      rw [pairAt_symm hp]
      simp only at h ⊢
      cases hxy : f x y with
      | none => rw [hxy] at h; cases h
      | some r =>
        rw [hxy] at h
        rw [hf x y r hxy]
        cases r with
        | true => exact ih _ _ h
        | false => exact h

theorem eqI_symm (a b : Int) : eqI a b = eqI b a := by
  rw [eqI_eq, eqI_eq]
  by_cases h : a = b
  · subst h; rfl
  · rw [beq_false_of_ne h, beq_false_of_ne (Ne.symm h)]

mutual
theorem cmpV_symm : ∀ (c : Cmp) (x y : Value) (b : Bool), cmpV c x y = some b → cmpV c y x = some b
  | .bool, x, y, b, h => by
    have h : cmB x y = some b := h
    show cmB y x = some b
    unfold cmB at h ⊢
    split at h
    · cases h; simp only [Option.some.injEq]; exact Bool.beq_comm
    · cases h
  | .int, x, y, b, h => by
    have h : cmI x y = some b := h
    show cmI y x = some b
    unfold cmI at h ⊢
    split at h
    · rename_i j p k q _
      have h : cond (kEq j k) (some (eqI p q)) none = some b := h
      cases hk : kEq j k with
      | false => rw [hk] at h; cases h
      | true =>
        rw [hk] at h
        have := kEq_eq hk
        subst this
        simp only [hk, cond_true] at h ⊢
        rw [eqI_symm]; exact h
    · cases h
  | .str, x, y, b, h => by
    have h : cmS x y = some b := h
    show cmS y x = some b
    unfold cmS at h ⊢
    split at h
    · rename_i p q _
      cases h
      simp only [Option.some.injEq]
      cases h1 : (p == q) with
      | true => have := bytes_beq h1; subst this; exact h1
      | false =>
        cases h2 : (q == p) with
        | false => rfl
        | true => have := bytes_beq h2; subst this; rw [h2] at h1; cases h1
    · cases h
  | .struct fs, x, y, b, h => by
    have h : cmSt (cmpFs fs) x y = some b := h
    show cmSt (cmpFs fs) y x = some b
    unfold cmSt at h ⊢
    split at h
    · exact cmpFs_symm fs _ _ b h
    · cases h
  | .arr len size agg c, x, y, b, h => by
    have h : cmAr len size agg (cmpV c) x y = some b := h
    show cmAr len size agg (cmpV c) y x = some b
    unfold cmAr at h ⊢
    split at h
    · exact cmpArr_symm (cmpV_symm c) size agg _ _ len 0 b h
    · cases h
theorem cmpFs_symm : ∀ (c : CmpL) (xs ys : List Value) (b : Bool), cmpFs c xs ys = some b → cmpFs c ys xs = some b
  | .nil, _, _, _, h => h
  | .cons off n agg c rest, xs, ys, b, h => by
    have h : cmC off n agg (cmpV c) (cmpFs rest) xs ys = some b := h
    show cmC off n agg (cmpV c) (cmpFs rest) ys xs = some b
    unfold cmC at h ⊢
    cases hp : pairAt agg off n xs ys with
    | none => rw [hp] at h; cases h
    | some p =>
      obtain ⟨x, y⟩ := p
      rw [hp] at h
      rw [pairAt_symm hp]
      simp only at h ⊢
      cases hxy : cmpV c x y with
      | none => rw [hxy] at h; cases h
      | some r =>
        rw [hxy] at h
        rw [cmpV_symm c x y r hxy]
        cases r with
        | true => exact cmpFs_symm rest _ _ _ h
        | false => exact h
end

theorem veqL_eq {p : Value → Value → Bool} (hp : ∀ x y, p x y = true → x = y) : ∀ l l', veqF.veqL p l l' = true → l = l'
  | [], [], _ => rfl
  | [], _ :: _, h => by simp [veqF.veqL] at h
  | _ :: _, [], h => by simp [veqF.veqL] at h
  | x :: xs, y :: ys, h => by
    simp only [veqF.veqL, Bool.and_eq_true] at h
    rw [hp x y h.1, veqL_eq hp xs ys h.2]

theorem arr_inj {a b : Array Value} (h : a.toList = b.toList) : a = b := Array.toList_inj.1 h

theorem veqF_eq : ∀ (f : Nat) (x y : Value), veqF f x y = true → x = y := by
  intro f
  induction f with
  | zero => intro x y h; simp [veqF] at h
  | succ f ih =>
    intro x y h
    unfold veqF at h
    split at h <;> first | rfl | cases h | skip
    · simp at h; rw [h]
    · simp only [Bool.and_eq_true] at h
      have h1 := kEq_eq h.1
      have h2 := h.2
      rw [eqI_eq] at h2
      rw [h1, eq_of_beq h2]
    · rw [bytes_beq h]
    · rw [(addrEq_eq h).1]
    · simp only [Bool.and_eq_true] at h
      rw [Nat.eq_of_beq_eq_true h.1, Nat.eq_of_beq_eq_true h.2]
    · simp only [Bool.and_eq_true] at h
      rw [(addrEq_eq h.1.1).1, Nat.eq_of_beq_eq_true h.1.2, Nat.eq_of_beq_eq_true h.2]
    · rw [Nat.eq_of_beq_eq_true h]
    · simp only [Bool.and_eq_true] at h
      rw [Nat.eq_of_beq_eq_true h.1.1, arr_inj (veqL_eq ih _ _ h.1.2), arr_inj (veqL_eq ih _ _ h.2)]
    · simp only [Bool.and_eq_true] at h
      rw [Nat.eq_of_beq_eq_true h.1, ih _ _ h.2]
    · rw [arr_inj (veqL_eq ih _ _ h)]
    · rw [arr_inj (veqL_eq ih _ _ h)]

theorem sameBack_at {R : Rec} {f : OpF} {mi : Tr Value} {v : Value} : ∀ (l : List (Tr AObj)) (n m : Nat) (tr : Tr AObj), sameBack R f mi v l n = true → m < n → l[m]? = some tr → dval R f mi tr = some v
  | [], _, _, _, _, _, h => by simp at h
  | h :: hs, n, m, tr, hb, hm, hl => by
    cases n with
    | zero => omega
    | succ n =>
      unfold sameBack at hb
      simp only at hb
      split at hb
      · rename_i u hu
        simp only [Bool.and_eq_true] at hb
        have := veqF_eq _ _ _ hb.1
        subst this
        cases m with
        | zero => simp at hl; subst hl; exact hu
        | succ m => exact sameBack_at hs n m tr hb.2 (by omega) (by simpa using hl)
      · cases hb

theorem readAt_at {R : Rec} {f : OpF} {mi : Tr Value} {v : Value} {back : Nat} {st : List (Tr AObj)} (h : readAt R f mi back st = some v) {m : Nat} (hm : m ≤ back) {tr : Tr AObj} (ht : st[m]? = some tr) : dval R f mi tr = some v := by
  unfold readAt at h
  split at h
  · rename_i t ts
    split at h
    · rename_i u hu
      split at h
      · rename_i hb
        cases h
        cases m with
        | zero => simp at ht; subst ht; exact hu
        | succ m => exact sameBack_at ts back m tr hb (by omega) (by simpa using ht)
      · cases h
    · cases h
  · cases h

theorem dval_spec {R : Rec} {f : OpF} {mi : Tr Value} {tr : Tr AObj} {v : Value} (h : dval R f mi tr = some v) : ∃ h', f R mi (bare tr) = some (v, h') ∧ h'.next = big := by
  unfold dval at h
  split at h
  · rename_i u h' hf
    split at h
    · rename_i hb; cases h; exact ⟨h', hf, Nat.eq_of_beq_eq_true hb⟩
    · cases h
  · cases h

section
variable {P : Program} {X : Ctx} {R : Rec} {ops : Array Oper} {L : List DO} {S : Nat → DS} {A : Nat → DA}

/-- one operation, met in some order -/
theorem opIn_ok (cx : CtxOk P X) (rok : RecOk P R) {F : Fence} (hF : FOk F) {n : Nat} {Q : Exit → Act → World → Prop} {d : DO} (dk : DOk X ops d) {ρ : Ren} {w : World} {tm : Tr Value} {a : Act} (hok : ∀ o ∈ ops.toList, okOper P.globals.size a.tmps.size o = true) (ht : TmRel ρ tm a.tmps)
    {K : Act → World → Prop}
    (hrun : dguard tm d.guard = some true → ∃ h0 v h', Rel P ρ h0 w ∧ d.f R (miniT tm d.looks) h0 = some (v, h') ∧ ∀ ρ' w' v', Rel P ρ' h' w' → Ext ρ h0 w ρ' h' w' → VRel ρ' v v' → K (a.put d.dst v') w')
    (hskip : dguard tm d.guard = some false → K (a.put d.dst undef) w) (hg : ∃ b, dguard tm d.guard = some b) : wpOpIn F n P ops Q d.idx K a w := by
  obtain ⟨o, ho, hf, hdst, hlk, hgu, _⟩ := dk.out
  have hmem : o ∈ ops.toList := by
    rw [← Array.getElem?_toList] at ho
    exact List.mem_of_getElem? ho
  have hopd := okOper_opds (hok o hmem)
  unfold wpOpIn
  rw [ho]
  simp only
  have hw : ∀ b, dguard tm d.guard = some b → Region.wanted o (yielded ops a.tmps) = b := by
    intro b hb
    cases hog : o.guard with
    | none =>
      rw [hog] at hgu
      simp only at hgu
      rw [hgu] at hb
      have : b = true := (Option.some.inj hb).symm
      subst this
      unfold Region.wanted; rw [hog]
    | some jw =>
      obtain ⟨j, want⟩ := jw
      rw [hog] at hgu
      obtain ⟨t, htt, hdg⟩ := hgu
      rw [hdg] at hb
      unfold dguard at hb
      simp only at hb
      split at hb
      · rename_i u hu
        rw [guard_ok ht hog htt hu]
        simp only
        cases want <;> cases u <;> simp_all
      · rename_i u hnb hu
        rw [guard_ok ht hog htt hu]
        cases hb
        cases u <;> first | rfl | exact absurd rfl (hnb _)
      · cases hb
  obtain ⟨b, hb⟩ := hg
  rw [hw b hb]
  cases b with
  | true =>
    rw [if_pos rfl]
    obtain ⟨h0, v, h', hr, hff, hK⟩ := hrun hb
    have hmini : TmRel ρ (miniT tm d.looks) a.tmps := fun t v e => by
      rw [miniT_get] at e
      split at e
      · exact ht t v e
      · cases e
    rw [hf] at hff
    refine oper_ok cx rok hF n hr hmini hopd hff fun ρ' w' v' k1 k2 k3 => ?_
    rw [← hdst]; exact hK ρ' w' v' k1 k2 k3
  | false =>
    rw [if_neg (by simp)]
    exact ⟨fun f _ => hF.fn f, by rw [← hdst]; exact hskip hb⟩
end
end Go.Ae
end

section
/-
  AE: the invariant of an open region.
-/
namespace Go.Ae
section
variable {P : Program} {X : Ctx} {R : Rec} {ops : Array Oper} {L : List DO} {S : Nat → DS} {A : Nat → DA}

def dnAt (L : List DO) (D : Nat → Bool) (p : Nat) : Bool := match L[p]? with | some e => D e.idx | none => false

theorem dnAt_eq {D : Nat → Bool} {p : Nat} {e : DO} (h : L[p]? = some e) : dnAt L D p = D e.idx := by unfold dnAt; rw [h]

structure Inv (P : Program) (ops : Array Oper) (L : List DO) (S : Nat → DS) (A : Nat → DA) (ρ0 : Ren) (h0 : H) (w0 : World) (D : Nat → Bool) (a : Act) (w : World) (c : Nat) (ρ : Ren) (hC : H) (tmC : Tr Value) : Prop where
  closed : Closed ops (fun i => D i = true)
  cle : c ≤ L.length
  cut : c = 0 ∨ ∃ d, L[c - 1]? = some d ∧ effD d = true
  ahead : ∀ (q : Nat) (e : DO), q < c → L[q]? = some e → D e.idx = true
  effs : ∀ (q : Nat) (e : DO), c ≤ q → L[q]? = some e → effD e = true → D e.idx = false
  rel : Rel P ρ hC w
  ext : Ext ρ0 h0 w0 ρ hC w
  next : hC.next = (S c).h.next
  floor : hC.floor = (S c).h.floor
  bound : (S c).h.next ≤ big
  room : h0.next + ops.size ≤ (S c).h.next
  tm : TmRel ρ tmC a.tmps
  tmD : ∀ (q : Nat) (e : DO) t, L[q]? = some e → D e.idx = true → e.dst = some t → tmC.get t = some (aval (A q))
  tmN : ∀ t, (∀ (q : Nat) (e : DO), L[q]? = some e → D e.idx = true → e.dst ≠ some t) → tmC.get t = (S 0).tm.get t
  names : ∀ i, i < ops.size → D i = false → ρ (h0.next + i) = none
  none' : ∀ (q : Nat) (e : DO), c ≤ q → L[q]? = some e → (S c).h.tr.get (h0.next + e.idx) = none
  rest : ∀ b, (∀ (q : Nat) (e : DO) v o, c ≤ q → L[q]? = some e → D e.idx = true → A q = .new v o → b ≠ h0.next + e.idx) → hC.tr.get b = (S c).h.tr.get b
  news : ∀ (q : Nat) (e : DO) v o, c ≤ q → L[q]? = some e → D e.idx = true → A q = .new v o → ∃ o', hC.tr.get (h0.next + e.idx) = some o' ∧ ObjAt o (insOf A (dnAt L D) (h0.next + e.idx) L.length) o'

variable {ρ0 : Ren} {h0 : H} {w0 : World} {D : Nat → Bool} {a : Act} {w : World} {c : Nat} {ρ : Ren} {hC : H} {tmC : Tr Value}

/-- where the next operation stands -/
theorem Inv.le (iv : Inv P ops L S A ρ0 h0 w0 D a w c ρ hC tmC) {p : Nat} {d : DO} (hd : L[p]? = some d) (hn : D d.idx = false) : c ≤ p := by
  rcases Nat.lt_or_ge p c with h | h
  · have := iv.ahead p d h hd
    rw [hn] at this; cases this
  · exact h

theorem dst_one (po : PlanOk X ops L) {p q : Nat} {d e : DO} {t : Tmp} (hd : L[p]? = some d) (he : L[q]? = some e) (h1 : d.dst = some t) (h2 : e.dst = some t) : p = q := by
  obtain ⟨o1, ho1, _, hd1, _⟩ := (po.dok d (List.mem_of_getElem? hd)).out
  obtain ⟨o2, ho2, _, hd2, _⟩ := (po.dok e (List.mem_of_getElem? he)).out
  exact (places_of po).one hd he (po.dst _ _ o1 o2 t ho1 ho2 (by rw [← hd1]; exact h1) (by rw [← hd2]; exact h2))

/-- what the next one looks at is as it is in the order of the plan -/
theorem Inv.looks (iv : Inv P ops L S A ρ0 h0 w0 D a w c ρ hC tmC) (po : PlanOk X ops L) (tc : Trace R h0.next L S A) {p : Nat} {d : DO} (hd : L[p]? = some d) (hn : D d.idx = false) (hr : Ready ops (fun i => D i = true) d.idx) :
    ∀ t ∈ allLooks d, tmC.get t = (S p).tm.get t := by
  intro t ht
  have pl := places_of po
  have hplen : p < L.length := (List.getElem?_eq_some_iff.1 hd).1
  by_cases hex : ∃ (q : Nat) (e : DO), L[q]? = some e ∧ e.dst = some t
  · obtain ⟨q, e, hq, het⟩ := hex
    have one : ∀ (r : Nat) (g : DO), L[r]? = some g → g.dst = some t → r = q := fun r g hr' hg => dst_one po hr' hq hg het
    obtain ⟨k1, k2⟩ := pl.looks hd t ht hq het (fun i => D i = true) iv.closed
    rcases Nat.lt_or_ge q p with h | h
    · rw [iv.tmD q e t hq (k1 h (.inr hr)) het, tm_some tc hq het one p h (by omega)]
    · have hdn : D e.idx = false := by
        rcases Nat.eq_or_lt_of_le h with h1 | h1
        · subst h1; rw [hd] at hq; cases hq; exact hn
        · cases hD : D e.idx with
          | false => rfl
          | true => have := k2 h1 hD; rw [hn] at this; cases this
      rw [iv.tmN t fun r g hr' hDg hgt => by
        have := one r g hr' hgt
        subst this
        rw [hq] at hr'; cases hr'
        rw [hdn] at hDg; cases hDg]
      rw [tm_none tc t p (by omega) fun r g hrp hr' hgt => by
        have := one r g hr' hgt
        omega]
  · rw [iv.tmN t fun q e hq _ het => hex ⟨q, e, hq, het⟩, tm_none tc t p (by omega) fun q e _ hq het => hex ⟨q, e, hq, het⟩]

theorem Inv.mini (iv : Inv P ops L S A ρ0 h0 w0 D a w c ρ hC tmC) (po : PlanOk X ops L) (tc : Trace R h0.next L S A) {p : Nat} {d : DO} (hd : L[p]? = some d) (hn : D d.idx = false) (hr : Ready ops (fun i => D i = true) d.idx) :
    miniT tmC d.looks = miniT (S p).tm d.looks ∧ dguard tmC d.guard = dguard (S p).tm d.guard := by
  have hl := iv.looks po tc hd hn hr
  constructor
  · exact miniT_congr fun t ht => hl t (by unfold allLooks; split <;> simp [ht])
  · cases hg : d.guard with
    | none => rfl
    | some tw =>
      obtain ⟨t, want⟩ := tw
      have := hl t (by unfold allLooks; rw [hg]; simp)
      unfold dguard
      simp only [this]

def addD (D : Nat → Bool) (i : Nat) : Nat → Bool := fun j => D j || j == i

theorem addD_same (D : Nat → Bool) (i : Nat) : addD D i i = true := by simp [addD]
theorem addD_old {D : Nat → Bool} {i j : Nat} (h : D j = true) : addD D i j = true := by simp [addD, h]
theorem addD_ne {D : Nat → Bool} {i j : Nat} (h : j ≠ i) : addD D i j = D j := by simp [addD, h]
theorem addD_false {D : Nat → Bool} {i j : Nat} (h : addD D i j = false) : D j = false ∧ j ≠ i := by
  simp [addD] at h; exact h

theorem closed_add (hc : Closed ops (fun i => D i = true)) {i : Nat} (hr : Ready ops (fun i => D i = true) i) : Closed ops (fun j => addD D i j = true) := by
  intro j o ho hj e he hb
  by_cases h : j = i
  · subst h; exact addD_old (hr o ho e he hb)
  · rw [addD_ne h] at hj
    exact addD_old (hc j o ho hj e he hb)

/-- temporaries, one operation on -/
theorem Inv.tm_next (iv : Inv P ops L S A ρ0 h0 w0 D a w c ρ hC tmC) (po : PlanOk X ops L) {p : Nat} {d : DO} (hd : L[p]? = some d) :
    (∀ (q : Nat) (e : DO) t, L[q]? = some e → addD D d.idx e.idx = true → e.dst = some t → (putD tmC d.dst (aval (A p))).get t = some (aval (A q))) ∧
    (∀ t, (∀ (q : Nat) (e : DO), L[q]? = some e → addD D d.idx e.idx = true → e.dst ≠ some t) → (putD tmC d.dst (aval (A p))).get t = (S 0).tm.get t) := by
  have pl := places_of po
  constructor
  · intro q e t hq hD ht
    rw [putD_get]
    by_cases h : d.dst = some t
    · rw [if_pos h]
      have := dst_one po hd hq h ht
      rw [this]
    · rw [if_neg h]
      have hne : e.idx ≠ d.idx := fun h2 => by
        have := pl.one hq hd h2
        subst this
        rw [hd] at hq; cases hq
        exact h ht
      rw [addD_ne hne] at hD
      exact iv.tmD q e t hq hD ht
  · intro t hno
    rw [putD_get, if_neg (hno p d hd (addD_same _ _))]
    exact iv.tmN t fun q e hq hD => hno q e hq (addD_old hD)

theorem insOf_dn {r : Nat} (pl : Places X ops L) {p : Nat} {d : DO} (hd : L[p]? = some d) (hno : ∀ e es, A p ≠ .ins r e es) : insOf A (dnAt L (addD D d.idx)) r L.length = insOf A (dnAt L D) r L.length := by
  refine insOf_congr _ fun q e es hq ha => ?_
  have hq2 : L[q]? = some L[q] := List.getElem?_eq_getElem hq
  rw [dnAt_eq hq2, dnAt_eq hq2]
  refine addD_ne fun h => ?_
  have := pl.one hq2 hd h
  subst this
  exact hno e es ha

/-- an operation that is no effect: the whole of what is to be shown anew -/
theorem Inv.calm_next (iv : Inv P ops L S A ρ0 h0 w0 D a w c ρ hC tmC) (po : PlanOk X ops L) {p : Nat} {d : DO} (hd : L[p]? = some d) (_hn : D d.idx = false) (hr : Ready ops (fun i => D i = true) d.idx) (he : effD d = false)
    (hdst : (match d.dst with | some d => Nat.blt d a.tmps.size | none => true) = true)
    {ρ' : Ren} {hC' : H} {w' : World} {v' : Value} (hle : ρ.le ρ') (hrel : Rel P ρ' hC' w') (hext : Ext ρ0 h0 w0 ρ' hC' w') (h1 : hC'.next = hC.next) (h2 : hC'.floor = hC.floor) (hv : VRel ρ' (aval (A p)) v')
    (hnames : ∀ i, i < ops.size → addD D d.idx i = false → ρ' (h0.next + i) = none)
    (hrest : ∀ b, (∀ (q : Nat) (e : DO) v o, c ≤ q → L[q]? = some e → addD D d.idx e.idx = true → A q = .new v o → b ≠ h0.next + e.idx) → hC'.tr.get b = (S c).h.tr.get b)
    (hnews : ∀ (q : Nat) (e : DO) v o, c ≤ q → L[q]? = some e → addD D d.idx e.idx = true → A q = .new v o → ∃ o', hC'.tr.get (h0.next + e.idx) = some o' ∧ ObjAt o (insOf A (dnAt L (addD D d.idx)) (h0.next + e.idx) L.length) o') :
    Inv P ops L S A ρ0 h0 w0 (addD D d.idx) (a.put d.dst v') w' c ρ' hC' (putD tmC d.dst (aval (A p))) where
  closed := closed_add iv.closed hr
  cle := iv.cle
  cut := iv.cut
  ahead := fun q e hq hqe => addD_old (iv.ahead q e hq hqe)
  effs := fun q e hq hqe hee => by
    have hne : e.idx ≠ d.idx := fun h => by
      have := (places_of po).one hqe hd h
      subst this
      rw [hd] at hqe; cases hqe
      rw [he] at hee; cases hee
    rw [addD_ne hne]; exact iv.effs q e hq hqe hee
  rel := hrel
  ext := hext
  next := h1.trans iv.next
  floor := h2.trans iv.floor
  bound := iv.bound
  room := iv.room
  tm := (iv.tm.mono hle).putD hdst hv
  tmD := (iv.tm_next po hd).1
  tmN := (iv.tm_next po hd).2
  names := hnames
  none' := iv.none'
  rest := hrest
  news := hnews

/-- nothing but a value -/
theorem Inv.put_next (iv : Inv P ops L S A ρ0 h0 w0 D a w c ρ hC tmC) (po : PlanOk X ops L) {p : Nat} {d : DO} (hd : L[p]? = some d) (hn : D d.idx = false) (hr : Ready ops (fun i => D i = true) d.idx) (he : effD d = false)
    (hdst : (match d.dst with | some d => Nat.blt d a.tmps.size | none => true) = true) {v : Value} (ha : A p = .put v)
    {w' : World} {v' : Value} (hrel : Rel P ρ hC w') (hext : Ext ρ0 h0 w0 ρ hC w') (hv : VRel ρ v v') :
    Inv P ops L S A ρ0 h0 w0 (addD D d.idx) (a.put d.dst v') w' c ρ hC (putD tmC d.dst (aval (A p))) := by
  have pl := places_of po
  refine iv.calm_next po hd hn hr he hdst (Ren.le_refl ρ) hrel hext rfl rfl (by rw [ha]; exact hv) (fun i hi hD => iv.names i hi (addD_false hD).1) (fun b hb => iv.rest b fun q e v o hq hqe hD hA => hb q e v o hq hqe (addD_old hD) hA) fun q e v o hq hqe hD hA => ?_
  have hne : e.idx ≠ d.idx := fun h => by
    have := pl.one hqe hd h
    subst this
    rw [ha] at hA; cases hA
  rw [addD_ne hne] at hD
  rw [insOf_dn pl hd fun e es h => by rw [ha] at h; cases h]
  exact iv.news q e v o hq hqe hD hA

/-- the maker of a map of which something is inserted is done -/
theorem Inv.maker (iv : Inv P ops L S A ρ0 h0 w0 D a w c ρ hC tmC) (po : PlanOk X ops L) (tc : Trace R h0.next L S A) {p : Nat} {d : DO} (hd : L[p]? = some d) {r : Nat} {e : ME} {es : List ME} (ha : A p = .ins r e es) (hD : D d.idx = true ∨ Ready ops (fun i => D i = true) d.idx) :
    ∃ q g v o, q < p ∧ c ≤ q ∧ L[q]? = some g ∧ A q = .new v o ∧ r = h0.next + g.idx ∧ D g.idx = true := by
  obtain ⟨q, g, v, o, hqp, hq, hA, hr, ⟨t, ht, hgt⟩, hno⟩ := ins_maker po tc hd ha
  refine ⟨q, g, v, o, hqp, ?_, hq, hA, hr, ((places_of po).looks hd t ht hq hgt (fun i => D i = true) iv.closed).1 hqp hD⟩
  rcases Nat.lt_or_ge q c with h | h
  · exfalso
    rcases iv.cut with h1 | ⟨d', h1, h2⟩
    · omega
    · have := hno (x := c - 1) (by omega) h1
      rw [h2] at this; cases this
  · exact h

/-- of a map that is not made yet, nothing was inserted -/
theorem Inv.ins_none (iv : Inv P ops L S A ρ0 h0 w0 D a w c ρ hC tmC) (po : PlanOk X ops L) (tc : Trace R h0.next L S A) {p : Nat} {d : DO} (_hd : L[p]? = some d) (hn : D d.idx = false) : insOf A (dnAt L D) (h0.next + d.idx) L.length = [] := by
  refine insOf_none _ fun q e es hq ha => ?_
  have hq2 : L[q]? = some L[q] := List.getElem?_eq_getElem hq
  rw [dnAt_eq hq2]
  cases hD : D L[q].idx with
  | false => rfl
  | true =>
    obtain ⟨q', g, v, o, _, _, hg, _, hr, hDg⟩ := iv.maker po tc hq2 ha (.inl hD)
    have : g.idx = d.idx := by omega
    rw [this, hn] at hDg; cases hDg

/-- a new object -/
theorem Inv.new_next (iv : Inv P ops L S A ρ0 h0 w0 D a w c ρ hC tmC) (po : PlanOk X ops L) (tc : Trace R h0.next L S A) (hfl0 : h0.floor ≤ h0.next) {p : Nat} {d : DO} (hd : L[p]? = some d) (hn : D d.idx = false) (hr : Ready ops (fun i => D i = true) d.idx) (he : effD d = false)
    (hdst : (match d.dst with | some d => Nat.blt d a.tmps.size | none => true) = true) {v u : Value} {o : AObj} (ha : A p = .new v o) {h' : H} (_hnx : h'.next = Nat.succ big) (hgt : h'.tr.get big = some o) (hre : reName (h0.next + d.idx) u = some v) (hbo : belowO o = true)
    {ρ1 : Ren} {w' : World} {v' : Value} (k1 : Rel P ρ1 h' w') (k2 : Ext ρ (bare .nil) w ρ1 h' w') (k3 : VRel ρ1 u v') :
    ∃ ρ' hC', Inv P ops L S A ρ0 h0 w0 (addD D d.idx) (a.put d.dst v') w' c ρ' hC' (putD tmC d.dst (aval (A p))) := by
  have pl := places_of po
  have hlt := pl.lt hd
  have hb0 : h0.next + d.idx < hC.next := by have := iv.room; have := iv.next; omega
  have hbig : hC.next ≤ big := by have := iv.bound; have := iv.next; omega
  have hρ := iv.names d.idx hlt hn
  have hbare := bare_rel iv.rel hbig (tr := .nil) (fun b o e => by simp at e)
  have hk := bare_frame hbare k2
  obtain ⟨r, r1, obj, r2, r3⟩ := k1.dom big o hgt
  have hblk : w.heap.size ≤ r.blk := by
    rcases k2.new big o r (Nat.le_refl _) hgt r1 with h | ⟨b, ob, _, h, _⟩
    · exact h
    · have h : (Tr.nil : Tr AObj).get b = some ob := h
      simp at h
  have hbel : ∀ b q, b < big → ρ1 b = some q → ρ.put (h0.next + d.idx) r b = some q := fun b q hb hq => by
    have := k2.old b hb
    rw [this] at hq
    rw [Ren.put_ne fun h => by rw [h, hρ] at hq; cases hq]
    exact hq
  have hnm : ρ.put (h0.next + d.idx) r (h0.next + d.idx) = some r := Ren.put_same _ _ _
  obtain ⟨g1, g2⟩ := iv.rel.newAt iv.ext hρ hb0 (Nat.le_add_right _ _) hfl0 (o := o) (r := r) k2.size hk hblk r2 (belowO_rel hbel hbo r3) k2.os k2.output k2.tape
  have hvr : VRel (ρ.put (h0.next + d.idx) r) v v' := by
    unfold reName at hre
    split at hre
    · rename_i ad
      split at hre
      · rename_i hc
        simp only [Bool.and_eq_true] at hc
        cases hre
        have e1 := Nat.eq_of_beq_eq_true hc.1.2
        have e2 := Nat.eq_of_beq_eq_true hc.2
        cases k3 with
        | ptr _ a' har =>
          have := har.out (r := r) (by rw [e1]; exact r1)
          rw [this, e2]
          exact .ptr _ _ ⟨rfl, r, hnm, rfl⟩
      · cases hre
    · rename_i ad n cp
      split at hre
      · rename_i hc
        simp only [Bool.and_eq_true] at hc
        cases hre
        have e1 := Nat.eq_of_beq_eq_true hc.1.2
        have e2 := Nat.eq_of_beq_eq_true hc.2
        cases k3 with
        | slice _ a' _ _ har hcx =>
          have := har.out (r := r) (by rw [e1]; exact r1)
          rw [this, e2]
          exact .slice _ _ _ _ ⟨rfl, r, hnm, rfl⟩ hcx
        | sliceX _ a' _ c' rr x y z q s t =>
          rw [e1, r1] at x; cases x
          have := y.out (r := r) (by rw [e1]; exact r1)
          rw [this, e2]
          exact .sliceX _ _ _ c' r hnm ⟨rfl, r, hnm, rfl⟩ z q s (by rw [e2] at t; exact t)
        | sliceE _ a' _ x => exact .sliceE _ _ _ x
      · cases hre
    · rename_i rr
      split at hre
      · rename_i hc
        cases hre
        have e1 := Nat.eq_of_beq_eq_true hc
        subst e1
        cases k3 with
        | map _ r' x =>
          rw [r1] at x; cases x
          exact .map _ r hnm
      · cases hre
    · cases hre
  refine ⟨_, _, iv.calm_next po hd hn hr he hdst (Ren.le_put hρ) g1 g2 rfl rfl (by rw [ha]; exact hvr) (fun i hi hD => ?_) (fun b hb => ?_) fun q e v2 o2 hq hqe hD hA => ?_⟩
  · obtain ⟨h1, h2⟩ := addD_false hD
    rw [Ren.put_ne (by omega)]
    exact iv.names i hi h1
  · show (hC.tr.set (h0.next + d.idx) o).get b = _
    rw [Tr.get_set, if_neg (hb p d v o (iv.le hd hn) hd (addD_same _ _) ha)]
    exact iv.rest b fun q e v o hq hqe hD hA => hb q e v o hq hqe (addD_old hD) hA
  · have hins : insOf A (dnAt L (addD D d.idx)) (h0.next + e.idx) L.length = insOf A (dnAt L D) (h0.next + e.idx) L.length := insOf_dn pl hd fun e es h => by rw [ha] at h; cases h
    by_cases hqp : e.idx = d.idx
    · have := pl.one hqe hd hqp
      subst this
      rw [hd] at hqe; cases hqe
      rw [ha] at hA; cases hA
      refine ⟨o, ?_, .inl ⟨rfl, ?_⟩⟩
      · show (hC.tr.set (h0.next + d.idx) o).get (h0.next + d.idx) = _
        rw [Tr.get_set, if_pos rfl]
      · rw [hins]; exact iv.ins_none po tc hd hn
    · rw [addD_ne hqp] at hD
      obtain ⟨o', i1, i2⟩ := iv.news q e v2 o2 hq hqe hD hA
      refine ⟨o', ?_, by rw [hins]; exact i2⟩
      show (hC.tr.set (h0.next + d.idx) o).get (h0.next + e.idx) = _
      rw [Tr.get_set, if_neg (by omega)]
      exact i1
end
end Go.Ae
end

section
/-
  AE: insertions and effects of an open region.
-/
namespace Go.Ae
section
variable {P : Program} {X : Ctx} {R : Rec} {ops : Array Oper} {L : List DO} {S : Nat → DS} {A : Nat → DA}
variable {ρ0 : Ren} {h0 : H} {w0 : World} {D : Nat → Bool} {a : Act} {w : World} {c : Nat} {ρ : Ren} {hC : H} {tmC : Tr Value}

/-- an effect: whatever it did -/
theorem Inv.eff_next (iv : Inv P ops L S A ρ0 h0 w0 D a w c ρ hC tmC) (po : PlanOk X ops L) (tc : Trace R h0.next L S A) (hr0 : Rel P ρ0 h0 w0) {p : Nat} {d : DO} (hd : L[p]? = some d) (hn : D d.idx = false) (hr : Ready ops (fun i => D i = true) d.idx) (he : effD d = true)
    (hdst : (match d.dst with | some d => Nat.blt d a.tmps.size | none => true) = true) (hb : (S (p + 1)).h.next ≤ big) :
    Rel P ρ (S p).h w ∧ ∀ ρ1 w' v', Rel P ρ1 (S (p + 1)).h w' → Ext ρ (S p).h w ρ1 (S (p + 1)).h w' → VRel ρ1 (aval (A p)) v' →
      ∃ hC', Inv P ops L S A ρ0 h0 w0 (addD D d.idx) (a.put d.dst v') w' (p + 1) ρ1 hC' (putD tmC d.dst (aval (A p))) := by
  have pl := places_of po
  have hplen : p < L.length := (List.getElem?_eq_some_iff.1 hd).1
  have hcp := iv.le hd hn
  -- everything ahead is done
  have ahead : ∀ (q : Nat) (e : DO), q < p → L[q]? = some e → D e.idx = true := fun q e hq hqe => pl.eff hd he (fun i => D i = true) iv.closed (.inr hr) hq hqe
  have noeff : ∀ (q : Nat) (e : DO), c ≤ q → q < p → L[q]? = some e → effD e = false := fun q e h1 h2 hqe => by
    cases hE : effD e with
    | false => rfl
    | true =>
      have := iv.effs q e h1 hqe hE
      rw [ahead q e h2 hqe] at this; cases this
  obtain ⟨c1, c2, c3⟩ := calm tc p hcp (by omega) noeff
  have hfl : (S p).h.floor ≤ h0.next := by
    have e1 := iv.ext.floor
    have e2 := iv.floor
    have e3 := hr0.fl
    omega
  -- nothing was inserted ahead of an effect
  have noins : ∀ q r e es, q < p → A q = .ins r e es → False := fun q r e es hq ha => by
    have hqe : L[q]? = some L[q] := List.getElem?_eq_getElem (by omega)
    obtain ⟨cc, m, k, v, hk, _⟩ := ins_kind tc hqe ha
    have := pl.late hqe (by unfold insD; rw [hk]) hq hd
    rw [he] at this; cases this
  have later : ∀ (q : Nat) (e : DO), p ≤ q → L[q]? = some e → (S p).h.tr.get (h0.next + e.idx) = none := fun q e hq hqe => by
    rw [calm_get tc p hcp (by omega) noeff (fun q' e' v o h1 h2 hqe' _ h3 => by
      have := pl.one hqe hqe' (by omega)
      omega) fun q' r e' es _ h2 ha => (noins q' r e' es h2 ha).elim]
    exact iv.none' q e (by omega) hqe
  have hsub : ∀ b o, (S p).h.tr.get b = some o → hC.tr.get b = some o := by
    intro b o hbo
    by_cases hex : ∃ (q : Nat) (e : DO) (v : Value) (o' : AObj), c ≤ q ∧ q < p ∧ L[q]? = some e ∧ A q = .new v o' ∧ b = h0.next + e.idx
    · obtain ⟨q, e, v, o', h1, h2, hqe, hA, rfl⟩ := hex
      obtain ⟨o2, i1, i2⟩ := new_get po tc hqe hA p h2 (by omega) fun x f h3 h4 => noeff x f (by omega) h4
      rw [hbo] at i1; cases i1
      obtain ⟨o3, j1, j2⟩ := iv.news q e v o' h1 hqe (ahead q e h2 hqe) hA
      have l1 : insOf A (fun _ => true) (h0.next + e.idx) p = [] := insOf_none _ fun q' e' es hq' ha => (noins q' _ e' es hq' ha).elim
      have l2 : insOf A (dnAt L D) (h0.next + e.idx) L.length = [] := insOf_none _ fun q' e' es hq' ha => by
        have hqe' : L[q']? = some L[q'] := List.getElem?_eq_getElem hq'
        exfalso
        obtain ⟨q2, g, v2, o2, _, hg, _, hr2, _, hno⟩ := ins_maker po tc hqe' ha
        have := pl.one hg hqe (by omega)
        have := hno (x := p) (by omega) hd
        rw [he] at this; cases this
      rw [l1] at i2
      rw [l2] at j2
      have e1 : o = o' := by
        rcases i2 with ⟨h, _⟩ | ⟨es, h, h', hp⟩
        · exact h
        · have := hp.eq_nil
          subst this
          rw [h', h]
      have e2 : o3 = o' := by
        rcases j2 with ⟨h, _⟩ | ⟨es, h, h', hp⟩
        · exact h
        · have := hp.eq_nil
          subst this
          rw [h', h]
      rw [j1, e1, e2]
    · rw [calm_get tc p hcp (by omega) noeff (fun q e v o' h1 h2 hqe hA hb => hex ⟨q, e, v, o', h1, h2, hqe, hA, hb⟩) fun q' r e' es _ h2 ha => (noins q' r e' es h2 ha).elim] at hbo
      rw [iv.rest b fun q e v o' h1 hqe hD hA hb => ?_]
      · exact hbo
      · subst hb
        rw [iv.none' q e h1 hqe] at hbo; cases hbo
  have hlow : ∀ b, b < (S p).h.floor → (S p).h.tr.get b = hC.tr.get b := fun b hb => by
    rw [calm_get tc p hcp (by omega) noeff (fun q e v o' h1 h2 hqe hA hbb => by omega) fun q' r e' es _ h2 ha => (noins q' r e' es h2 ha).elim]
    exact (iv.rest b fun q e v o' h1 hqe hD hA hbb => by omega).symm
  have hnext : (S p).h.next = hC.next := c1.trans iv.next.symm
  have hfloor : (S p).h.floor = hC.floor := c2.trans iv.floor.symm
  refine ⟨iv.rel.sub hsub (by omega) (by rw [hnext, hfloor]; exact iv.rel.fl) (by rw [hfloor]; exact iv.rel.gfl), fun ρ1 w' v' k1 k2 k3 => ?_⟩
  -- the rest of the heap
  let Z : Nat → Prop := fun b => ∃ (q : Nat) (e : DO) (v : Value) (o : AObj), p < q ∧ L[q]? = some e ∧ D e.idx = true ∧ A q = .new v o ∧ b = h0.next + e.idx
  have hZ : ∀ b, Z b → (S p).h.tr.get b = none ∧ b < (S p).h.next ∧ (S p).h.floor ≤ b := by
    rintro b ⟨q, e, v, o, h1, hqe, _, _, rfl⟩
    have := pl.lt hqe
    have := iv.room
    exact ⟨later q e (by omega) hqe, by omega, by omega⟩
  have zmem : ∀ b, Z b → ((List.range ops.size).map (h0.next + ·)).contains b = true := by
    rintro b ⟨q, e, v, o, h1, hqe, _, _, rfl⟩
    rw [List.contains_eq_mem]
    simp only [decide_eq_true_eq]
    exact List.mem_map.2 ⟨e.idx, List.mem_range.2 (pl.lt hqe), rfl⟩
  classical
  obtain ⟨t', ht'⟩ := exists_tr (S (p + 1)).h.tr hC.tr.get (fun b => decide (Z b)) ((List.range ops.size).map (h0.next + ·))
  have hz1 : ∀ b, Z b → t'.get b = hC.tr.get b := fun b hb => by
    rw [ht', zmem b hb]; simp [hb]
  have hz2 : ∀ b, ¬ Z b → t'.get b = (S (p + 1)).h.tr.get b := fun b hb => by
    rw [ht']; simp [hb]
  obtain ⟨f1, f2⟩ := iv.rel.frameE (hC' := ⟨t', (S (p + 1)).h.next, (S (p + 1)).h.floor⟩) hsub hnext hfloor hlow k1 k2 Z hZ hz1 hz2 rfl rfl
  have hroom : h0.next + ops.size ≤ (S (p + 1)).h.next := by
    have h1 := iv.room
    have h2 := k2.next
    omega
  refine ⟨⟨t', (S (p + 1)).h.next, (S (p + 1)).h.floor⟩, ⟨closed_add iv.closed hr, by omega, .inr ⟨d, by simpa using hd, he⟩, fun q e hq hqe => ?_, fun q e hq hqe hE => ?_, f1, iv.ext.trans hr0 iv.rel f2, rfl, rfl, hb, hroom, ((iv.tm.mono k2.le).putD hdst k3), (iv.tm_next po hd).1, (iv.tm_next po hd).2, fun i hi hD => ?_, fun q e hq hqe => ?_, fun b hbb => ?_, fun q e v o hq hqe hD hA => ?_⟩⟩
  · rcases Nat.lt_or_ge q p with h1 | h1
    · exact addD_old (ahead q e h1 hqe)
    · have : q = p := by omega
      subst this
      rw [hd] at hqe; cases hqe
      exact addD_same _ _
  · have hne : e.idx ≠ d.idx := fun h => by
      have := pl.one hqe hd h
      omega
    rw [addD_ne hne]
    exact iv.effs q e (by omega) hqe hE
  · obtain ⟨h1, h2⟩ := addD_false hD
    rw [k2.old (h0.next + i) (by have := iv.room; omega)]
    exact iv.names i hi h1
  · cases hg : (S (p + 1)).h.tr.get (h0.next + e.idx) with
    | none => rfl
    | some o =>
      have := pl.lt hqe
      obtain ⟨o', h1⟩ := k2.live _ o (by have := iv.room; omega) hg
      rw [later q e (by omega) hqe] at h1; cases h1
  · refine hz2 b ?_
    rintro ⟨q, e, v, o, h1, hqe, hD, hA, hb2⟩
    exact hbb q e v o (by omega) hqe (addD_old hD) hA hb2
  · have hne : e.idx ≠ d.idx := fun h => by
      have := pl.one hqe hd h
      omega
    rw [addD_ne hne] at hD
    obtain ⟨o', i1, i2⟩ := iv.news q e v o (by omega) hqe hD hA
    refine ⟨o', ?_, ?_⟩
    · show t'.get _ = _
      rw [hz1 _ ⟨q, e, v, o, by omega, hqe, hD, hA, rfl⟩]; exact i1
    · obtain ⟨ve, he', hAe⟩ := eff_kind tc hd he
      rw [insOf_dn pl hd fun e es h => by rw [hAe] at h; cases h]; exact i2

theorem findKey_nil (c : Cmp) (k : Value) : findKey c k [] = some none := rfl

theorem findKey_none {c : Cmp} {k : Value} : ∀ (es : List ME), (∀ e ∈ es, cmpV c k e.key = some false) → findKey c k es = some none
  | [], _ => rfl
  | e :: es, h => by
    rw [findKey_cons, h e (by simp), findKey_none es fun x hx => h x (by simp [hx])]

theorem findK_spec {c : Cmp} {k : Value} {es : List ME} (h : findK c k es = some none) : cmpV c k k = some true ∧ ∀ e ∈ es, cmpV c k e.key = some false := by
  unfold findK at h
  split at h
  · rename_i h1
    refine ⟨h1, ?_⟩
    rcases findKey_spec es none h with ⟨_, h2⟩ | ⟨e, _, _, h2, _⟩
    · exact h2
    · cases h2
  · cases h

theorem mem_insOf {dn : Nat → Bool} {r : Nat} {x : ME} : ∀ p, x ∈ insOf A dn r p → ∃ q es, q < p ∧ A q = .ins r x es ∧ dn q = true
  | 0, h => by simp [insOf] at h
  | p + 1, h => by
    unfold insOf at h
    split at h
    · rename_i r' e es ha
      split at h
      · rename_i hc
        rcases List.mem_cons.1 h with rfl | h
        · exact ⟨p, es, by omega, by rw [ha, hc.1], hc.2⟩
        · obtain ⟨q, es', h1, h2, h3⟩ := mem_insOf p h
          exact ⟨q, es', by omega, h2, h3⟩
      · obtain ⟨q, es', h1, h2, h3⟩ := mem_insOf p h
        exact ⟨q, es', by omega, h2, h3⟩
    · obtain ⟨q, es', h1, h2, h3⟩ := mem_insOf p h
      exact ⟨q, es', by omega, h2, h3⟩

theorem insOf_mem {dn : Nat → Bool} {r : Nat} {x : ME} {es : List ME} {q : Nat} (ha : A q = .ins r x es) (hd : dn q = true) : ∀ p, q < p → x ∈ insOf A dn r p := by
  intro p
  induction p with
  | zero => intro h; omega
  | succ p ih =>
    intro h
    unfold insOf
    by_cases hq : q = p
    · subst hq
      rw [ha]
      simp [hd]
    · have := ih (by omega)
      split
      · split
        · exact List.mem_cons_of_mem _ this
        · exact this
      · exact this

/-- two entries of one map have different keys, whichever came first -/
theorem keys_differ (po : PlanOk X ops L) (tc : Trace R h0.next L S A) {p q : Nat} {d g : DO} (hd : L[p]? = some d) (hg : L[q]? = some g) {r : Nat} {x y : ME} {xs ys : List ME} (hx : A p = .ins r x xs) (hy : A q = .ins r y ys) (hpq : p ≠ q)
    {c : Cmp} {m k v : Operand} (hk : d.kind = .ins c m k v) : cmpV c x.key y.key = some false := by
  have pl := places_of po
  -- one type, one way to compare
  have same : ∀ {p q : Nat} {d g : DO} {c c' : Cmp} {m k v m' k' v' : Operand}, L[p]? = some d → L[q]? = some g → d.kind = .ins c m k v → g.kind = .ins c' m' k' v' → c = c' := by
    intro p q d g c c' m k v m' k' v' hd hg h1 h2
    obtain ⟨o1, ho1, _, _, _, _, q1⟩ := (po.dok d (List.mem_of_getElem? hd)).out
    obtain ⟨o2, ho2, _, _, _, _, q2⟩ := (po.dok g (List.mem_of_getElem? hg)).out
    rw [h1] at q1
    rw [h2] at q2
    obtain ⟨t1, i1, kt1, e1, p1, p2, p3, p4⟩ := q1
    obtain ⟨t2, i2, kt2, e2, s1, s2, s3, s4⟩ := q2
    have m1 : o1 ∈ ops.toList := by rw [← Array.getElem?_toList] at ho1; exact List.mem_of_getElem? ho1
    have m2 : o2 ∈ ops.toList := by rw [← Array.getElem?_toList] at ho2; exact List.mem_of_getElem? ho2
    have := po.ty o1 m1 o2 m2 _ _ _ _ _ _ _ _ p1 s1
    subst this
    rw [p2] at s2; cases s2
    rw [p3] at s3; cases s3
    rw [p4] at s4; cases s4; rfl
  have ordered : ∀ {p q : Nat} {d g : DO} {x y : ME} {xs ys : List ME} {c : Cmp} {m k v : Operand}, L[p]? = some d → L[q]? = some g → A p = .ins r x xs → A q = .ins r y ys → p < q → g.kind = .ins c m k v → cmpV c y.key x.key = some false := by
    intro p q d g x y xs ys c m k v hd hg hx hy hlt hk
    obtain ⟨c', m', k', v', hk', _, hdi⟩ := ins_kind tc hg hy
    rw [hk] at hk'; cases hk'
    obtain ⟨kv, vv, _, _, _, h1, h2, _, _, h3⟩ := dins_spec hdi
    have := mapOf_get h1
    obtain ⟨q', gm, vm, om, hq'p, hgm, hAm, hr, _, hno⟩ := ins_maker po tc hd hx
    obtain ⟨o', j1, j2⟩ := new_get po tc hgm hAm q (by omega) (by have := (List.getElem?_eq_some_iff.1 hg).1; omega) fun z f h4 h5 => hno h4
    rw [← hr, this] at j1
    have hin : x ∈ ys := by
      have hmem := insOf_mem (dn := fun _ => true) hx rfl q hlt
      rw [← hr] at j2
      rcases j2 with ⟨_, h⟩ | ⟨es, _, h, hp⟩
      · rw [h] at hmem; cases hmem
      · have := Option.some.inj j1
        rw [h] at this; cases this
        exact hp.symm.mem_iff.1 hmem
    have := (findK_spec h2).2 x hin
    rw [h3]; exact this
  rcases Nat.lt_or_ge p q with h | h
  · obtain ⟨c', m', k', v', hk', _, _⟩ := ins_kind tc hg hy
    have := ordered hd hg hx hy h hk'
    rw [same hd hg hk hk']
    exact cmpV_symm _ _ _ _ this
  · exact ordered hg hd hy hx (by omega) hk
end
end Go.Ae
end

section
/-
  AE: regions whose order is open.
-/
namespace Go.Ae
section
variable {P : Program} {X : Ctx} {R : Rec} {ops : Array Oper} {L : List DO} {S : Nat → DS} {A : Nat → DA}
variable {ρ0 : Ren} {h0 : H} {w0 : World} {D : Nat → Bool} {a : Act} {w : World} {c : Nat} {ρ : Ren} {hC : H} {tmC : Tr Value}

theorem EsRel.belowN {ρ ρ' : Ren} (h : ∀ b r, b < big → ρ b = some r → ρ' b = some r) : ∀ {es : List ME} {l : List MapEntry}, EsRel ρ es l → (∀ x ∈ es, flatV x.key = true ∧ belowV x.val = true ∧ x.sid < big) → EsRel ρ' es l
  | _, _, .nil, _ => .nil
  | _, _, .cons a b, hx => by
    obtain ⟨h1, h2, h3⟩ := hx _ List.mem_cons_self
    obtain ⟨r, q1, q2⟩ := a.sid
    refine .cons ⟨?_, belowV_rel h h2 a.val, r, h _ _ h3 q1, q2⟩ (EsRel.belowN h b fun x hx' => hx x (by simp [hx']))
    rw [flatV_eq h1 a.key]; exact flatV_refl h1 _

/-- an insertion -/
theorem Inv.ins_next (_cx : CtxOk P X) (iv : Inv P ops L S A ρ0 h0 w0 D a w c ρ hC tmC) (po : PlanOk X ops L) (tc : Trace R h0.next L S A) (hr0 : Rel P ρ0 h0 w0) {p : Nat} {d : DO} (hd : L[p]? = some d) (hn : D d.idx = false) (hr : Ready ops (fun i => D i = true) d.idx) (he : effD d = false)
    (hdst : (match d.dst with | some d => Nat.blt d a.tmps.size | none => true) = true) {r : Nat} {e : ME} {es : List ME} (ha : A p = .ins r e es) :
    ∃ hB v h', Rel P ρ hB w ∧ d.f R (miniT tmC d.looks) hB = some (v, h') ∧ ∀ ρ1 w' v', Rel P ρ1 h' w' → Ext ρ hB w ρ1 h' w' → VRel ρ1 v v' →
      ∃ ρ' hC', Inv P ops L S A ρ0 h0 w0 (addD D d.idx) (a.put d.dst v') w' c ρ' hC' (putD tmC d.dst (aval (A p))) := by
  have pl := places_of po
  have hplen : p < L.length := (List.getElem?_eq_some_iff.1 hd).1
  have hlt := pl.lt hd
  have hbig : hC.next ≤ big := by have := iv.bound; have := iv.next; omega
  have hroom : h0.next + ops.size ≤ hC.next := by have := iv.room; have := iv.next; omega
  obtain ⟨cc, m, k, v, hk, hg, hdi⟩ := ins_kind tc hd ha
  obtain ⟨kv, vv, e1, e2, e3, e4, e5, e6, e7, e8⟩ := dins_spec hdi
  obtain ⟨o, ho, hf, _, _, _, hkk⟩ := (po.dok d (List.mem_of_getElem? hd)).out
  rw [hk] at hkk
  obtain ⟨ty, ti, kt, el, hop, hti, hu, hcmp⟩ := hkk
  obtain ⟨q, g, gv, go, hqp, hcq, hqg, hA, hrg, hDg⟩ := iv.maker po tc hd ha (.inr hr)
  obtain ⟨o', n1, n2⟩ := iv.news q g gv go hcq hqg hDg hA
  rw [← hrg] at n1 n2
  -- the object is a map, with what is done of it
  have hgo : go = .map [] := by
    obtain ⟨_, _, hne⟩ := new_kind tc hqg hA
    obtain ⟨_, _, _, _, _, _, hbo⟩ := dnew_spec hne
    obtain ⟨q2, g2, _, _, _, hg2, hA2, hr2, _, hno⟩ := ins_maker po tc hd ha
    have hidx : g2.idx = g.idx := by omega
    have := pl.one hg2 hqg hidx
    subst this
    obtain ⟨o2, j1, j2⟩ := new_get po tc hqg hA p hqp (by omega) fun x f h1 _ => hno h1
    rw [← hrg, mapOf_get e4] at j1
    rcases j2 with ⟨h, _⟩ | ⟨es', h, _, _⟩
    · cases j1
      rw [← h] at hbo ⊢
      cases es with
      | nil => rfl
      | cons x xs => simp [belowO] at hbo
    · exact h
  obtain ⟨esC, ho', hperm⟩ : ∃ esC, o' = .map esC ∧ List.Perm esC (insOf A (dnAt L D) r L.length) := by
    rcases n2 with ⟨h, h'⟩ | ⟨es', _, h, h'⟩
    · exact ⟨[], by rw [h, hgo], by rw [h']⟩
    · exact ⟨es', h, h'⟩
  subst ho'
  -- what is known of its entries
  have hent : ∀ x ∈ esC, ∃ q2 g2 ys, q2 ≠ p ∧ L[q2]? = some g2 ∧ A q2 = .ins r x ys := by
    intro x hx
    obtain ⟨q2, ys, h1, h2, h3⟩ := mem_insOf _ (hperm.mem_iff.1 hx)
    have hq2 : L[q2]? = some L[q2] := List.getElem?_eq_getElem h1
    refine ⟨q2, _, ys, ?_, hq2, h2⟩
    intro h; subst h
    rw [hd] at hq2; cases hq2
    rw [dnAt_eq hd, hn] at h3; cases h3
  have hekey : e.key = kv := by rw [e8]
  have hfind : findK cc kv esC = some none := by
    have h1 := (findK_spec e5).1
    unfold findK
    rw [h1]
    simp only
    refine findKey_none esC fun x hx => ?_
    obtain ⟨q2, g2, ys, h2, h3, h4⟩ := hent x hx
    have := keys_differ po tc hd h3 ha h4 (fun h => h2 h.symm) hk
    rw [hekey] at this; exact this
  have hbel2 : ∀ x ∈ esC, flatV x.key = true ∧ belowV x.val = true ∧ x.sid < big := by
    intro x hx
    obtain ⟨q2, g2, ys, _, h3, h4⟩ := hent x hx
    obtain ⟨c2, m2, k2, v2, _, _, hdi2⟩ := ins_kind tc h3 h4
    obtain ⟨kv2, vv2, _, _, _, _, _, f1, f2, f3⟩ := dins_spec hdi2
    have := pl.lt h3
    rw [f3]
    exact ⟨f1, f2, by show h0.next + g2.idx < big; omega⟩
  have hfl0 : h0.floor ≤ h0.next := hr0.fl
  let T1 : Tr AObj := (Tr.nil).set r (.map esC)
  have hT1 : ∀ b ob, T1.get b = some ob → b = r ∧ ob = .map esC := fun b ob hb => by
    have hb : ((Tr.nil).set r (.map esC)).get b = some ob := hb
    rw [Tr.get_set] at hb
    split at hb
    · rename_i h; cases hb; exact ⟨h, rfl⟩
    · simp at hb
  have hT1r : T1.get r = some (.map esC) := by
    show ((Tr.nil : Tr AObj).set r (AObj.map esC)).get r = _
    rw [Tr.get_set, if_pos rfl]
  have hrel1 : Rel P ρ ⟨T1, big, h0.next⟩ w := by
    refine iv.rel.sub (fun b ob hb => ?_) hbig (by show h0.next ≤ big; omega) (Nat.le_trans hr0.gfl hfl0)
    obtain ⟨rfl, rfl⟩ := hT1 b ob hb
    exact n1
  have hmap1 : mapOf ⟨T1, big, h0.next⟩ r = some esC := by unfold mapOf; rw [hT1r]
  obtain ⟨m1, _⟩ := iv.mini po tc hd hn hr
  have hrun : d.f R (miniT tmC d.looks) ⟨T1, big, h0.next⟩ = some (undef, H.addEntry ⟨T1, big, h0.next⟩ r esC kv vv) := by
    rw [hf, m1]
    unfold opF
    rw [hop]
    simp only [hti, Option.bind_some, hu, hcmp, Option.map_some, Option.getD_some]
    unfold oMapUpd
    rw [e1, e2, e3]
    simp only
    unfold mapPut
    have hge : Nat.ble h0.next r = true := by rw [hrg]; exact Nat.ble_eq_true_of_le (Nat.le_add_right _ _)
    simp only [hge, e6, Bool.and_self, if_true, hmap1, hfind]
  refine ⟨⟨T1, big, h0.next⟩, undef, _, hrel1, hrun, fun ρ1 w' v' k1 k2 k3 => ?_⟩
  -- afterwards
  have hafter : (H.addEntry ⟨T1, big, h0.next⟩ r esC kv vv).tr.get r = some (AObj.map (({ key := kv, val := vv, sid := big } : ME) :: esC)) := by
    show (T1.set r (AObj.map ({ key := kv, val := vv, sid := big } :: esC))).get r = _
    rw [Tr.get_set, if_pos rfl]
  obtain ⟨rb, p1, obj, p2, p3⟩ := k1.dom r _ hafter
  obtain ⟨rb', s1, _⟩ := iv.rel.dom r _ n1
  have hrbig : r < big := by have := pl.lt hqg; omega
  have : rb' = rb := by
    have := k2.old r hrbig
    rw [p1, s1] at this; exact (Option.some.inj this).symm
  subst this
  have hρ0 := iv.names d.idx hlt hn
  cases p3 with
  | @map _ ces clock y =>
    obtain ⟨⟨l, y1, y2⟩, y3, y4⟩ := y
    cases y2 with
    | cons z1 z2 =>
      rename_i e' l'
      obtain ⟨rs, t1, t2⟩ := z1.sid
      have hbel : ∀ b x, b < big → ρ1 b = some x → ρ.put (h0.next + d.idx) rs b = some x := fun b x hb hq => by
        have := k2.old b hb
        rw [this] at hq
        rw [Ren.put_ne fun h => by rw [h, hρ0] at hq; cases hq]
        exact hq
      have hee : ERel (ρ.put (h0.next + d.idx) rs) e e' := by
        refine ⟨?_, ?_, rs, ?_, t2⟩
        · have h1 := flatV_eq e6 z1.key
          rw [hekey, h1]; exact flatV_refl e6 _
        · rw [e8]; exact belowV_rel hbel e7 z1.val
        · rw [e8]; exact Ren.put_same _ _ _
      have hO : ORel P.globals.size (ρ.put (h0.next + d.idx) rs) rb' (.map (e :: esC)) (.map ces clock) := .map ⟨⟨_, y1, .cons hee (EsRel.belowN hbel z2 hbel2)⟩, y3, y4⟩
      have hk2 : ∀ b, b < w.heap.size → b ≠ rb'.blk → w'.heap[b]? = w.heap[b]? := fun b hb hne => by
        refine k2.frame b hb fun x ox rx hx _ hρx heq => ?_
        obtain ⟨h1, _⟩ := hT1 x ox hx
        subst h1
        rw [s1] at hρx; cases hρx
        exact hne heq.symm
      obtain ⟨g1, g2⟩ := iv.rel.updAt iv.ext n1 s1 (by omega) hfl0 (ρ' := ρ.put (h0.next + d.idx) rs) (Ren.le_put hρ0) (fun x hx => Ren.put_ne (by omega)) (fun x qx hx => by
          by_cases hxx : x = h0.next + d.idx
          · omega
          · rw [Ren.put_ne hxx] at hx; exact iv.rel.fresh x qx hx) k2.size hk2 p2 hO k2.os k2.output k2.tape
      have hvu : VRel (ρ.put (h0.next + d.idx) rs) (aval (A p)) v' := by
        rw [ha]
        have : v' = undef := flatV_eq (v := undef) rfl k3
        rw [this]; exact flatV_refl rfl _
      refine ⟨_, _, iv.calm_next po hd hn hr he hdst (Ren.le_put hρ0) g1 g2 rfl rfl hvu (fun i hi hD => ?_) (fun b hb => ?_) fun q2 f v2 o2 hq2 hqf hD hA2 => ?_⟩
      · obtain ⟨h1, h2⟩ := addD_false hD
        rw [Ren.put_ne (by omega)]
        exact iv.names i hi h1
      · show (hC.tr.set r (AObj.map (e :: esC))).get b = _
        rw [Tr.get_set, if_neg (by rw [hrg]; exact hb q g gv go hcq hqg (addD_old hDg) hA)]
        exact iv.rest b fun q2 f v2 o2 h1 h2 h3 h4 => hb q2 f v2 o2 h1 h2 (addD_old h3) h4
      · have hne : f.idx ≠ d.idx := fun h => by
          have := pl.one hqf hd h
          subst this
          rw [ha] at hA2; cases hA2
        rw [addD_ne hne] at hD
        obtain ⟨o3, i1, i2⟩ := iv.news q2 f v2 o2 hq2 hqf hD hA2
        by_cases hfr : h0.next + f.idx = r
        · have hfg : f.idx = g.idx := by omega
          have := pl.one hqf hqg hfg
          subst this
          rw [hA] at hA2; cases hA2
          refine ⟨.map (e :: esC), ?_, ?_⟩
          · show (hC.tr.set r (AObj.map (e :: esC))).get (h0.next + f.idx) = _
            rw [Tr.get_set, if_pos hfr]
          · refine .inr ⟨e :: esC, hgo, rfl, ?_⟩
            rw [hfr]
            refine (hperm.cons e).trans (insOf_add ha ?_ ?_ ?_ L.length hplen)
            · rw [dnAt_eq hd]; exact hn
            · rw [dnAt_eq hd]; exact addD_same _ _
            · intro x hx
              unfold dnAt
              cases hxe : L[x]? with
              | none => rfl
              | some f2 =>
                simp only
                refine addD_ne fun h => ?_
                exact hx (pl.one hxe hd h)
        · refine ⟨o3, ?_, ?_⟩
          · show (hC.tr.set r (AObj.map (e :: esC))).get (h0.next + f.idx) = _
            rw [Tr.get_set, if_neg hfr]; exact i1
          · rw [insOf_dn pl hd fun e2 es2 h => by rw [ha] at h; cases h; exact hfr rfl]; exact i2

/-- all is done -/
theorem Inv.done (iv : Inv P ops L S A ρ0 h0 w0 D a w c ρ hC tmC) (po : PlanOk X ops L) (tc : Trace R h0.next L S A) (hr0 : Rel P ρ0 h0 w0) (hall : ∀ i, i < ops.size → D i = true) :
    Rel P ρ (S L.length).h w ∧ Ext ρ0 h0 w0 ρ (S L.length).h w ∧ TmRel ρ (S L.length).tm a.tmps := by
  have pl := places_of po
  have noeff : ∀ (q : Nat) (e : DO), c ≤ q → q < L.length → L[q]? = some e → effD e = false := fun q e h1 _ hqe => by
    cases hE : effD e with
    | false => rfl
    | true =>
      have := iv.effs q e h1 hqe hE
      rw [hall _ (pl.lt hqe)] at this; cases this
  obtain ⟨c1, c2, c3⟩ := calm tc L.length iv.cle (Nat.le_refl _) noeff
  have dn : ∀ r, insOf A (dnAt L D) r L.length = insOf A (fun _ => true) r L.length := fun r => insOf_congr _ fun q e es hq _ => by
    have hqe : L[q]? = some L[q] := List.getElem?_eq_getElem hq
    rw [dnAt_eq hqe]; exact hall _ (pl.lt hqe)
  have hother : ∀ b, (∀ (q : Nat) (e : DO) v o, c ≤ q → L[q]? = some e → A q = .new v o → b ≠ h0.next + e.idx) → (S L.length).h.tr.get b = hC.tr.get b := by
    intro b hb
    rw [calm_get tc L.length iv.cle (Nat.le_refl _) noeff (fun q e v o h1 _ hqe hA => hb q e v o h1 hqe hA) fun q r e es h1 h2 hA hbr => ?_]
    · exact (iv.rest b fun q e v o h1 hqe _ hA => hb q e v o h1 hqe hA).symm
    · have hqe : L[q]? = some L[q] := List.getElem?_eq_getElem h2
      obtain ⟨q2, g, v2, o2, _, hcq, hg, hA2, hr2, _⟩ := iv.maker po tc hqe hA (.inl (hall _ (pl.lt hqe)))
      exact hb q2 g v2 o2 hcq hg hA2 (by omega)
  have hsame : ∀ b, ObjSame (hC.tr.get b) ((S L.length).h.tr.get b) := by
    intro b
    by_cases hex : ∃ (q : Nat) (e : DO) (v : Value) (o : AObj), c ≤ q ∧ L[q]? = some e ∧ A q = .new v o ∧ b = h0.next + e.idx
    · obtain ⟨q, e, v, o, h1, hqe, hA, rfl⟩ := hex
      obtain ⟨o1, i1, i2⟩ := iv.news q e v o h1 hqe (hall _ (pl.lt hqe)) hA
      obtain ⟨o2, j1, j2⟩ := new_get po tc hqe hA L.length (List.getElem?_eq_some_iff.1 hqe).1 (Nat.le_refl _) fun x f h3 h4 hf => noeff x f (by omega) h4 hf
      rw [dn] at i2
      rw [i1, j1]
      rcases i2 with ⟨h, h'⟩ | ⟨es, h, h', hp⟩
      · rcases j2 with ⟨g, g'⟩ | ⟨es2, g, g', hp2⟩
        · left; rw [h, g]
        · rw [h'] at hp2
          have := hp2.eq_nil
          subst this
          left; rw [h, g, g']
      · rcases j2 with ⟨g, g'⟩ | ⟨es2, g, g', hp2⟩
        · rw [g'] at hp
          have := hp.eq_nil
          subst this
          left; rw [g, h, h']
        · exact .inr ⟨es, es2, by rw [h'], by rw [g'], hp.trans hp2.symm⟩
    · exact .inl (hother b fun q e v o h1 hqe hA hb => hex ⟨q, e, v, o, h1, hqe, hA, hb⟩).symm
  obtain ⟨r1, r2⟩ := iv.rel.same iv.ext hr0.fl hsame (fun b hb => hother b fun q e v o h1 hqe hA hb2 => by have := hr0.fl; omega) (c1.trans iv.next.symm) (c2.trans iv.floor.symm)
  refine ⟨r1, r2, fun t v ht => iv.tm t v ?_⟩
  by_cases hex : ∃ (q : Nat) (e : DO), L[q]? = some e ∧ e.dst = some t
  · obtain ⟨q, e, hq, het⟩ := hex
    rw [iv.tmD q e t hq (hall _ (pl.lt hq)) het]
    rw [tm_some tc hq het (fun r g hr' hg => dst_one po hr' hq hg het) L.length (List.getElem?_eq_some_iff.1 hq).1 (Nat.le_refl _)] at ht
    exact ht
  · rw [iv.tmN t fun q e hq _ het => hex ⟨q, e, hq, het⟩]
    rw [tm_none tc t L.length (Nat.le_refl _) fun q e _ hq het => hex ⟨q, e, hq, het⟩] at ht
    exact ht
end
end Go.Ae
end

section
/-
  AE: regions whose order is open come to what the evaluator says.
-/
namespace Go.Ae
section
variable {P : Program} {X : Ctx} {R : Rec} {ops : Array Oper} {L : List DO} {S : Nat → DS} {A : Nat → DA}

/-- how many are left -/
def left (N : Nat) (D : Nat → Bool) : Nat := ((List.range N).filter fun i => !D i).length

theorem filter_lt {α : Type} {p q : α → Bool} : ∀ (l : List α), (∀ x ∈ l, q x = true → p x = true) → (∃ x ∈ l, p x = true ∧ q x = false) → (l.filter q).length < (l.filter p).length
  | [], _, h => by obtain ⟨x, h, _⟩ := h; cases h
  | y :: l, h1, h2 => by
    have le : ∀ (l : List α), (∀ x ∈ l, q x = true → p x = true) → (l.filter q).length ≤ (l.filter p).length := by
      intro l
      induction l with
      | nil => intro _; simp
      | cons z l ih =>
        intro h
        have ih := ih fun x hx => h x (by simp [hx])
        cases hq : q z with
        | true => rw [List.filter_cons_of_pos hq, List.filter_cons_of_pos (h z (by simp) hq)]; simp; exact ih
        | false =>
          rw [List.filter_cons_of_neg (by simp [hq])]
          cases hp : p z with
          | true => rw [List.filter_cons_of_pos hp]; simp; omega
          | false => rw [List.filter_cons_of_neg (by simp [hp])]; exact ih
    obtain ⟨x, hx, hpx, hqx⟩ := h2
    cases hq : q y with
    | true =>
      have hpy := h1 y (by simp) hq
      rw [List.filter_cons_of_pos hq, List.filter_cons_of_pos hpy]
      rcases List.mem_cons.1 hx with rfl | hx
      · rw [hq] at hqx; cases hqx
      · have := filter_lt l (fun x hx => h1 x (by simp [hx])) ⟨x, hx, hpx, hqx⟩
        simp; exact this
    | false =>
      rw [List.filter_cons_of_neg (by simp [hq])]
      cases hp : p y with
      | true =>
        rw [List.filter_cons_of_pos hp]
        have := le l fun x hx => h1 x (by simp [hx])
        simp; omega
      | false =>
        rw [List.filter_cons_of_neg (by simp [hp])]
        rcases List.mem_cons.1 hx with rfl | hx
        · rw [hp] at hpx; cases hpx
        · exact filter_lt l (fun x hx => h1 x (by simp [hx])) ⟨x, hx, hpx, hqx⟩

theorem left_zero {N : Nat} {D : Nat → Bool} (h : left N D = 0) : ∀ i, i < N → D i = true := by
  intro i hi
  cases hD : D i with
  | true => rfl
  | false =>
    exfalso
    have : i ∈ (List.range N).filter fun i => !D i := List.mem_filter.2 ⟨List.mem_range.2 hi, by simp [hD]⟩
    unfold left at h
    rw [List.length_eq_zero_iff.1 h] at this
    cases this

theorem left_add {N : Nat} {D : Nat → Bool} {i : Nat} (hi : i < N) (hn : D i = false) : left N (addD D i) < left N D := by
  unfold left
  refine filter_lt _ (fun x _ hx => ?_) ⟨i, List.mem_range.2 hi, by simp [hn], by simp [addD_same]⟩
  simp only [Bool.not_eq_true'] at hx ⊢
  exact (addD_false hx).1

theorem head_st {base : Nat} (tc : Trace R base L S A) (h0 : ∃ ts, (S 0).st = (S 0).h.tr :: ts) {c : Nat} (hc : c = 0 ∨ ∃ d, L[c - 1]? = some d ∧ effD d = true) : ∃ ts, (S c).st = (S c).h.tr :: ts := by
  rcases hc with rfl | ⟨d, h1, h2⟩
  · exact h0
  · by_cases hz : c = 0
    · subst hz; exact h0
    · obtain ⟨v, h', ha⟩ := eff_kind tc h1 h2
      have := (tc (c - 1) d h1).2
      have e : c - 1 + 1 = c := by omega
      rw [e] at this
      rw [this, ha]
      exact ⟨_, rfl⟩

/-- one operation, whichever is ready -/
theorem step_ready (cx : CtxOk P X) (rok : RecOk P R) {F : Fence} (hF : FOk F) {n : Nat} {Q : Exit → Act → World → Prop} (po : PlanOk X ops L) {ρ0 : Ren} {h0 : H} {w0 : World} (tc : Trace R h0.next L S A) (hs0 : ∃ ts, (S 0).st = (S 0).h.tr :: ts) (hr0 : Rel P ρ0 h0 w0)
    {D : Nat → Bool} {a : Act} {w : World} {c : Nat} {ρ : Ren} {hC : H} {tmC : Tr Value} (iv : Inv P ops L S A ρ0 h0 w0 D a w c ρ hC tmC) (hok : ∀ o ∈ ops.toList, okOper P.globals.size a.tmps.size o = true) {i : Nat} (hi : i < ops.size) (hn : D i = false) (hr : Ready ops (fun i => D i = true) i)
    {K : Act → World → Prop} (hK : ∀ a' w', (∃ c ρ hC tmC, Inv P ops L S A ρ0 h0 w0 (addD D i) a' w' c ρ hC tmC) → a'.tmps.size = a.tmps.size → a'.defers = a.defers → K a' w') : wpOpIn F n P ops Q i K a w := by
  have pl := places_of po
  obtain ⟨d, hdm, rfl⟩ := po.cov i hi
  obtain ⟨p, hd⟩ := List.getElem?_of_mem hdm
  have hplen : p < L.length := (List.getElem?_eq_some_iff.1 hd).1
  have dk := po.dok d hdm
  obtain ⟨m1, m2⟩ := iv.mini po tc hd hn hr
  have hcp := iv.le hd hn
  have hbig : hC.next ≤ big := by have := iv.bound; have := iv.next; omega
  have hdst : (match d.dst with | some d => Nat.blt d a.tmps.size | none => true) = true := by
    obtain ⟨o, ho, _, hdo, _⟩ := dk.out
    rw [hdo]
    rw [← Array.getElem?_toList] at ho
    exact okOper_dst (hok o (List.mem_of_getElem? ho))
  have fin : ∀ {v' w' c ρ hC}, Inv P ops L S A ρ0 h0 w0 (addD D d.idx) (a.put d.dst v') w' c ρ hC (putD tmC d.dst (aval (A p))) → K (a.put d.dst v') w' := fun {v' w' c ρ hC} h =>
    hK _ _ ⟨c, ρ, hC, _, h⟩ (put_size _ _ _) (put_defers _ _ _)
  obtain ⟨hact, hS⟩ := tc p d hd
  refine opIn_ok cx rok hF dk hok iv.tm (fun hg => ?_) (fun hg => ?_) ?_
  · -- it runs
    rw [m2] at hg
    rw [m1]
    rcases dact_cases hact with ⟨_, hdo⟩ | ⟨h, _⟩
    · rcases ddo_kind hdo with ⟨hk, v, ha, hv⟩ | ⟨back, hk, v, ha, hv⟩ | ⟨hk, v, o, ha, hnw⟩ | ⟨hk, v, h', ha, hf, hb⟩ | ⟨c', m, k, v, hk, r, e, es, ha, hdi⟩
      · -- a value
        obtain ⟨h', hf, hnx⟩ := dval_spec hv
        have hs : ∀ b (o : AObj), (Tr.nil : Tr AObj).get b = some o → hC.tr.get b = some o := fun b o e => by simp at e
        refine ⟨bare .nil, v, h', bare_rel iv.rel hbig hs, hf, fun ρ' w' v' k1 k2 k3 => ?_⟩
        obtain ⟨e1, e2, e3⟩ := bare_read iv.rel iv.ext hbig hs k1 k2 hnx
        subst e1
        exact fin (iv.put_next po hd hn hr (by unfold effD; rw [hk]) hdst ha e2 e3 k3)
      · -- a reading
        have he : effD d = false := by unfold effD; rw [hk]
        -- which elder state it is
        have hst := st_drop tc p hcp (by omega)
        obtain ⟨ts, hts⟩ := head_st tc hs0 iv.cut
        have hm : (((L.take p).drop c).filter effD).length ≤ back := by
          rcases Nat.lt_or_ge back (((L.take p).drop c).filter effD).length with hlt | hge
          · exfalso
            have hsplit : L.take p = (L.take p).take c ++ (L.take p).drop c := (List.take_append_drop c _).symm
            have hlist : (((L.take p).filter effD).map (·.idx)).reverse = ((((L.take p).drop c).filter effD).map (·.idx)).reverse ++ ((((L.take p).take c).filter effD).map (·.idx)).reverse := by
              conv => lhs; rw [hsplit]
              rw [List.filter_append, List.map_append, List.reverse_append]
            have hlen : back < ((((L.take p).drop c).filter effD).map (·.idx)).reverse.length := by simpa using hlt
            have hdrop : (((L.take p).filter effD).map (·.idx)).reverse.drop back = ((((L.take p).drop c).filter effD).map (·.idx)).reverse[back] :: (((((L.take p).drop c).filter effD).map (·.idx)).reverse.drop (back + 1) ++ ((((L.take p).take c).filter effD).map (·.idx)).reverse) := by
              rw [hlist, List.drop_append_of_le_length (by omega), List.drop_eq_getElem_cons hlen, List.cons_append]
            have hDi := pl.read hd hk (fun i => D i = true) iv.closed hr _ _ hdrop
            have hmem : ((((L.take p).drop c).filter effD).map (·.idx)).reverse[back] ∈ ((((L.take p).drop c).filter effD).map (·.idx)).reverse := List.getElem_mem hlen
            rw [List.mem_reverse] at hmem
            obtain ⟨e, h1, h2⟩ := List.mem_map.1 hmem
            obtain ⟨h3, h4⟩ := List.mem_filter.1 h1
            obtain ⟨x, hx⟩ := List.getElem?_of_mem h3
            rw [List.getElem?_drop, List.getElem?_take] at hx
            split at hx
            · have := iv.effs (c + x) e (by omega) hx h4
              rw [← h2, this] at hDi; cases hDi
            · cases hx
          · exact hge
        have hget : (S p).st[(((L.take p).drop c).filter effD).length]? = some (S c).h.tr := by
          have : ((S p).st.drop (((L.take p).drop c).filter effD).length)[0]? = some (S c).h.tr := by rw [hst, hts]; rfl
          rw [List.getElem?_drop] at this
          simpa using this
        obtain ⟨h', hf, hnx⟩ := dval_spec (readAt_at hv hm hget)
        have hs : ∀ b (o : AObj), (S c).h.tr.get b = some o → hC.tr.get b = some o := fun b o e => by
          rw [iv.rest b fun q g v2 o2 h1 hq hDg hA hb => by
            subst hb
            rw [iv.none' q g h1 hq] at e; cases e]
          exact e
        refine ⟨bare (S c).h.tr, v, h', bare_rel iv.rel hbig hs, hf, fun ρ' w' v' k1 k2 k3 => ?_⟩
        obtain ⟨e1, e2, e3⟩ := bare_read iv.rel iv.ext hbig hs k1 k2 hnx
        subst e1
        exact fin (iv.put_next po hd hn hr he hdst ha e2 e3 k3)
      · -- a new object
        rw [ha] at hnw
        obtain ⟨u, h', hf, hnx, hgt, hre, hbo⟩ := dnew_spec hnw
        refine ⟨bare .nil, u, h', bare_rel iv.rel hbig (fun b o e => by simp at e), hf, fun ρ' w' v' k1 k2 k3 => ?_⟩
        obtain ⟨ρ2, hC2, h⟩ := iv.new_next po tc hr0.fl hd hn hr (by unfold effD; rw [hk]) hdst ha hnx hgt hre hbo k1 k2 k3
        exact fin h
      · -- an effect
        have hSh : (S (p + 1)).h = h' := by rw [hS, ha]; rfl
        obtain ⟨g1, g2⟩ := iv.eff_next po tc hr0 hd hn hr (effD_iff.2 hk) hdst (by rw [hSh]; exact hb)
        refine ⟨(S p).h, v, h', g1, hf, fun ρ' w' v' k1 k2 k3 => ?_⟩
        obtain ⟨hC2, h⟩ := g2 ρ' w' v' (by rw [hSh]; exact k1) (by rw [hSh]; exact k2) (by rw [ha]; exact k3)
        exact fin h
      · -- an insertion
        obtain ⟨hB, v2, h', g1, g2, g3⟩ := iv.ins_next (R := R) cx po tc hr0 hd hn hr (by unfold effD; rw [hk]) hdst ha
        rw [m1] at g2
        refine ⟨hB, v2, h', g1, g2, fun ρ' w' v' k1 k2 k3 => ?_⟩
        obtain ⟨ρ2, hC2, h⟩ := g3 ρ' w' v' k1 k2 k3
        exact fin h
    · rw [hg] at h; cases h
  · -- it is passed over
    rw [m2] at hg
    rcases dact_cases hact with ⟨h, _⟩ | ⟨_, ⟨hk, ha⟩ | ⟨hk, ha⟩⟩
    · rw [hg] at h; cases h
    · have hSh : (S (p + 1)).h = (S p).h := by rw [hS, ha]; rfl
      have hpe : effD d = true := effD_iff.2 hk
      -- the state is as bounded as it was
      have noeff : ∀ (q : Nat) (e : DO), c ≤ q → q < p → L[q]? = some e → effD e = false := fun q e h1 h2 hqe => by
        cases hE : effD e with
        | false => rfl
        | true =>
          have := iv.effs q e h1 hqe hE
          rw [pl.eff hd hpe (fun i => D i = true) iv.closed (.inr hr) h2 hqe] at this; cases this
      obtain ⟨c1, _, _⟩ := calm tc p hcp (by omega) noeff
      obtain ⟨g1, g2⟩ := iv.eff_next po tc hr0 hd hn hr hpe hdst (by rw [hSh, c1]; exact iv.bound)
      obtain ⟨hC2, h⟩ := g2 ρ w undef (by rw [hSh]; exact g1) (by rw [hSh]; exact Ext.refl g1) (by rw [ha]; exact flatV_refl rfl _)
      exact fin h
    · have he : effD d = false := by
        cases hE : effD d with
        | false => rfl
        | true => exact absurd (effD_iff.1 hE) hk
      exact fin (iv.put_next po hd hn hr he hdst ha iv.rel iv.ext (flatV_refl (v := undef) rfl _))
  · rw [m2]
    rcases dact_cases hact with ⟨h, _⟩ | ⟨h, _⟩
    · exact ⟨true, h⟩
    · exact ⟨false, h⟩

theorem binds_any (md : Region.Mode) (e : Edge) (h : Region.binds .any e = true) : Region.binds md e = true := by
  unfold Region.binds at h ⊢
  cases hg : e.ground <;> rw [hg] at h <;> first | rfl | (exfalso; revert h; decide) | simp_all

theorem any_ok (cx : CtxOk P X) (rok : RecOk P R) {F : Fence} (hF : FOk F) {n : Nat} {Q : Exit → Act → World → Prop} (po : PlanOk X ops L) {ρ0 : Ren} {h0 : H} {w0 : World} (tc : Trace R h0.next L S A) (hs0 : ∃ ts, (S 0).st = (S 0).h.tr :: ts) (hr0 : Rel P ρ0 h0 w0) (md : Region.Mode) (N : Nat) (defs : List Deferred)
    (hok : ∀ o ∈ ops.toList, okOper P.globals.size N o = true)
    (hQ : ∀ ρ' a' w', Rel P ρ' (S L.length).h w' → Ext ρ0 h0 w0 ρ' (S L.length).h w' → TmRel ρ' (S L.length).tm a'.tmps → a'.defers = defs → a'.tmps.size = N → Q .normal a' w') :
    ∀ (fuel : Nat) (listed : Array Bool) (D : Nat → Bool) (a : Act) (w : World), listed.size = ops.size → (∀ i, listed.getD i false = D i ∨ ops.size ≤ i) → left ops.size D ≤ fuel → (∃ c ρ hC tmC, Inv P ops L S A ρ0 h0 w0 D a w c ρ hC tmC) → a.tmps.size = N → a.defers = defs →
      wpAnyIn F n P md ops Q fuel listed a w := by
  have fin : ∀ (D : Nat → Bool) (a : Act) (w : World), (∀ i, i < ops.size → D i = true) → (∃ c ρ hC tmC, Inv P ops L S A ρ0 h0 w0 D a w c ρ hC tmC) → a.tmps.size = N → a.defers = defs → Q .normal a w := by
    rintro D a w hall ⟨c, ρ, hC, tmC, iv⟩ h1 h2
    obtain ⟨q1, q2, q3⟩ := iv.done po tc hr0 hall
    exact hQ ρ a w q1 q2 q3 h2 h1
  have get : ∀ (listed : Array Bool) (D : Nat → Bool), (∀ i, listed.getD i false = D i ∨ ops.size ≤ i) → ∀ i, i < ops.size → listed.getD i false = D i := fun listed D h i hi => by
    rcases h i with h | h
    · exact h
    · omega
  have noready : ∀ (listed : Array Bool) (D : Nat → Bool), listed.size = ops.size → (∀ i, listed.getD i false = D i ∨ ops.size ≤ i) → Region.ready md ops listed = [] → ∀ i, i < ops.size → D i = true := by
    intro listed D hsz hD hrd
    refine Classical.byContradiction fun hne => ?_
    obtain ⟨i, o, ho, hni, hall⟩ := orderedB_ok (po.ord md) (fun i => listed.getD i false = true) (fun h => hne fun i hi => by rw [← get listed D hD i hi]; exact h i hi)
    have hi : i < ops.size := (Array.getElem?_eq_some_iff.1 ho).1
    have : i ∈ Region.ready md ops listed := mem_ready.2 ⟨by
      have : listed.getD i false = false := by simpa using hni
      simpa [Array.getD_eq_getD_getElem?, hsz, hi] using this, o, ho, hall⟩
    rw [hrd] at this; cases this
  intro fuel
  induction fuel with
  | zero =>
    intro listed D a w hsz hD hl hiv h1 h2
    have hall := left_zero (N := ops.size) (D := D) (by omega)
    refine ⟨?_, fin D a w hall hiv h1 h2⟩
    cases hrd : Region.ready md ops listed with
    | nil => rfl
    | cons x xs =>
      exfalso
      have hx : x ∈ Region.ready md ops listed := by rw [hrd]; simp
      obtain ⟨h3, o, ho, _⟩ := mem_ready.1 hx
      have hi : x < ops.size := (Array.getElem?_eq_some_iff.1 ho).1
      have h4 := get listed D hD x hi
      rw [hall x hi] at h4
      simp [Array.getD_eq_getD_getElem?, hsz, hi] at h3 h4
      rw [h3] at h4; cases h4
  | succ fuel ih =>
    intro listed D a w hsz hD hl hiv h1 h2
    refine ⟨fun hrd => fin D a w (noready listed D hsz hD hrd) hiv h1 h2, fun i hi => ?_⟩
    obtain ⟨h3, o, ho, hall⟩ := mem_ready.1 hi
    have hlt : i < ops.size := (Array.getElem?_eq_some_iff.1 ho).1
    have hDi : D i = false := by
      rw [← get listed D hD i hlt]
      simpa [Array.getD_eq_getD_getElem?, hsz, hlt] using h3
    obtain ⟨c, ρ, hC, tmC, iv⟩ := hiv
    have hready : Ready ops (fun i => D i = true) i := by
      intro o' ho' e he hb
      rw [ho] at ho'; cases ho'
      have h4 := hall e he (binds_any md e hb)
      have h5 : e.on < ops.size := by
        rcases Nat.lt_or_ge e.on listed.size with h | h
        · omega
        · simp [Array.getD_eq_getD_getElem?, Array.getElem?_eq_none h] at h4
      show D e.on = true
      rw [← get listed D hD _ h5]; exact h4
    refine step_ready cx rok hF po tc hs0 hr0 iv (by rw [h1]; exact hok) hlt hDi hready fun a' w' hiv' g1 g2 => ?_
    refine ih (listed.setIfInBounds i true) (addD D i) a' w' (by simp [hsz]) (fun j => ?_) (by have := left_add hlt hDi; omega) hiv' (g1.trans h1) (g2.trans h2)
    by_cases hj : j = i
    · subst hj
      left
      rw [addD_same]
      simp [Array.getD_eq_getD_getElem?, hsz, hlt]
    · rw [addD_ne hj, getD_set_ne false (Ne.symm hj)]
      exact hD j

theorem draw_ok (cx : CtxOk P X) (rok : RecOk P R) : DrawOk P X R := by
  intro F n id ops Q ρ h h' w tm tm' a hF hr ht hok hf hK
  unfold cDraw at hf
  split at hf
  · rename_i L hL
    split at hf
    · rename_i hb
      split at hf
      · rename_i sF hsteps
        cases hf
        have po := plan_ok hL
        obtain ⟨S, A, s1, s2, tc⟩ := dsteps_trace R h.next L _ sF hsteps
        have hw : Rel P ρ h { w with drawn := w.drawn + 1 } ∧ Ext ρ h w ρ h { w with drawn := w.drawn + 1 } := hr.of_heap rfl rfl rfl rfl
        have hbb : h.next + ops.size ≤ big := Nat.le_of_ble_eq_true hb
        have hup : Rel P ρ { h with next := h.next + ops.size } { w with drawn := w.drawn + 1 } := hw.1.sub (fun b o e => e) (Nat.le_add_right _ _) (by have := hr.fl; show h.floor ≤ h.next + ops.size; omega) hr.gfl
        have hxup : Ext ρ h { w with drawn := w.drawn + 1 } ρ { h with next := h.next + ops.size } { w with drawn := w.drawn + 1 } :=
          ⟨Ren.le_refl ρ, fun _ _ => rfl, Nat.le_add_right _ _, rfl, fun _ _ => rfl, fun b o _ e => ⟨o, e⟩, fun b o r hb e _ => (by
            have := hr.dead b o e
            omega), Nat.le_refl _, fun _ _ _ => rfl, rfl, rfl, rfl⟩
        have iv0 : Inv P ops L S A ρ h { w with drawn := w.drawn + 1 } (fun _ => false) a { w with drawn := w.drawn + 1 } 0 ρ { h with next := h.next + ops.size } tm := by
          refine ⟨fun i o _ h => (by cases h), Nat.zero_le _, .inl rfl, fun q e h => (by omega), fun _ _ _ _ _ => rfl, hup, hxup, (by rw [s1]; rfl), (by rw [s1]), (by rw [s1]; exact hbb), (by rw [s1]; exact Nat.le_refl _), ht, fun q e t _ h => (by cases h), fun t _ => (by rw [s1]), fun i _ _ => hr.none_next (Nat.le_add_right _ _), fun q e _ _ => ?_, fun b _ => (by rw [s1]), fun q e v o _ _ h => (by cases h)⟩
          rw [s1]
          show h.tr.get (h.next + e.idx) = none
          cases hg : h.tr.get (h.next + e.idx) with
          | none => rfl
          | some o => have := hr.dead _ o hg; omega
        refine wpIn_region_draw fun t => ?_
        have go : ∀ md t, wpOpsIn F n P ops Q (Region.linearise md ops t) a { w with drawn := w.drawn + 1 } := fun md t => by
          refine wpAnyIn_sound ops.size t _ a _ ?_
          refine any_ok cx rok hF po tc ⟨[], by rw [s1]⟩ hw.1 md a.tmps.size a.defers hok (fun ρ' a' w' k1 k2 k3 k4 k5 => ?_) ops.size _ (fun _ => false) a _ (by simp) (fun i => ?_) ?_ ⟨0, ρ, _, tm, iv0⟩ rfl rfl
          · rw [s2] at k1 k2 k3
            exact hK ρ' w' a' k1 (hw.2.trans hr hw.1 k2) k3 k4 k5
          · rcases Nat.lt_or_ge i ops.size with h | h
            · left; simp [Array.getD_eq_getD_getElem?, h]
            · exact .inr h
          · unfold left
            have := List.length_filter_le (fun i => !(fun _ : Nat => false) i) (List.range ops.size)
            simpa using this
        unfold Region.schedule
        split
        · exact go _ _
        · exact go _ _
      · cases hf
    · cases hf
  · cases hf
end
end Go.Ae
end

section
/-
  AE: functions without a Go body.
-/
namespace Go.Ae
section
variable {P : Program}

theorem extern_ok {f : FuncId} {fn : Func} {e : Array Value → Sem Value} (hf : P.funcs[f]? = some fn) (hname : (fn.name == "runtime.NumGoroutine") = false) (hb : fn.body.isNone = true) (hn : Extern.findNext fn = none) (he : Extern.find fn = some e)
    {vs : List Value} {h : H} {v : Value} (hrun : ∀ (ρ : Ren) (w : World) (vs' : Array Value), VsRel ρ vs vs'.toList → ∃ v', (e vs').run P w = .ok v' w ∧ VRel ρ v v') : CallOk P f vs h v h := by
  intro F n ρ w vs' K hF hr hv hK
  rw [run_callFunc_extern hf hname hb hn he]
  obtain ⟨v', h1, h2⟩ := hrun ρ w vs' hv
  rw [h1]
  exact hK ρ w v' hr (Ext.refl hr) h2

noncomputable def sIndexByte (_ : Rec) (vs : List Value) (h : H) : Option (Value × H) :=
  match vs with
  | [.string s, .int .u8 c] => some (.int .i64 (Lib.indexByte s.data.toList c.toNat.toUInt8), h)
  | _ => none

noncomputable def sCount (_ : Rec) (vs : List Value) (h : H) : Option (Value × H) :=
  match vs with
  | [.string s, .int .u8 c] => some (.int .i64 (Lib.countByte s.data.toList c.toNat.toUInt8 : Nat), h)
  | _ => none

noncomputable def sNoEscape (_ : Rec) (vs : List Value) (h : H) : Option (Value × H) :=
  match vs with
  | [x] => some (x, h)
  | _ => none

theorem sIndexByte_ok {f : FuncId} {fn : Func} (hf : P.funcs[f]? = some fn) (hname : (fn.name == "runtime.NumGoroutine") = false) (hb : fn.body.isNone = true) (hn : Extern.findNext fn = none) (he : Extern.find fn = some Extern.BytealgIndexByte.indexByte)
    {R : Rec} {vs : List Value} {h h' : H} {v : Value} (hs : sIndexByte R vs h = some (v, h')) : CallOk P f vs h v h' := by
  unfold sIndexByte at hs
  split at hs
  · rename_i s c
    cases hs
    refine extern_ok hf hname hb hn he fun ρ w vs' hv => ⟨_, ?_, .int _ _⟩
    have : vs' = #[.string s, .int .u8 c] := by
      obtain ⟨l⟩ := vs'
      have hv : VsRel ρ [.string s, .int .u8 c] l := hv
      cases hv with
      | cons _ _ _ _ h1 h2 =>
        cases h1
        cases h2 with
        | cons _ _ _ _ h3 h4 =>
          cases h3; cases h4; rfl
    rw [this]
    exact Lib.run_indexByteString s c w
  · cases hs

theorem sCount_ok {f : FuncId} {fn : Func} (hf : P.funcs[f]? = some fn) (hname : (fn.name == "runtime.NumGoroutine") = false) (hb : fn.body.isNone = true) (hn : Extern.findNext fn = none) (he : Extern.find fn = some Extern.BytealgCount.count)
    {R : Rec} {vs : List Value} {h h' : H} {v : Value} (hs : sCount R vs h = some (v, h')) : CallOk P f vs h v h' := by
  unfold sCount at hs
  split at hs
  · rename_i s c
    cases hs
    refine extern_ok hf hname hb hn he fun ρ w vs' hv => ⟨_, ?_, .int _ _⟩
    have : vs' = #[.string s, .int .u8 c] := by
      obtain ⟨l⟩ := vs'
      have hv : VsRel ρ [.string s, .int .u8 c] l := hv
      cases hv with
      | cons _ _ _ _ h1 h2 =>
        cases h1
        cases h2 with
        | cons _ _ _ _ h3 h4 =>
          cases h3; cases h4; rfl
    rw [this]
    exact Lib.run_countString s c w
  · cases hs

theorem sNoEscape_ok {f : FuncId} {fn : Func} (hf : P.funcs[f]? = some fn) (hname : (fn.name == "runtime.NumGoroutine") = false) (hb : fn.body.isNone = true) (hn : Extern.findNext fn = none) (he : Extern.find fn = some Extern.AbiNoEscape.same)
    {R : Rec} {vs : List Value} {h h' : H} {v : Value} (hs : sNoEscape R vs h = some (v, h')) : CallOk P f vs h v h' := by
  unfold sNoEscape at hs
  split at hs
  · rename_i x
    cases hs
    refine extern_ok hf hname hb hn he fun ρ w vs' hv => ?_
    cases hvv : vs'.toList with
    | nil => rw [hvv] at hv; cases hv
    | cons x' rest =>
      rw [hvv] at hv
      cases hv with
      | cons _ _ _ _ h1 h2 =>
        cases h2
        have : vs' = #[x'] := Array.toList_inj.1 (by simpa using hvv)
        exact ⟨x', by rw [this]; rfl, h1⟩
  · cases hs
end
end Go.Ae
end

section
/-
  AE: what stays apart; open regions by an invariant; ranging over a map.
-/
namespace Go.Ae
open Go.ChangeMaps (setBlock)
section
variable {P : Program}

/-- a region whose order is open, by an invariant of one's own -/
theorem any_inv {F : Fence} {n : Nat} {Q : Exit → Act → World → Prop} {ops : Array Oper} (I : (Nat → Bool) → Act → World → Prop) (md : Region.Mode) (hord : orderedB md ops = true)
    (step : ∀ D a w i, I D a w → i < ops.size → D i = false → Ready ops (fun j => D j = true) i → ∀ K : Act → World → Prop, (∀ a' w', I (addD D i) a' w' → K a' w') → wpOpIn F n P ops Q i K a w)
    (fin : ∀ D a w, (∀ i, i < ops.size → D i = true) → I D a w → Q .normal a w) :
    ∀ (fuel : Nat) (listed : Array Bool) (D : Nat → Bool) (a : Act) (w : World), listed.size = ops.size → (∀ i, listed.getD i false = D i ∨ ops.size ≤ i) → left ops.size D ≤ fuel → I D a w → wpAnyIn F n P md ops Q fuel listed a w := by
  have get : ∀ (listed : Array Bool) (D : Nat → Bool), (∀ i, listed.getD i false = D i ∨ ops.size ≤ i) → ∀ i, i < ops.size → listed.getD i false = D i := fun listed D h i hi => by
    rcases h i with h | h
    · exact h
    · omega
  have noready : ∀ (listed : Array Bool) (D : Nat → Bool), listed.size = ops.size → (∀ i, listed.getD i false = D i ∨ ops.size ≤ i) → Region.ready md ops listed = [] → ∀ i, i < ops.size → D i = true := by
    intro listed D hsz hD hrd
    refine Classical.byContradiction fun hne => ?_
    obtain ⟨i, o, ho, hni, hall⟩ := orderedB_ok hord (fun i => listed.getD i false = true) (fun h => hne fun i hi => by rw [← get listed D hD i hi]; exact h i hi)
    have hi : i < ops.size := (Array.getElem?_eq_some_iff.1 ho).1
    have : i ∈ Region.ready md ops listed := mem_ready.2 ⟨by
      have : listed.getD i false = false := by simpa using hni
      simpa [Array.getD_eq_getD_getElem?, hsz, hi] using this, o, ho, hall⟩
    rw [hrd] at this; cases this
  intro fuel
  induction fuel with
  | zero =>
    intro listed D a w hsz hD hl hI
    have hall := left_zero (N := ops.size) (D := D) (by omega)
    refine ⟨?_, fin D a w hall hI⟩
    cases hrd : Region.ready md ops listed with
    | nil => rfl
    | cons x xs =>
      exfalso
      have hx : x ∈ Region.ready md ops listed := by rw [hrd]; simp
      obtain ⟨h3, o, ho, _⟩ := mem_ready.1 hx
      have hi : x < ops.size := (Array.getElem?_eq_some_iff.1 ho).1
      have h4 := get listed D hD x hi
      rw [hall x hi] at h4
      simp [Array.getD_eq_getD_getElem?, hsz, hi] at h3 h4
      rw [h3] at h4; cases h4
  | succ fuel ih =>
    intro listed D a w hsz hD hl hI
    refine ⟨fun hrd => fin D a w (noready listed D hsz hD hrd) hI, fun i hi => ?_⟩
    obtain ⟨h3, o, ho, hall⟩ := mem_ready.1 hi
    have hlt : i < ops.size := (Array.getElem?_eq_some_iff.1 ho).1
    have hDi : D i = false := by
      rw [← get listed D hD i hlt]
      simpa [Array.getD_eq_getD_getElem?, hsz, hlt] using h3
    have hready : Ready ops (fun i => D i = true) i := by
      intro o' ho' e he hb
      rw [ho] at ho'; cases ho'
      have h4 := hall e he (binds_any md e hb)
      have h5 : e.on < ops.size := by
        rcases Nat.lt_or_ge e.on listed.size with h | h
        · omega
        · simp [Array.getD_eq_getD_getElem?, Array.getElem?_eq_none h] at h4
      show D e.on = true
      rw [← get listed D hD _ h5]; exact h4
    refine step D a w i hI hlt hDi hready _ fun a' w' hI' => ?_
    refine ih (listed.setIfInBounds i true) (addD D i) a' w' (by simp [hsz]) (fun j => ?_) (by have := left_add hlt hDi; omega) hI'
    by_cases hj : j = i
    · subst hj
      left
      rw [addD_same]
      simp [Array.getD_eq_getD_getElem?, hsz, hlt]
    · rw [addD_ne hj, getD_set_ne false (Ne.symm hj)]
      exact hD j

theorem region_inv {F : Fence} {n : Nat} {Q : Exit → Act → World → Prop} {ops : Array Oper} {id : Nat} {a : Act} {w : World} (I : (Nat → Bool) → Act → World → Prop) (hord : ∀ md, orderedB md ops = true)
    (h0 : I (fun _ => false) a { w with drawn := w.drawn + 1 })
    (step : ∀ D a w i, I D a w → i < ops.size → D i = false → Ready ops (fun j => D j = true) i → ∀ K : Act → World → Prop, (∀ a' w', I (addD D i) a' w' → K a' w') → wpOpIn F n P ops Q i K a w)
    (fin : ∀ D a w, (∀ i, i < ops.size → D i = true) → I D a w → Q .normal a w) : (Code.region id ops true).wpIn F n P Q a w := by
  refine wpIn_region_draw fun t => ?_
  have go : ∀ md t, wpOpsIn F n P ops Q (Region.linearise md ops t) a { w with drawn := w.drawn + 1 } := fun md t => by
    refine wpAnyIn_sound ops.size t _ a _ ?_
    refine any_inv I md (hord md) step fin ops.size _ (fun _ => false) a _ (by simp) (fun i => ?_) ?_ h0
    · rcases Nat.lt_or_ge i ops.size with h | h
      · left; simp [Array.getD_eq_getD_getElem?, h]
      · exact .inr h
    · unfold left
      have := List.length_filter_le (fun i => !(fun _ : Nat => false) i) (List.range ops.size)
      simpa using this
  unfold Region.schedule
  split
  · exact go _ _
  · exact go _ _

/-- an object of which nothing is known, below the floor -/
theorem Rel.ghost {ρ : Ren} {h : H} {w : World} (hr : Rel P ρ h w) {g : Nat} (hρ : ρ g = none) (hlt : g < h.next) (O : Obj) :
    Rel P (ρ.put g ⟨w.heap.size, 0, 0, 0⟩) { h with tr := h.tr.set g .ghost } (w.alloc O) := by
  have hle : ρ.le (ρ.put g ⟨w.heap.size, 0, 0, 0⟩) := Ren.le_put hρ
  have hget : ∀ x, (h.tr.set g .ghost).get x = if x = g then some .ghost else h.tr.get x := fun x => Tr.get_set _ _ _ _
  have old : ∀ x ox, x ≠ g → (h.tr.set g .ghost).get x = some ox → h.tr.get x = some ox := fun x ox hx e => by rw [hget, if_neg hx] at e; exact e
  have blk : ∀ z oz rz, z ≠ g → (h.tr.set g .ghost).get z = some oz → (ρ.put g ⟨w.heap.size, 0, 0, 0⟩) z = some rz → rz.blk < w.heap.size := fun z oz rz hz e q => by
    obtain ⟨r2, p1, obj, p2, _⟩ := hr.dom z oz (old z oz hz e)
    rw [Ren.put_ne hz, p1] at q; cases q
    exact (Array.getElem?_eq_some_iff.1 p2).1
  constructor
  · intro x ox e
    by_cases hb : x = g
    · subst hb
      have e : (h.tr.set x .ghost).get x = some ox := e
      rw [hget, if_pos rfl] at e; cases e
      exact ⟨_, Ren.put_same _ _ _, O, heap_alloc_new w O, .ghost⟩
    · obtain ⟨rx, q1, obj, q2, q3⟩ := hr.dom x ox (old x ox hb e)
      exact ⟨rx, hle _ _ q1, obj, by rw [heap_alloc_old w O (Array.getElem?_eq_some_iff.1 q2).1]; exact q2, q3.mono hle⟩
  · intro x y ox oy rx ry ex ey qx qy heq
    by_cases hxb : x = g
    · by_cases hyb : y = g
      · rw [hxb, hyb]
      · exfalso
        have := blk y oy ry hyb ey qy
        subst hxb
        rw [Ren.put_same] at qx; cases qx
        simp only at heq; omega
    · by_cases hyb : y = g
      · exfalso
        have := blk x ox rx hxb ex qx
        subst hyb
        rw [Ren.put_same] at qy; cases qy
        simp only at heq; omega
      · rw [Ren.put_ne hxb] at qx
        rw [Ren.put_ne hyb] at qy
        exact hr.inj x y ox oy rx ry (old x ox hxb ex) (old y oy hyb ey) qx qy heq
  · intro x rx e
    by_cases hb : x = g
    · subst hb; exact hlt
    · rw [Ren.put_ne hb] at e; exact hr.fresh x rx e
  · intro x ox e
    by_cases hb : x = g
    · subst hb; exact hlt
    · exact hr.dead x ox (old x ox hb e)
  · intro x hx; exact hle _ _ (hr.glob x hx)
  · exact hr.fl
  · exact hr.gfl

/-- such an object may become whatever it likes -/
theorem Rel.ghost_upd {ρ : Ren} {h : H} {w w' : World} (hr : Rel P ρ h w) {g : Nat} {rg : RB} (hg : h.tr.get g = some .ghost) (hρ : ρ g = some rg) (hlt : rg.blk < w'.heap.size) (hk : ∀ c, c < w.heap.size → c ≠ rg.blk → w'.heap[c]? = w.heap[c]?) : Rel P ρ h w' where
  dom := fun b o e => by
    obtain ⟨r, q1, obj, q2, q3⟩ := hr.dom b o e
    by_cases hb : r.blk = rg.blk
    · have := hr.inj b g o _ r rg e hg q1 hρ hb
      subst this
      rw [hg] at e; cases e
      have hlt2 : r.blk < w'.heap.size := by rw [hb]; exact hlt
      exact ⟨r, q1, _, Array.getElem?_eq_getElem hlt2, .ghost⟩
    · exact ⟨r, q1, obj, by rw [hk _ (Array.getElem?_eq_some_iff.1 q2).1 hb]; exact q2, q3⟩
  inj := hr.inj
  fresh := hr.fresh
  dead := hr.dead
  glob := hr.glob
  fl := hr.fl
  gfl := hr.gfl

/-- nothing writes it unawares -/
theorem ghost_kept {ρ ρ' : Ren} {h h' : H} {w w' : World} (hr : Rel P ρ h w) {g : Nat} {rg : RB} (hg : h.tr.get g = some .ghost) (hρ : ρ g = some rg) (hlow : g < h.floor) (hx : Ext ρ h w ρ' h' w') : w'.heap[rg.blk]? = w.heap[rg.blk]? := by
  obtain ⟨r, q1, obj, q2, _⟩ := hr.dom g _ hg
  rw [hρ] at q1; cases q1
  refine hx.frame _ (Array.getElem?_eq_some_iff.1 q2).1 fun b o r2 e hfl q heq => ?_
  have := hr.inj b g o _ r2 rg e hg q hρ heq
  omega
end
end Go.Ae
end

section
/-
  AE: a function that makes a map anew, entry by entry: parts.
-/
namespace Go.Ae
open Go.ChangeMaps (setBlock)
section
variable {P : Program}

theorem call_by_body {f : FuncId} {fn : Func} {c : Code} (hfn : P.funcs[f]? = some fn) (hc : fn.body = some c) (hname : (fn.name == "runtime.NumGoroutine") = false) {F : Fence} (hF : FOk F) {n : Nat} {K : Value → World → Prop} {vs' : Array Value} {w : World}
    (h : ∀ G, FOk G → G.round = none → c.wpIn G (n - 1) P (bodyPostM G (n - 1) P fn (fun e w'' => ∃ v, e = .returned v ∧ K v w'')) { tmps := vs' ++ Array.replicate (fn.ntmps - vs'.size) undef, defers := [] } w) : NextOk F n P K ((callFunc f vs').run P w) := by
  have hrun : (callFunc f vs').run P w = .ok (.enter f vs') w := by
    have hprog : (program : Sem Program).run P w = .ok P w := rfl
    simp only [callFunc, Sem.run_bind, hprog, Result.andThen_ok, hfn, hname, hc]
    simp
  rw [hrun]
  show CallsIn F (n - 1) P f vs' w _
  have hnr : ∀ (G : Fence), FOk G → G.round = none → CallsIn G (n - 1) P f vs' w fun e w'' => ∃ v, e = .returned v ∧ K v w'' := fun G hG hround =>
    callsIn_of_wp_marks hfn hc (hG.fn f) (h G hG hround) hround
  cases hro : F.round with
  | none => exact hnr F hF hro
  | some l =>
    have hF2 : FOk { F with round := none } := ⟨hF.fn, hF.depth⟩
    have h2 := CallsIn.inRound l (hnr { F with round := none } hF2 rfl)
    have e : ({ F with round := none } : Fence).inRound l = F := by
      cases F; simp [Fence.inRound] at hro ⊢; exact hro.symm
    rw [e] at h2; exact h2

theorem comp_set {X : Ctx} {ops : Array Oper} {o : Oper} {d : Tmp} {f : OpF} (h : compOper X ops o = .set d f) : o.guard = none ∧ o.dst = some d ∧ opF X o = f := by
  unfold compOper at h
  split at h
  · split at h
    · cases h; exact ⟨‹_›, ‹_›, rfl⟩
    · cases h
  · split at h <;> cases h

theorem comp_eff {X : Ctx} {ops : Array Oper} {o : Oper} {f : OpF} (h : compOper X ops o = .eff f) (hg : o.guard = none) : o.dst = none ∧ opF X o = f := by
  unfold compOper at h
  rw [hg] at h
  simp only at h
  split at h
  · cases h
  · cases h; exact ⟨‹_›, rfl⟩

theorem aops_nil (R : Rec) (tm : Tr Value) (h : H) : aops R [] tm h = some (tm, h) := rfl
theorem aoper_set {R : Rec} {d : Tmp} {f : OpF} {tm : Tr Value} {h : H} {v : Value} {h' : H} (e : f R tm h = some (v, h')) : aoper R (.set d f) tm h = some (tm.set d v, h') := by
  unfold aoper; simp only [e]
theorem aoper_eff {R : Rec} {f : OpF} {tm : Tr Value} {h : H} {v : Value} {h' : H} (e : f R tm h = some (v, h')) : aoper R (.eff f) tm h = some (tm, h') := by
  unfold aoper; simp only [e]

theorem aops_append {R : Rec} : ∀ (l1 l2 : List AOper) (tm : Tr Value) (h : H) (r : Tr Value × H), aops R (l1 ++ l2) tm h = some r ↔ ∃ p, aops R l1 tm h = some p ∧ aops R l2 p.1 p.2 = some r
  | [], l2, tm, h, r => by simp [aops_nil]
  | o :: l1, l2, tm, h, r => by
    rw [List.cons_append, aops_cons]
    constructor
    · rintro ⟨t1, h1, e1, e2⟩
      obtain ⟨p, e3, e4⟩ := (aops_append l1 l2 t1 h1 r).1 e2
      exact ⟨p, (aops_cons _ _ _ _ _ _).2 ⟨t1, h1, e1, e3⟩, e4⟩
    · rintro ⟨p, e1, e2⟩
      obtain ⟨t1, h1, e3, e4⟩ := (aops_cons _ _ _ _ _ _).1 e1
      exact ⟨t1, h1, e3, (aops_append l1 l2 t1 h1 r).2 ⟨p, e4, e2⟩⟩

/-- one operation without a guard, met in some order -/
theorem opSet_ok {X : Ctx} (cx : CtxOk P X) {R : Rec} (rok : RecOk P R) {F : Fence} (hF : FOk F) {n : Nat} {Q : Exit → Act → World → Prop} {ops : Array Oper} {i : Nat} {d : Tmp} {f : OpF} {l : List AOper} (hl : compOps X ops = l) (hi : l[i]? = some (.set d f))
    {ρ : Ren} {h h' : H} {w : World} {tm : Tr Value} {a : Act} {v : Value} {N : Nat} (hok : ∀ o ∈ ops.toList, okOper P.globals.size N o = true) (hr : Rel P ρ h w) (ht : TmRel ρ tm a.tmps) (hf : f R tm h = some (v, h'))
    {K : Act → World → Prop} (hK : ∀ ρ' w' v', Rel P ρ' h' w' → Ext ρ h w ρ' h' w' → VRel ρ' v v' → K (a.put (some d) v') w') : wpOpIn F n P ops Q i K a w := by
  have hat : ops.toList[i]?.map (compOper X ops) = some (.set d f) := by rw [← hi, ← hl, compOps, List.getElem?_map]
  obtain ⟨o, ho, hc⟩ := Option.map_eq_some_iff.1 hat
  have ho2 : ops[i]? = some o := by rw [← Array.getElem?_toList]; exact ho
  obtain ⟨h1, h2, h3⟩ := comp_set hc
  unfold wpOpIn
  rw [ho2]
  simp only
  have hw : Region.wanted o (yielded ops a.tmps) = true := by unfold Region.wanted; rw [h1]
  rw [if_pos hw]
  refine oper_ok cx rok hF n hr ht (okOper_opds (hok o (List.mem_of_getElem? ho))) (by rw [h3]; exact hf) fun ρ' w' v' k1 k2 k3 => ?_
  rw [h2]; exact hK ρ' w' v' k1 k2 k3

theorem opEff_ok {X : Ctx} (cx : CtxOk P X) {R : Rec} (rok : RecOk P R) {F : Fence} (hF : FOk F) {n : Nat} {Q : Exit → Act → World → Prop} {ops : Array Oper} {i : Nat} {f : OpF} {l : List AOper} (hl : compOps X ops = l) (hi : l[i]? = some (.eff f)) (hg : ∀ o ∈ ops.toList, o.guard = none)
    {ρ : Ren} {h h' : H} {w : World} {tm : Tr Value} {a : Act} {v : Value} {N : Nat} (hok : ∀ o ∈ ops.toList, okOper P.globals.size N o = true) (hr : Rel P ρ h w) (ht : TmRel ρ tm a.tmps) (hf : f R tm h = some (v, h'))
    {K : Act → World → Prop} (hK : ∀ ρ' w', Rel P ρ' h' w' → Ext ρ h w ρ' h' w' → K a w') : wpOpIn F n P ops Q i K a w := by
  have hat : ops.toList[i]?.map (compOper X ops) = some (.eff f) := by rw [← hi, ← hl, compOps, List.getElem?_map]
  obtain ⟨o, ho, hc⟩ := Option.map_eq_some_iff.1 hat
  have ho2 : ops[i]? = some o := by rw [← Array.getElem?_toList]; exact ho
  have h1 := hg o (List.mem_of_getElem? ho)
  obtain ⟨h2, h3⟩ := comp_eff hc h1
  unfold wpOpIn
  rw [ho2]
  simp only
  have hw : Region.wanted o (yielded ops a.tmps) = true := by unfold Region.wanted; rw [h1]
  rw [if_pos hw]
  refine oper_ok cx rok hF n hr ht (okOper_opds (hok o (List.mem_of_getElem? ho))) (by rw [h3]; exact hf) fun ρ' w' v' k1 k2 k3 => ?_
  rw [h2]; exact hK ρ' w' k1 k2

/-- one operation after another -/
theorem wpOpsIn_cons' {F : Fence} {n : Nat} {ops : Array Oper} {Q : Exit → Act → World → Prop} {i : Nat} {rest : List Nat} {a : Act} {w : World} (h : wpOpIn F n P ops Q i (wpOpsIn F n P ops Q rest) a w) : wpOpsIn F n P ops Q (i :: rest) a w := by
  rw [wpOpsIn_cons]; exact h

theorem pairwise_all {α : Type} {r : α → α → Prop} (hs : ∀ a b, r a b → r b a) : ∀ {l : List α}, l.Pairwise r → ∀ {a b : α}, a ∈ l → b ∈ l → a ≠ b → r a b
  | [], _, _, _, h, _, _ => by cases h
  | x :: l, hp, a, b, ha, hb, hne => by
    obtain ⟨h1, h2⟩ := List.pairwise_cons.1 hp
    rcases List.mem_cons.1 ha with e1 | ha'
    · rcases List.mem_cons.1 hb with e2 | hb'
      · exact absurd (e1.trans e2.symm) hne
      · rw [e1]; exact h1 b hb'
    · rcases List.mem_cons.1 hb with e2 | hb'
      · rw [e2]; exact hs _ _ (h1 a ha')
      · exact pairwise_all hs h2 ha' hb' hne

theorem keysApart_spec {c : Cmp} : ∀ {es : List ME}, keysApart c es = true → es.Pairwise (fun x y => cmpV c x.key y.key = some false) ∧ ∀ x ∈ es, cmpV c x.key x.key = some true
  | [], _ => ⟨.nil, by simp⟩
  | e :: es, h => by
    unfold keysApart at h
    rw [Bool.and_eq_true] at h
    obtain ⟨h1, h2⟩ := h
    obtain ⟨i1, i2⟩ := keysApart_spec h2
    split at h1
    · rename_i hk
      obtain ⟨k1, k2⟩ := findK_spec hk
      refine ⟨List.pairwise_cons.2 ⟨fun x hx => k2 x hx, i1⟩, fun x hx => ?_⟩
      rcases List.mem_cons.1 hx with rfl | hx
      · exact k1
      · exact i2 x hx
    · cases h1

theorem perm_map_lift {α β : Type} {f : α → β} {l' : List β} {m : List β} (hp : List.Perm m l') : ∀ {l : List α}, l.map f = m → ∃ l2, List.Perm l l2 ∧ l2.map f = l' := by
  induction hp with
  | nil => intro l h; rw [List.map_eq_nil_iff] at h; subst h; exact ⟨[], .refl _, rfl⟩
  | cons x _ ih =>
    intro l h
    cases l with
    | nil => cases h
    | cons a l =>
      simp at h
      obtain ⟨l2, h1, h2⟩ := ih h.2
      exact ⟨a :: l2, h1.cons a, by simp [h.1, h2]⟩
  | swap x y l0 =>
    intro l h
    cases l with
    | nil => cases h
    | cons a l =>
      cases l with
      | nil => simp at h
      | cons b l =>
        simp at h
        exact ⟨b :: a :: l, .swap _ _ _, by simp [h.1, h.2.1, h.2.2]⟩
  | trans _ _ ih1 ih2 =>
    intro l h
    obtain ⟨l2, h1, h2⟩ := ih1 h
    obtain ⟨l3, h3, h4⟩ := ih2 h2
    exact ⟨l3, h1.trans h3, h4⟩
end
end Go.Ae
end

section
/-
  AE: a function that makes a map anew, entry by entry: its code, what is its own.
-/
namespace Go.Ae
open Go.ChangeMaps (setBlock)

noncomputable def zP : List Value := [.int .i64 0, .int .i64 0, .map none]
noncomputable def cl0 (tp : TypeId) : List AOper := [.set 2 (fun _ tm h => oBox tm h tp (.tmp 0)), .set 4 (fun _ _ h => newV h (.cells zP tp 0 true 0) ptrTo)]
noncomputable def cl1 (tp : TypeId) : List AOper := [.set 8 (fun _ tm h => oFaddr tm h 0 (.tmp 2)), .set 9 (fun _ tm h => oLoad tm h none (.tmp 8)), .set 10 (fun _ tm h => oFaddr tm h 1 (.tmp 2)), .set 11 (fun _ tm h => oLoad tm h none (.tmp 10)),
  .set 12 (fun _ _ h => newV h (.map []) (fun a => .map (some a.block))), .set 13 (fun _ tm h => oBuild tm h zP.toArray [(0, 1, .tmp 9), (1, 1, .tmp 11), (2, 1, .tmp 12)]), .set 5 (fun _ _ h => newV h (.cells zP tp 0 true 0) ptrTo), .eff (fun _ tm h => oStore tm h 3 (.tmp 5) (.tmp 13))]
noncomputable def cl5 (c : Cmp) (nk ne : Nat) : List AOper := [.set 22 (fun _ tm h => oFaddr tm h 2 (.tmp 5)), .set 23 (fun _ tm h => oLoad tm h none (.tmp 22)), .set 24 (fun _ tm h => oLoad tm h (some nk) (.tmp 6)), .set 25 (fun _ tm h => retV (ev tm (.tmp 1)) h),
  .set 26 (fun _ tm h => oLoad tm h (some nk) (.tmp 6)), .set 27 (fun _ tm h => oLoad tm h (some ne) (.tmp 7)), .set 28 (fun R tm h => oCallV R tm h (.tmp 25) [.tmp 26, .tmp 27]), .eff (fun _ tm h => oMapUpd tm h c (.tmp 23) (.tmp 24) (.tmp 28))]

/-- which operation of the open region waits for which -/
def depB (r : Array Oper) (i j : Nat) : Bool := match r[i]? with | some o => o.after.toList.any fun e => Nat.beq e.on j && Region.binds .any e | none => false

structure CellsCode (P : Program) (X : Ctx) (c : Cmp) (nk ne : Nat) (fn : Func) where
  i0 : Nat
  i1 : Nat
  i2 : Nat
  i3 : Nat
  i4 : Nat
  i5 : Nat
  i6 : Nat
  b0 : Nat
  b1 : Nat
  r0 : Array Oper
  r1 : Array Oper
  r2 : Array Oper
  r3 : Array Oper
  r4 : Array Oper
  r5 : Array Oper
  r6 : Array Oper
  o2 : Oper
  o3 : Oper
  o4 : Oper
  tp : TypeId
  tM : TypeId
  tk : TypeId
  te : TypeId
  kt : TypeId
  et : TypeId
  ti : TI
  zK : List Value
  zE : List Value
  body : fn.body = some (.seq (.region i0 r0 false) (.seq (.region i1 r1 false) (.seq (.seq (.region i2 r2 false) (.block b0 (.loop (.seq (.region i3 r3 false) (.seq (.cond (.tmp 18) .skip (.exit b0)) (.block b1 (.seq (.region i4 r4 false) (.region i5 r5 true)))))))) (.seq (.region i6 r6 false) .ret))))
  name : (fn.name == "runtime.NumGoroutine") = false
  ntmps : fn.ntmps = 30
  res : fn.results.toList = [.cell 4 tp]
  rty : X.T tp = some ti
  ragg : aggN ti = some 3
  g0 : ∀ o ∈ r0.toList, o.guard = none
  g1 : ∀ o ∈ r1.toList, o.guard = none
  c0 : compOps X r0 = cl0 tp
  c1 : compOps X r1 = cl1 tp
  s2 : r2.size = 3
  c20 : (compOps X r2)[0]? = some (.set 14 (fun _ tm h => oFaddr tm h 2 (.tmp 2)))
  c21 : (compOps X r2)[1]? = some (.set 15 (fun _ tm h => oLoad tm h none (.tmp 14)))
  a2 : r2[2]? = some o2
  p2 : o2.op = .range tM (.tmp 15)
  d2 : o2.dst = some 16
  g2 : o2.guard = none
  mapTy : P.underlying tM = some (.map kt et)
  s3 : r3.size = 2
  a3 : r3[0]? = some o3
  p3 : o3.op = .next (.tmp 16) false
  d3 : o3.dst = some 17
  g3 : o3.guard = none
  c31 : (compOps X r3)[1]? = some (.set 18 (fun _ tm h => oExtract tm h (.tmp 17) 0))
  s4 : r4.size = 7
  a4 : r4[0]? = some o4
  p4 : o4.op = .entry (.tmp 16)
  d4 : o4.dst = some 19
  g4 : o4.guard = none
  g4' : ∀ o ∈ r4.toList, o.guard = none
  c41 : (compOps X r4)[1]? = some (.set 20 (fun _ tm h => oExtract tm h (.tmp 19) 0))
  c42 : (compOps X r4)[2]? = some (.set 21 (fun _ tm h => oExtract tm h (.tmp 19) 1))
  c43 : (compOps X r4)[3]? = some (.set 6 (fun _ _ h => newV h (.cells zK tk 0 true 0) ptrTo))
  c44 : (compOps X r4)[4]? = some (.set 7 (fun _ _ h => newV h (.cells zE te 0 true 0) ptrTo))
  c45 : (compOps X r4)[5]? = some (.eff (fun _ tm h => oStore tm h nk (.tmp 6) (.tmp 20)))
  c46 : (compOps X r4)[6]? = some (.eff (fun _ tm h => oStore tm h ne (.tmp 7) (.tmp 21)))
  zKl : zK.length = nk
  zEl : zE.length = ne
  c5 : compOps X r5 = cl5 c nk ne
  g5 : ∀ o ∈ r5.toList, o.guard = none
  o5 : Oper
  a5 : r5[3]? = some o5
  p5 : o5.op = .move (.tmp 1)
  d5 : o5.dst = some 25
  ord5 : ∀ md, orderedB md r5 = true
  dep5 : (depB r5 1 0 && depB r5 6 3 && depB r5 6 4 && depB r5 6 5 && depB r5 7 1 && depB r5 7 2 && depB r5 7 6) = true
  c6 : compOps X r6 = [.set 29 (fun _ tm h => oLoad tm h (some 3) (.tmp 5)), .eff (fun _ tm h => oStore tm h 3 (.tmp 4) (.tmp 29))]
  ok0 : ∀ o ∈ r0.toList, okOper P.globals.size 30 o = true
  ok1 : ∀ o ∈ r1.toList, okOper P.globals.size 30 o = true
  ok2 : ∀ o ∈ r2.toList, okOper P.globals.size 30 o = true
  ok3 : ∀ o ∈ r3.toList, okOper P.globals.size 30 o = true
  ok4 : ∀ o ∈ r4.toList, okOper P.globals.size 30 o = true
  ok5 : ∀ o ∈ r5.toList, okOper P.globals.size 30 o = true
  ok6 : ∀ o ∈ r6.toList, okOper P.globals.size 30 o = true

section
variable {P : Program}

theorem depB_ready {r : Array Oper} {i j : Nat} (h : depB r i j = true) {D : Nat → Prop} (hr : Ready r D i) : D j := by
  unfold depB at h
  split at h
  · rename_i o ho
    obtain ⟨e, he, hc⟩ := List.any_eq_true.1 h
    rw [Bool.and_eq_true] at hc
    have := hr o ho e (by simpa using he) hc.2
    rw [Nat.eq_of_beq_eq_true hc.1] at this
    exact this
  · cases h

/-- an operation whose run is told by hand -/
theorem hand_ok {F : Fence} (hF : FOk F) {n : Nat} {Q : Exit → Act → World → Prop} {ops : Array Oper} {i : Nat} {o : Oper} (ho : ops[i]? = some o) (hg : o.guard = none) (hnd : ∀ c, o.op ≠ .defer c) {a : Act} {w w' : World} {v : Value}
    (hrun : (execOp a.eval o).run P w = .ok (.value v) w') {K : Act → World → Prop} (hK : K (a.put o.dst v) w') : wpOpIn F n P ops Q i K a w := by
  unfold wpOpIn
  rw [ho]
  simp only
  have hw : Region.wanted o (yielded ops a.tmps) = true := by unfold Region.wanted; rw [hg]
  rw [if_pos hw]
  refine ⟨fun f _ => hF.fn f, ?_⟩
  rw [Oper.semAt_eq _ _ _ hnd, hrun]
  exact hK

theorem pre_facts (R : Rec) (tp : TypeId) (i j : IntKind) (a b : Int) (r : Nat) (fv : Value) :
    ∃ tm1 H1, aops R (cl0 tp ++ cl1 tp) (argsIn [.agg #[.int i a, .int j b, .map (some r)], fv] 0 .nil) ⟨.nil, mid, mid⟩ = some (tm1, H1) ∧ tm1.get 1 = some fv ∧ tm1.get 2 = some (.pointer (some ⟨mid, 0, none⟩)) ∧ tm1.get 4 = some (.pointer (some ⟨mid + 1, 0, none⟩)) ∧
      tm1.get 5 = some (.pointer (some ⟨mid + 3, 0, none⟩)) ∧ H1.tr.get mid = some (.cells [.int i a, .int j b, .map (some r)] tp 0 true 0) ∧ H1.tr.get (mid + 1) = some (.cells zP tp 0 true 0) ∧ H1.tr.get (mid + 2) = some (.map []) ∧
      H1.tr.get (mid + 3) = some (.cells [.int i a, .int j b, .map (some (mid + 2))] tp 0 true 0) ∧ H1.next = mid + 4 ∧ H1.floor = mid := by
  have e1 : (aops R (cl0 tp ++ cl1 tp) (argsIn [.agg #[.int i a, .int j b, .map (some r)], fv] 0 .nil) ⟨.nil, mid, mid⟩).map (fun p => p.1.get 1) = some (some fv) := by kernel_rfl
  have e2 : (aops R (cl0 tp ++ cl1 tp) (argsIn [.agg #[.int i a, .int j b, .map (some r)], fv] 0 .nil) ⟨.nil, mid, mid⟩).map (fun p => p.1.get 2) = some (some (.pointer (some ⟨mid, 0, none⟩))) := by kernel_rfl
  have e3 : (aops R (cl0 tp ++ cl1 tp) (argsIn [.agg #[.int i a, .int j b, .map (some r)], fv] 0 .nil) ⟨.nil, mid, mid⟩).map (fun p => p.1.get 4) = some (some (.pointer (some ⟨mid + 1, 0, none⟩))) := by kernel_rfl
  have e4 : (aops R (cl0 tp ++ cl1 tp) (argsIn [.agg #[.int i a, .int j b, .map (some r)], fv] 0 .nil) ⟨.nil, mid, mid⟩).map (fun p => p.1.get 5) = some (some (.pointer (some ⟨mid + 3, 0, none⟩))) := by kernel_rfl
  have e5 : (aops R (cl0 tp ++ cl1 tp) (argsIn [.agg #[.int i a, .int j b, .map (some r)], fv] 0 .nil) ⟨.nil, mid, mid⟩).map (fun p => p.2.tr.get mid) = some (some (.cells [.int i a, .int j b, .map (some r)] tp 0 true 0)) := by kernel_rfl
  have e6 : (aops R (cl0 tp ++ cl1 tp) (argsIn [.agg #[.int i a, .int j b, .map (some r)], fv] 0 .nil) ⟨.nil, mid, mid⟩).map (fun p => p.2.tr.get (mid + 1)) = some (some (.cells zP tp 0 true 0)) := by kernel_rfl
  have e7 : (aops R (cl0 tp ++ cl1 tp) (argsIn [.agg #[.int i a, .int j b, .map (some r)], fv] 0 .nil) ⟨.nil, mid, mid⟩).map (fun p => p.2.tr.get (mid + 2)) = some (some (.map [])) := by kernel_rfl
  have e8 : (aops R (cl0 tp ++ cl1 tp) (argsIn [.agg #[.int i a, .int j b, .map (some r)], fv] 0 .nil) ⟨.nil, mid, mid⟩).map (fun p => p.2.tr.get (mid + 3)) = some (some (.cells [.int i a, .int j b, .map (some (mid + 2))] tp 0 true 0)) := by kernel_rfl
  have e9 : (aops R (cl0 tp ++ cl1 tp) (argsIn [.agg #[.int i a, .int j b, .map (some r)], fv] 0 .nil) ⟨.nil, mid, mid⟩).map (fun p => (p.2.next, p.2.floor)) = some (mid + 4, mid) := by kernel_rfl
  cases hx : aops R (cl0 tp ++ cl1 tp) (argsIn [.agg #[.int i a, .int j b, .map (some r)], fv] 0 .nil) ⟨.nil, mid, mid⟩ with
  | none => rw [hx] at e1; cases e1
  | some p =>
    rw [hx] at e1 e2 e3 e4 e5 e6 e7 e8 e9
    have g9 := Option.some.inj e9
    exact ⟨p.1, p.2, rfl, Option.some.inj e1, Option.some.inj e2, Option.some.inj e3, Option.some.inj e4, Option.some.inj e5, Option.some.inj e6, Option.some.inj e7, Option.some.inj e8, congrArg Prod.fst g9, congrArg Prod.snd g9⟩

/-- what is the function's own lies apart -/
structure Own (P : Program) (ρ : Ren) (w : World) (ρl : Ren) (Hl : H) (w' : World) : Prop where
  rel : Rel P ρl Hl w'
  le : ρ.le ρl
  own : ∀ x o, Hl.tr.get x = some o → mid - 1 ≤ x ∧ ∀ q, ρl x = some q → w.heap.size ≤ q.blk
  floor : Hl.floor = mid
  size : w.heap.size ≤ w'.heap.size
  keep : ∀ x, x < w.heap.size → w'.heap[x]? = w.heap[x]?
  os : w'.os = w.os
  output : w'.output = w.output
  tape : w'.tape = w.tape

theorem Own.step {ρ ρl ρ2 : Ren} {w w1 w2 : World} {Hl H2 : H} (o : Own P ρ w ρl Hl w1) (k1 : Rel P ρ2 H2 w2) (k2 : Ext ρl Hl w1 ρ2 H2 w2) : Own P ρ w ρ2 H2 w2 where
  rel := k1
  le := Ren.le_trans o.le k2.le
  own := fun x ob e => by
    have hfl := o.rel.fl
    have hf := o.floor
    by_cases hx : x < Hl.next
    · obtain ⟨o', e'⟩ := k2.live x ob hx e
      obtain ⟨h1, h2⟩ := o.own x o' e'
      exact ⟨h1, fun q hq => h2 q (by rw [← k2.old x hx]; exact hq)⟩
    · refine ⟨by omega, fun q hq => ?_⟩
      rcases k2.new x ob q (by omega) e hq with h1 | ⟨b0, o0, r0, h1, h2, h3, h4⟩
      · exact Nat.le_trans o.size h1
      · rw [← h4]; exact (o.own b0 o0 h1).2 r0 h3
  floor := k2.floor.trans o.floor
  size := Nat.le_trans o.size k2.size
  keep := fun x hx => by
    rw [← o.keep x hx]
    refine k2.frame x (Nat.lt_of_lt_of_le hx o.size) fun b ob r e _ q heq => ?_
    have := (o.own b ob e).2 r q
    omega
  os := k2.os.trans o.os
  output := k2.output.trans o.output
  tape := k2.tape.trans o.tape

/-- a world that keeps all that was there -/
theorem Own.kept {ρ ρl : Ren} {w w1 w2 : World} {Hl : H} (o : Own P ρ w ρl Hl w1) (hs : w1.heap.size ≤ w2.heap.size) (hk : ∀ c, c < w1.heap.size → w2.heap[c]? = w1.heap[c]?) (h1 : w2.os = w1.os) (h2 : w2.output = w1.output) (h3 : w2.tape = w1.tape) : Own P ρ w ρl Hl w2 where
  rel := o.rel.keep hk
  le := o.le
  own := o.own
  floor := o.floor
  size := Nat.le_trans o.size hs
  keep := fun x hx => (hk x (Nat.lt_of_lt_of_le hx o.size)).trans (o.keep x hx)
  os := h1.trans o.os
  output := h2.trans o.output
  tape := h3.trans o.tape

/-- entries, as they are read, and what becomes of them -/
theorem tri_of {ρ : Ren} {R : Rec} {fv : Value} {h : H} : ∀ {es : List ME} {l : List MapEntry} {n : Nat} {us : List ME}, EsRel ρ es l → eachEntry R fv h es n = some us →
    ∃ T : List (ME × MapEntry × ME), T.map (·.1) = es ∧ T.map (·.2.1) = l ∧ T.map (·.2.2) = us ∧ (∀ t ∈ T, ERel ρ t.1 t.2.1 ∧ flatV t.1.key = true ∧ flatV t.1.val = true ∧ flatV t.2.2.val = true ∧ t.2.2.key = t.1.key ∧ ∃ h2, callVal R fv [t.1.key, t.1.val] { h with floor := h.next } = some (t.2.2.val, h2)) ∧
      ∀ (k : Nat) u, us[k]? = some u → u.sid = n + k
  | _, _, n, us, .nil, e => by
    have e : some ([] : List ME) = some us := e
    cases e
    exact ⟨[], rfl, rfl, rfl, by simp, by simp⟩
  | _, _, n, us, .cons (e := x) (e' := x') (es := xs) (es' := xs') a b, e => by
    unfold eachEntry at e
    split at e
    · rename_i u h2 hc
      split at e
      · rename_i hf
        simp only [Bool.and_eq_true] at hf
        split at e
        · rename_i r hr
          cases e
          obtain ⟨T, t1, t2, t3, t4, t5⟩ := tri_of b hr
          refine ⟨(x, x', { key := x.key, val := u, sid := n }) :: T, by simp [t1], by simp [t2], by simp [t3], fun t ht => ?_, fun k u hk => ?_⟩
          · rcases List.mem_cons.1 ht with rfl | ht
            · exact ⟨a, hf.1.2, hf.2, hf.1.1, rfl, h2, hc⟩
            · exact t4 t ht
          · cases k with
            | zero => simp at hk; subst hk; rfl
            | succ k =>
              have := t5 k u (by simpa using hk)
              rw [this]; omega
        · cases e
      · cases e
    · cases e
end
end Go.Ae
end

section
/-
  AE: a function that makes a map anew, entry by entry: the round.
-/
namespace Go.Ae
open Go.ChangeMaps (setBlock)
section
variable {P : Program}

/-- what holds at the loop's head, and between its parts -/
structure LI (P : Program) (ρ : Ren) (w : World) (tp : TypeId) (i j : IntKind) (x y : Int) (fv f' : Value) (rg : RB) (a : Act) (w' : World) (ρl : Ren) (Hl : H) (tm : Tr Value) (acc : List ME) : Prop where
  own : Own P ρ w ρl Hl w'
  gt : Hl.tr.get (mid - 1) = some .ghost
  gρ : ρl (mid - 1) = some rg
  n4 : Hl.tr.get (mid + 1) = some (.cells zP tp 0 true 0)
  nm : Hl.tr.get (mid + 2) = some (.map acc)
  n5 : Hl.tr.get (mid + 3) = some (.cells [.int i x, .int j y, .map (some (mid + 2))] tp 0 true 0)
  nx : mid + 4 ≤ Hl.next
  tms : TmRel ρl tm a.tmps
  t1 : tm.get 1 = some fv
  t4 : tm.get 4 = some (.pointer (some ⟨mid + 1, 0, none⟩))
  t5 : tm.get 5 = some (.pointer (some ⟨mid + 3, 0, none⟩))
  t16 : tm.get 16 = some (.pointer (some ⟨mid - 1, 0, none⟩))
  f1 : a.tmps.getD 1 undef = f'
  size : a.tmps.size = 30
  defs : a.defers = []

theorem getD_put {a : Act} {d : Tmp} {v : Value} {t : Tmp} (h : t ≠ d) : (a.put (some d) v).tmps.getD t undef = a.tmps.getD t undef := by
  show (a.tmps.setIfInBounds d v).getD t undef = _
  simp [Array.getD_eq_getD_getElem?, Array.getElem?_setIfInBounds_ne (Ne.symm h)]

theorem getD_put_same {a : Act} {d : Tmp} {v : Value} (h : d < a.tmps.size) : (a.put (some d) v).tmps.getD d undef = v := by
  show (a.tmps.setIfInBounds d v).getD d undef = _
  simp [Array.getD_eq_getD_getElem?, h]

theorem tset {tm : Tr Value} {d t : Nat} {v : Value} (h : t ≠ d) : (tm.set d v).get t = tm.get t := by rw [Tr.get_set, if_neg h]
theorem tsetE {tm : Tr Value} (t d : Nat) {v : Value} (h : t ≠ d) : (tm.set d v).get t = tm.get t := tset h
theorem tset_same {tm : Tr Value} {d : Nat} {v : Value} : (tm.set d v).get d = some v := by rw [Tr.get_set, if_pos rfl]

variable {ρ : Ren} {w : World} {tp : TypeId} {i j : IntKind} {x y : Int} {fv f' : Value} {rg : RB} {a : Act} {w' : World} {ρl : Ren} {Hl : H} {tm : Tr Value} {acc : List ME}

/-- a temporary more -/
theorem LI.put (li : LI P ρ w tp i j x y fv f' rg a w' ρl Hl tm acc) {w2 : World} {ρ2 : Ren} {d : Nat} {v v' : Value} (hd : 16 < d) (hd2 : d < 30) (ho : Own P ρ w ρ2 Hl w2) (hle : ρl.le ρ2) (hv : VRel ρ2 v v') :
    LI P ρ w tp i j x y fv f' rg (a.put (some d) v') w2 ρ2 Hl (tm.set d v) acc where
  own := ho
  gt := li.gt
  gρ := hle _ _ li.gρ
  n4 := li.n4
  nm := li.nm
  n5 := li.n5
  nx := li.nx
  tms := (li.tms.mono hle).set (by rw [li.size]; exact hd2) hv
  t1 := by rw [tsetE 1 d (by omega)]; exact li.t1
  t4 := by rw [tsetE 4 d (by omega)]; exact li.t4
  t5 := by rw [tsetE 5 d (by omega)]; exact li.t5
  t16 := by rw [tsetE 16 d (by omega)]; exact li.t16
  f1 := by rw [getD_put (show 1 ≠ d by omega)]; exact li.f1
  size := by rw [put_size]; exact li.size
  defs := by rw [put_defers]; exact li.defs

theorem LI.t16v (li : LI P ρ w tp i j x y fv f' rg a w' ρl Hl tm acc) (hsh : rg.sh = 0) : a.tmps.getD 16 undef = .pointer (some ⟨rg.blk, 0, none⟩) := by
  have h := li.tms 16 _ li.t16
  generalize a.tmps.getD 16 undef = u at h
  cases h with
  | ptr _ a' ha =>
    have := ha.out (r := rg) li.gρ
    rw [this, hsh]
    rfl

/-- what lies in the iterator -/
theorem LI.it_step (li : LI P ρ w tp i j x y fv f' rg a w' ρl Hl tm acc) {ρ2 : Ren} {H2 : H} {w2 : World} (hx : Ext ρl Hl w' ρ2 H2 w2) : w2.heap[rg.blk]? = w'.heap[rg.blk]? :=
  ghost_kept li.own.rel li.gt li.gρ (by rw [li.own.floor]; show mid - 1 < mid; decide) hx

/-- the values of an entry, laid aside: the state within a round -/
structure RI (P : Program) (ρ : Ren) (w : World) (tp tk te : TypeId) (i j : IntKind) (x y : Int) (fv f' : Value) (rg : RB) (key val : Value) (n6 n7 : Nat) (a : Act) (w' : World) (ρl : Ren) (Hl : H) (tm : Tr Value) (acc : List ME) : Prop where
  li : LI P ρ w tp i j x y fv f' rg a w' ρl Hl tm acc
  g6 : Hl.tr.get n6 = some (.cells (asList key) tk 0 true 0)
  g7 : Hl.tr.get n7 = some (.cells (asList val) te 0 true 0)
  t6 : tm.get 6 = some (.pointer (some ⟨n6, 0, none⟩))
  t7 : tm.get 7 = some (.pointer (some ⟨n7, 0, none⟩))

variable {tk te : TypeId} {key val : Value} {n6 n7 : Nat}

theorem RI.put (ri : RI P ρ w tp tk te i j x y fv f' rg key val n6 n7 a w' ρl Hl tm acc) {w2 : World} {ρ2 : Ren} {d : Nat} {v v' : Value} (hd : 16 < d) (hd2 : d < 30) (ho : Own P ρ w ρ2 Hl w2) (hle : ρl.le ρ2) (hv : VRel ρ2 v v') :
    RI P ρ w tp tk te i j x y fv f' rg key val n6 n7 (a.put (some d) v') w2 ρ2 Hl (tm.set d v) acc :=
  ⟨ri.li.put hd hd2 ho hle hv, ri.g6, ri.g7, by rw [tsetE 6 d (by omega)]; exact ri.t6, by rw [tsetE 7 d (by omega)]; exact ri.t7⟩

theorem cut_all (l : List Value) (n : Nat) (h : l.length = n) : cut l 0 n = some l := by
  rw [cut_zero]
  exact (takeX_spec n l l).2 ⟨by omega, by rw [← h]; simp⟩

theorem layAt_all (l vs : List Value) (h : vs.length = l.length) : layAt l 0 vs = some vs := by
  rw [layAt_zero]
  induction vs generalizing l with
  | nil =>
    have : l = [] := List.length_eq_zero_iff.1 (by simpa using h.symm)
    subst this; rfl
  | cons v vs ih =>
    cases l with
    | nil => cases h
    | cons z l =>
      rw [layAt0_cons, ih l (by simpa using h)]; rfl

theorem load_agg {tm : Tr Value} {h : H} {t b n : Nat} {v : Value} {e fz g : Nat} {ex : Bool} (ht : tm.get t = some (.pointer (some ⟨b, 0, none⟩))) (hb : h.tr.get b = some (.cells (asList v) e fz ex g)) (hf : fitsIn n v = true) : oLoad tm h (some n) (.tmp t) = some (v, h) := by
  unfold fitsIn at hf
  simp only [Bool.and_eq_true] at hf
  have hl := Nat.eq_of_beq_eq_true hf.1.1
  unfold oLoad
  have : ev tm (.tmp t) = some (.pointer (some ⟨b, 0, none⟩)) := ht
  rw [this]
  simp only
  unfold H.cellsAt plain
  simp only [hb, if_true]
  rw [cut_all _ _ hl]
  simp only
  cases v with
  | agg cs => simp [asList, Value.cells]
  | _ => simp at hf

theorem store_agg {tm : Tr Value} {h : H} {t s b n : Nat} {v : Value} {z : List Value} {e g : Nat} {ex : Bool} (ht : tm.get t = some (.pointer (some ⟨b, 0, none⟩))) (hs : tm.get s = some v) (hb : h.tr.get b = some (.cells z e 0 ex g)) (hz : z.length = n) (hfl : h.floor ≤ b) (hf : fitsIn n v = true) :
    oStore tm h n (.tmp t) (.tmp s) = some (undef, h.put b (.cells (asList v) e 0 ex g)) := by
  unfold fitsIn at hf
  simp only [Bool.and_eq_true] at hf
  have hl := Nat.eq_of_beq_eq_true hf.1.1
  unfold oStore
  have e1 : ev tm (.tmp t) = some (.pointer (some ⟨b, 0, none⟩)) := ht
  have e2 : ev tm (.tmp s) = some v := hs
  rw [e1, e2]
  simp only
  unfold storeV
  rw [lenR_eq]
  have : Nat.beq (asList v).length n = true := hf.1.1
  rw [this]
  simp only
  unfold H.write plain
  simp only [hb, hf.1.2, Nat.ble_eq_true_of_le hfl, Bool.and_self, if_true]
  have h0 : Nat.ble 0 0 = true := rfl
  simp only [h0, if_true]
  rw [layAt_all z (asList v) (by omega)]

/-- the call within a round: nothing changes but what is new -/
theorem callback_ok {X : Ctx} (cx : CtxOk P X) {R : Rec} (rok : RecOk P R) {F : Fence} (hF : FOk F) {n : Nat} {Q : Exit → Act → World → Prop} {ops : Array Oper} {N : Nat} (hok : ∀ o ∈ ops.toList, okOper P.globals.size N o = true) {l : List AOper} (hl : compOps X ops = l) {ix : Nat} (hi : l[ix]? = some (.set 28 (fun R tm h => oCallV R tm h (.tmp 25) [.tmp 26, .tmp 27])))
    {h : H} (hr : Rel P ρ h w) (ho : Own P ρ w ρl Hl w') (hfv : VRel ρ fv f') (hk : flatV key = true) (hv : flatV val = true) {u : Value} {h2 : H} (hu : flatV u = true) (hc : callVal R fv [key, val] { h with floor := h.next } = some (u, h2))
    (h25 : a.tmps.getD 25 undef = f') (h26 : a.tmps.getD 26 undef = key) (h27 : a.tmps.getD 27 undef = val)
    {K : Act → World → Prop} (hK : ∀ w2, Own P ρ w ρl Hl w2 → (∀ c, c < w'.heap.size → w2.heap[c]? = w'.heap[c]?) → K (a.put (some 28) u) w2) : wpOpIn F n P ops Q ix K a w' := by
  have hrel : Rel P ρ { h with floor := h.next } w' := ((hr.keep ho.keep).sub (h := { h with floor := h.next }) (fun b o e => e) (Nat.le_refl _) (Nat.le_refl _) (Nat.le_trans hr.gfl hr.fl))
  let tmc : Tr Value := ((Tr.nil.set 25 fv).set 26 key).set 27 val
  have g25 : tmc.get 25 = some fv := by rw [tset (by omega), tset (by omega)]; exact tset_same
  have g26 : tmc.get 26 = some key := by rw [tset (by omega)]; exact tset_same
  have g27 : tmc.get 27 = some val := tset_same
  have htm : TmRel ρ tmc a.tmps := by
    intro t v e
    by_cases q27 : t = 27
    · subst q27; rw [g27] at e; cases e; rw [h27]; exact flatV_refl hv ρ
    · by_cases q26 : t = 26
      · subst q26; rw [g26] at e; cases e; rw [h26]; exact flatV_refl hk ρ
      · by_cases q25 : t = 25
        · subst q25; rw [g25] at e; cases e; rw [h25]; exact hfv
        · rw [tset q27, tset q26, tset q25] at e
          simp at e
  refine opSet_ok cx rok hF hl hi hok hrel htm (v := u) (h' := h2) ?_ fun ρ' w2 v' k1 k2 k3 => ?_
  · show oCallV R tmc _ (.tmp 25) [.tmp 26, .tmp 27] = _
    unfold oCallV
    have e1 : ev tmc (.tmp 25) = some fv := g25
    have e2 : evs tmc [.tmp 26, .tmp 27] = some [key, val] := (evs_cons _ _ _ _).2 ⟨key, [val], g26, (evs_cons _ _ _ _).2 ⟨val, [], g27, rfl, rfl⟩, rfl⟩
    rw [e1, e2]
    exact hc
  · have hkeep : ∀ c, c < w'.heap.size → w2.heap[c]? = w'.heap[c]? := fun c hc' => by
      refine k2.frame c hc' fun b o r e hfl q heq => ?_
      have h1 := hrel.dead b o e
      have h2 : h.next ≤ b := hfl
      have h3 : b < h.next := h1
      omega
    have : v' = u := flatV_eq hu k3
    rw [this]
    exact hK w2 (ho.kept k2.size hkeep k2.os k2.output k2.tape) hkeep
end
end Go.Ae
end
