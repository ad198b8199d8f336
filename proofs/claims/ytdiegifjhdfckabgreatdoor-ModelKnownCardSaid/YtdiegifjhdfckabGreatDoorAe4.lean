/-
  PROVED: 'Rows.ModelKnownCardSaid': marqueelaw32.ModelKnown returns true from every world in which the listed library variables hold what the program's text lays into them (the row's condition 'laid'), and leaves memory as it was; by a verified evaluator of the calculus (Go.Ae), run by the kernel. The card ties the pruned copy of the repository only.
  This text: the evaluator and its soundness, part 4 of 6.
-/
import Derived.Test.YtdiegifjhdfckabGreatDoorAe3
import Derived.Scope

section
/-
  AE: one round of a range over a function.
-/
namespace Go.Ae
section
variable {P : Program}

/-- the end of a round, after its body -/
theorem roundEnd_ok {ρ : Ren} {h h' : H} {w : World} {F : Fence} {l : Nat} {r0 : RB} {ex : Ex} {fr : Fr} {v : Value} {a : Act} (hρ : ρ l = some r0) (hr : Rel P ρ h w) (hfl : h.floor ≤ l) (_hfr : FrRel ρ F fr a)
    (hf : roundEnd l (some (ex, fr, h)) = some (v, h')) {_n : Nat} {K : Value → World → Prop} (hK : ∀ w' , Rel P ρ h' w' → Ext ρ h w ρ h' w' → ∀ v', VRel ρ v v' → K v' w') :
    roundPost P r0.blk (fun e w'' => ∃ v, e = .returned v ∧ K v w'') (exitOf ex) a w := by
  unfold roundEnd at hf
  simp only at hf
  split at hf
  · rename_i r hl hm
    obtain ⟨l', h1, h2⟩ := hr.loopAt hl hρ
    have hlt : r0.blk < w.heap.size := (Array.getElem?_eq_some_iff.1 h1).1
    have key : ∀ (j : Option Jmp), ∃ w', (Instr.endRound r0.blk (j.map jmpCode)).run P w = .ok (.bool j.isNone) w' ∧ Rel P ρ (h.put l (.loop { r with state := if j.isNone then .ready else .done, jump := j })) w' ∧ Ext ρ h w ρ (h.put l (.loop { r with state := if j.isNone then .ready else .done, jump := j })) w' := fun j => by
      obtain ⟨u1, u2⟩ := hr.upd hl hfl hρ (o' := .loop { r with state := if j.isNone then .ready else .done, jump := j }) (O' := .loop { l' with state := if (j.map jmpCode).isNone then .ready else .done, pending := j.map jmpCode })
        (w' := putB w r0.blk (.loop { l' with state := if (j.map jmpCode).isNone then .ready else .done, pending := j.map jmpCode }))
        (.loop ⟨by cases j <;> rfl, rfl, h2.tm, h2.params, h2.assign, h2.body, h2.defers, h2.pOk, h2.aOk, h2.bOk⟩) (by simp) (putB_same _ _ _ hlt) (fun c hc => putB_ne _ _ _ _ hc) rfl rfl rfl
      refine ⟨_, ?_, u1, u2⟩
      simp only [Instr.endRound, Sem.run_bind, run_getLoop h1, Result.andThen_ok, run_setLoop h1, Sem.run_pure]
      cases j <;> rfl
    cases ex with
    | normal =>
      cases hf
      obtain ⟨w', k1, k2, k3⟩ := key none
      exact ⟨_, w', k1, _, rfl, hK w' k2 k3 _ (.bool _)⟩
    | ret =>
      cases hf
      obtain ⟨w', k1, k2, k3⟩ := key (some .ret)
      exact ⟨_, w', k1, _, rfl, hK w' k2 k3 _ (.bool _)⟩
    | exit id =>
      cases hf
      obtain ⟨w', k1, k2, k3⟩ := key (some (.exit id))
      exact ⟨_, w', k1, _, rfl, hK w' k2 k3 _ (.bool _)⟩
  · cases hf

theorem round_ok {R : Rec} (rok : RecOk P R) {ρ : Ren} {h h' : H} {w : World} {l : Nat} {args : List Value} {v : Value} (hf : round R l args h = some (v, h')) {F : Fence} (hF : FOk F) (n : Nat) {r0 : RB} (hρ : ρ l = some r0) (hr : Rel P ρ h w) {args' : Array Value} (ha : VsRel ρ args args'.toList)
    {K : Value → World → Prop} (hK : ∀ ρ' w' v', Rel P ρ' h' w' → Ext ρ h w ρ' h' w' → VRel ρ' v v' → K v' w') : NextOk F n P K ((Instr.yield r0.blk args').run P w) := by
  unfold round at hf
  split at hf
  · rename_i r hfl hl
    have hfl := Nat.le_of_ble_eq_true hfl
    split at hf
    · rename_i tm htm
      obtain ⟨l', h1, h2⟩ := hr.loopAt hl hρ
      obtain ⟨p1, p2, p3⟩ := paramsIn_ok r.params args args'.toList r.tm tm l'.tmps ha h2.tm h2.pOk htm
      generalize htm2 : (r.params.zip args'.toList).foldl (fun tmps (p : Tmp × Value) => tmps.setIfInBounds p.1 p.2) l'.tmps = tmps2 at p2 p3
      have hyield : (Instr.yield r0.blk args').run P w = .ok (.round r0.blk l'.fn tmps2 r.assign r.body) w := by
        have hsz : args'.size = l'.params.size := by
          rw [← Array.length_toList, ← p1, ← h2.params, Array.length_toList]
        simp only [Instr.yield, Sem.run_bind, run_getLoop h1, Result.andThen_ok]
        rw [if_neg (by simp [hsz])]
        simp only [Sem.run_pure, h2.assign, h2.body]
        congr 2
        rw [← htm2, ← h2.params, ← Array.foldl_toList, Array.toList_zip]
      rw [hyield]
      refine roundIn_of_wpIn (hF.fn _) ?_
      unfold roundMid at hf
      split at hf
      · rename_i fr1 h3 hass
        split at hf
        · rename_i r2 hl2
          split at hf
          · rename_i hst
            refine (rok.code _ _ _ _ _ _ hass (F.inRound r0.blk) (n - 1) ρ { tmps := tmps2, defers := [] } w _ (hF.inRound _) hr ⟨p2, .nil, ⟨r0, hρ, rfl⟩⟩ (by rw [p3]; exact h2.aOk) ?_).wpIn
            intro ρ1 a1 w1 hr1 hx1 hfr1 hsz1
            obtain ⟨l2', g1, g2⟩ := hr1.loopAt hl2 (hx1.le _ _ hρ)
            have hlt : r0.blk < w1.heap.size := (Array.getElem?_eq_some_iff.1 g1).1
            have hfl1 : h3.floor ≤ l := by rw [hx1.floor]; exact hfl
            obtain ⟨u1, u2⟩ := hr1.upd hl2 hfl1 (hx1.le _ _ hρ) (o' := .loop { r2 with state := .busy }) (O' := .loop { l2' with state := .busy }) (w' := putB w1 r0.blk (.loop { l2' with state := .busy }))
              (.loop ⟨rfl, g2.jump, g2.tm, g2.params, g2.assign, g2.body, g2.defers, g2.pOk, g2.aOk, g2.bOk⟩) (by simp) (putB_same _ _ _ hlt) (fun c hc => putB_ne _ _ _ _ hc) rfl rfl rfl
            refine ⟨putB w1 r0.blk (.loop { l2' with state := .busy }), ?_, ?_⟩
            · simp only [Instr.beginRound, Sem.run_bind, run_getLoop g1, Result.andThen_ok, run_setLoop g1, g2.state, hst]
              rfl
            · cases hb : R.code r.body fr1 (h3.put l (.loop { r2 with state := .busy })) with
              | none => rw [hb] at hf; cases hf
              | some res =>
                obtain ⟨ex, fr2, h4⟩ := res
                rw [hb] at hf
                refine (rok.code _ _ _ _ _ _ hb (F.inRound r0.blk) (n - 1) ρ1 a1 _ _ (hF.inRound _) u1 hfr1 (by rw [hsz1, p3]; exact h2.bOk) ?_).wpIn
                intro ρ2 a2 w2 hr2 hx2 hfr2 hsz2
                have hle := Ren.le_trans hx1.le hx2.le
                have hfl2 : h4.floor ≤ l := by rw [hx2.floor]; exact hfl1
                refine roundEnd_ok (_n := n) (hle _ _ hρ) hr2 hfl2 hfr2 hf fun w' k1 k2 v' k3 => ?_
                exact hK ρ2 w' v' k1 (hx1.trans hr hr1 (u2.trans hr1 u1 (hx2.trans u1 hr2 k2))) k3
          · cases hf
        · cases hf
      · cases hf
    · cases hf
  · cases hf
end
end Go.Ae
end

section
/-
  AE: every operation, calls and all.
-/
namespace Go.Ae
section
variable {P : Program}

theorem run_ofValue {w : World} (fn : Fn) (first captured args : Array Value) : (Deferred.ofValue (.func fn first captured) args).run P w = .ok { target := .fn fn captured, args := first ++ args } w := rfl

theorem callVal_ok {R : Rec} (rok : RecOk P R) {ρ : Ren} {h h' : H} {w : World} {f f' : Value} {args : List Value} {args' : Array Value} {v : Value} (hf : callVal R f args h = some (v, h')) {F : Fence} (hF : FOk F) (n : Nat) (hr : Rel P ρ h w) (hfv : VRel ρ f f') (ha : VsRel ρ args args'.toList)
    {K : Value → World → Prop} (hK : ∀ ρ' w' v', Rel P ρ' h' w' → Ext ρ h w ρ' h' w' → VRel ρ' v v' → K v' w') : NextOk F n P K ((do let d ← Deferred.ofValue f' args'; invoke d.target d.args : Sem Next).run P w) := by
  unfold callVal at hf
  split at hf
  · rename_i g first captured
    cases hfv with
    | func _ _ fa _ ca h1 h2 =>
      simp only [Sem.run_bind, run_ofValue, Result.andThen_ok, invoke]
      refine rok.call _ _ _ _ _ hf F n ρ w _ K hF hr ?_ hK
      have := h1.append (ha.append h2)
      simpa using this
  · rename_i l first captured
    split at hf
    · rename_i hfirst
      cases hfv with
      | yield _ r fa _ ca _ hρ h1 h2 =>
        rw [hfirst] at h1
        simp only [Sem.run_bind, run_ofValue, Result.andThen_ok, invoke]
        refine round_ok rok hf hF n hρ hr ?_ hK
        have : VsRel ρ ([] ++ args) _ := h1.append ha
        simpa using this
    · cases hf
  · cases hf

theorem oper_ok {X : Ctx} (cx : CtxOk P X) {R : Rec} (rok : RecOk P R) {ρ : Ren} {h h' : H} {w : World} {F : Fence} (hF : FOk F) (n : Nat) (hr : Rel P ρ h w) {tm : Tr Value} {a : Act} (ht : TmRel ρ tm a.tmps) {o : Oper} (hok : ∀ x ∈ o.op.operands.toList, okOpd P.globals.size x = true) {v : Value}
    (hf : opF X o R tm h = some (v, h')) {next : Act → World → Prop} {Q : Exit → Act → World → Prop} (hK : ∀ ρ' w' v', Rel P ρ' h' w' → Ext ρ h w ρ' h' w' → VRel ρ' v v' → next (a.put o.dst v') w') : o.wpIn F n P a w next Q := by
  refine ⟨fun f _ => hF.fn f, ?_⟩
  have hnd : ∀ c, o.op ≠ .defer c := fun c e => by unfold opF at hf; rw [e] at hf; cases hf
  rw [Oper.semAt_eq _ _ _ hnd]
  by_cases hc : ∃ c, o.op = .call c
  · obtain ⟨c, ho⟩ := hc
    cases hcal : c.callee with
    | builtin b => exact (builtin_ok cx hr ht hok ho hcal hf).upon hK
    | invoke r m =>
      unfold opF at hf; rw [ho] at hf; simp only [hcal] at hf; cases hf
    | value f =>
      have harg : ∀ x ∈ c.args.toList, okOpd P.globals.size x = true := fun x hx => hok x (by rw [ho]; simp [Op.operands, Call.operands, hcal]; right; simpa using hx)
      have hfo : okOpd P.globals.size f = true := hok f (by rw [ho]; simp [Op.operands, Call.operands, hcal])
      have hexec : execOp a.eval o = (do let d ← Deferred.ofValue (a.eval f) (c.args.map a.eval); invoke d.target d.args) := by
        unfold execOp; rw [ho]; simp only [resolve, hcal]
      rw [hexec]
      have gen : ∀ fv, VRel ρ fv (a.eval f) → ∀ vs, evs tm c.args.toList = some vs → callVal R fv vs h = some (v, h') → o.uponIn F n P a next Q ((do let d ← Deferred.ofValue (a.eval f) (c.args.map a.eval); invoke d.target d.args : Sem Next).run P w) := fun fv hfv vs hvs hcv => by
        have hargs : VsRel ρ vs (c.args.map a.eval).toList := by
          rw [Array.toList_map]; exact evs_ok hr ht harg hvs
        exact (callVal_ok rok hcv hF n hr hfv hargs (K := fun v' w' => next (a.put o.dst v') w') hK).upon hF (fun _ _ k => k)
      unfold opF at hf
      rw [ho] at hf
      simp only [hcal] at hf
      split at hf
      · rename_i g heq
        cases heq
        have hf : oCallF R tm h g c.args.toList = some (v, h') := hf
        unfold oCallF at hf
        split at hf
        · rename_i vs hvs
          exact gen (.func (.func g) #[] #[]) (.func _ _ _ _ _ .nil .nil) vs hvs (by unfold callVal; simpa using hf)
        · cases hf
      · rename_i g hng heq
        cases heq
        have hf : oCallV R tm h f c.args.toList = some (v, h') := hf
        unfold oCallV at hf
        split at hf
        · rename_i fv vs e1 e2
          exact gen fv (ev_ok hr ht hfo e1) vs e2 hf
        · cases hf
      all_goals (rename_i heq; cases heq)
  · exact (opF_ok cx hr ht hok (fun c e => hc ⟨c, e⟩) hf).upon hK
end
end Go.Ae
end

section
/-
  AE: regions in the text's order.
-/
namespace Go.Ae
section
variable {P : Program}

theorem put_defers (a : Act) (d : Option Tmp) (v : Value) : (a.put d v).defers = a.defers := by cases d <;> rfl
theorem put_size (a : Act) (d : Option Tmp) (v : Value) : (a.put d v).tmps.size = a.tmps.size := by cases d <;> simp [Act.put]

theorem TmRel.putD {ρ : Ren} {tm : Tr Value} {a : Act} (x : TmRel ρ tm a.tmps) {d : Option Tmp} (hd : (match d with | some d => Nat.blt d a.tmps.size | none => true) = true) {v v' : Value} (r : VRel ρ v v') : TmRel ρ (Ae.putD tm d v) (a.put d v').tmps := by
  cases d with
  | none => exact x
  | some d =>
    have : d < a.tmps.size := by
      have hd : Nat.blt d a.tmps.size = true := hd
      rw [blt_eq] at hd; exact of_decide_eq_true hd
    exact x.set this r

theorem guard_ok {ρ : Ren} {tm : Tr Value} {a : Act} (x : TmRel ρ tm a.tmps) {ops : Array Oper} {o : Oper} {j : Nat} {w : Bool} (hg : o.guard = some (j, w)) {t : Tmp} (ht : (ops[j]?).bind (·.dst) = some t) {u : Value} (hu : tm.get t = some u) :
    Region.wanted o (yielded ops a.tmps) = (match u with | .bool b => b == w | _ => false) := by
  have hr := x t u hu
  unfold Region.wanted
  rw [hg]
  simp only [yielded, ht, Option.bind_some]
  by_cases hlt : t < a.tmps.size
  · have e : a.tmps[t]? = some (a.tmps.getD t undef) := by simp [Array.getD_eq_getD_getElem?, hlt]
    rw [e]
    revert hr
    generalize a.tmps.getD t undef = u'
    intro hr
    cases hr <;> simp
  · have e : a.tmps[t]? = none := Array.getElem?_eq_none (Nat.le_of_not_lt hlt)
    have e2 : a.tmps.getD t undef = undef := by simp [Array.getD_eq_getD_getElem?, e]
    rw [e2] at hr
    rw [e]
    unfold undef at hr
    cases hr
    rfl

theorem okOper_dst {G n : Nat} {o : Oper} (h : okOper G n o = true) : (match o.dst with | some d => Nat.blt d n | none => true) = true := by
  unfold okOper at h
  simp only [Bool.and_eq_true] at h
  exact h.1
theorem okOper_opds {G n : Nat} {o : Oper} (h : okOper G n o = true) : ∀ x ∈ o.op.operands.toList, okOpd G x = true := by
  unfold okOper at h
  simp only [Bool.and_eq_true] at h
  exact List.all_eq_true.1 h.2

/-- one operation of a region -/
theorem aoper_ok {X : Ctx} (cx : CtxOk P X) {R : Rec} (rok : RecOk P R) {F : Fence} (hF : FOk F) {n : Nat} {ops : Array Oper} {Q : Exit → Act → World → Prop} {i : Nat} {o : Oper} (hi : ops[i]? = some o) {ρ : Ren} {h h' : H} {w : World} (hr : Rel P ρ h w) {tm tm' : Tr Value} {a : Act} (ht : TmRel ρ tm a.tmps) (hok : okOper P.globals.size a.tmps.size o = true)
    (hf : aoper R (compOper X ops o) tm h = some (tm', h')) {rest : List Nat}
    (hK : ∀ ρ' w' a', Rel P ρ' h' w' → Ext ρ h w ρ' h' w' → TmRel ρ' tm' a'.tmps → a'.defers = a.defers → a'.tmps.size = a.tmps.size → (∃ v, a' = a.put o.dst v) → wpOpsIn F n P ops Q rest a' w') : wpOpsIn F n P ops Q (i :: rest) a w := by
  have hdst := okOper_dst hok
  have hopd := okOper_opds hok
  simp only [wpOpsIn, hi]
  have run : ∀ v h2, opF X o R tm h = some (v, h2) → (tm', h') = (putD tm o.dst v, h2) → o.wpIn F n P a w (wpOpsIn F n P ops Q rest) Q := fun v h2 hop he => by
    cases he
    refine oper_ok cx rok hF n hr ht hopd hop fun ρ' w' v' k1 k2 k3 => ?_
    exact hK ρ' w' _ k1 k2 ((ht.mono k2.le).putD hdst k3) (put_defers _ _ _) (put_size _ _ _) ⟨_, rfl⟩
  have skip : (tm', h') = (putD tm o.dst undef, h) → (∀ f, o.about P w a.eval = some f → F.fn f) ∧ wpOpsIn F n P ops Q rest (a.put o.dst undef) w := fun he => by
    cases he
    exact ⟨fun f _ => hF.fn f, hK ρ w _ hr (Ext.refl hr) (ht.putD hdst (.tuple _ _ .nil)) (put_defers _ _ _) (put_size _ _ _) ⟨_, rfl⟩⟩
  unfold compOper at hf
  cases hg : o.guard with
  | none =>
    rw [hg] at hf
    have hw : Region.wanted o (yielded ops a.tmps) = true := by unfold Region.wanted; rw [hg]
    rw [if_pos hw]
    cases hd : o.dst with
    | none =>
      rw [hd] at hf
      unfold aoper at hf
      simp only at hf
      split at hf
      · rename_i v h2 hop
        exact run v h2 hop (by rw [hd]; exact (Option.some.inj hf).symm)
      · cases hf
    | some d =>
      rw [hd] at hf
      unfold aoper at hf
      simp only at hf
      split at hf
      · rename_i v h2 hop
        exact run v h2 hop (by rw [hd]; exact (Option.some.inj hf).symm)
      · cases hf
  | some g =>
    obtain ⟨j, want⟩ := g
    rw [hg] at hf
    simp only at hf
    split at hf
    · rename_i t htt
      unfold aoper at hf
      simp only at hf
      split at hf
      · rename_i b hb
        have hw := guard_ok ht hg htt hb
        simp only at hw
        split at hf
        · rw [hw, if_pos (by rfl)]
          split at hf
          · rename_i v h2 hop
            exact run v h2 hop (Option.some.inj hf).symm
          · cases hf
        · rw [hw, if_pos (by rfl)]
          split at hf
          · rename_i v h2 hop
            exact run v h2 hop (Option.some.inj hf).symm
          · cases hf
        · rename_i n1 n2
          cases hf
          have : (b == want) = false := by
            cases b <;> cases want <;> first | rfl | (exfalso; first | exact n1 rfl rfl | exact n2 rfl rfl)
          rw [hw, this, if_neg (by simp)]
          exact skip rfl
      · rename_i u hnb hu
        cases hf
        have hw := guard_ok ht hg htt hu
        have : Region.wanted o (yielded ops a.tmps) = false := by
          rw [hw]
          cases u <;> first | rfl | exact absurd rfl (hnb _)
        rw [this, if_neg (by simp)]
        exact skip rfl
      · cases hf
    · unfold aoper noOp at hf
      cases hf

theorem aops_cons (R : Rec) (o : AOper) (l : List AOper) (tm : Tr Value) (h : H) (r : Tr Value × H) : aops R (o :: l) tm h = some r ↔ ∃ tm1 h1, aoper R o tm h = some (tm1, h1) ∧ aops R l tm1 h1 = some r := by
  show (match aoper R o tm h with
    | some (tm, h) => aops R l tm h
    | none => none) = some r ↔ _
  cases aoper R o tm h with
  | none => simp
  | some p =>
    obtain ⟨tm1, h1⟩ := p
    constructor
    · intro e; exact ⟨tm1, h1, rfl, e⟩
    · rintro ⟨_, _, e, e2⟩; cases e; exact e2

theorem aops_ok {X : Ctx} (cx : CtxOk P X) {R : Rec} (rok : RecOk P R) {F : Fence} (hF : FOk F) {n : Nat} {ops : Array Oper} {Q : Exit → Act → World → Prop} (N : Nat) (hok : ∀ o ∈ ops.toList, okOper P.globals.size N o = true) (defs : List Deferred) (I : Act → Prop) (hI : ∀ o ∈ ops.toList, ∀ a v, I a → I (a.put o.dst v)) :
    ∀ (l : List Oper) (k : Nat) (ρ : Ren) (h h' : H) (w : World) (tm tm' : Tr Value) (a : Act), (∀ i, l[i]? = ops[k + i]?) → Rel P ρ h w → TmRel ρ tm a.tmps → a.tmps.size = N → a.defers = defs → I a →
      aops R (l.map (compOper X ops)) tm h = some (tm', h') →
      (∀ ρ' w' a', Rel P ρ' h' w' → Ext ρ h w ρ' h' w' → TmRel ρ' tm' a'.tmps → a'.defers = defs → a'.tmps.size = N → I a' → Q .normal a' w') → wpOpsIn F n P ops Q (List.range' k l.length) a w := by
  intro l
  induction l with
  | nil =>
    intro k ρ h h' w tm tm' a _ hr ht hs hd hi0 hf hK
    cases hf
    exact hK ρ w a hr (Ext.refl hr) ht hd hs hi0
  | cons o l ih =>
    intro k ρ h h' w tm tm' a hl hr ht hs hd hi0 hf hK
    rw [List.map_cons, aops_cons] at hf
    obtain ⟨tm1, h1, hf1, hf2⟩ := hf
    rw [List.length_cons, List.range'_succ]
    have hi : ops[k]? = some o := by
      have := hl 0
      simpa using this.symm
    have hmem : o ∈ ops.toList := by
      rw [← Array.getElem?_toList] at hi
      exact List.mem_of_getElem? hi
    refine aoper_ok cx rok hF hi hr ht (by rw [hs]; exact hok o hmem) hf1 fun ρ1 w1 a1 k1 k2 k3 k4 k5 k6 => ?_
    refine ih (k + 1) ρ1 h1 h' w1 tm1 tm' a1 (fun i => ?_) k1 k3 (k5.trans hs) (k4.trans hd) (by obtain ⟨v, rfl⟩ := k6; exact hI o hmem a v hi0) hf2 fun ρ2 w2 a2 e1 e2 e3 e4 e5 e6 => hK ρ2 w2 a2 e1 (k2.trans hr k1 e2) e3 e4 e5 e6
    have := hl (i + 1)
    simp only [List.getElem?_cons_succ] at this
    rw [this]; congr 1; omega

/-- a region in the text's order -/
theorem region_ok {X : Ctx} (cx : CtxOk P X) {R : Rec} (rok : RecOk P R) {F : Fence} (hF : FOk F) {n : Nat} {id : Nat} {ops : Array Oper} {Q : Exit → Act → World → Prop} {ρ : Ren} {h h' : H} {w : World} {tm tm' : Tr Value} {a : Act} (hr : Rel P ρ h w) (ht : TmRel ρ tm a.tmps) (hok : ∀ o ∈ ops.toList, okOper P.globals.size a.tmps.size o = true)
    (hf : aops R (compOps X ops) tm h = some (tm', h')) (hK : ∀ ρ' w' a', Rel P ρ' h' w' → Ext ρ h w ρ' h' w' → TmRel ρ' tm' a'.tmps → a'.defers = a.defers → a'.tmps.size = a.tmps.size → Q .normal a' w') : (Code.region id ops false).wpIn F n P Q a w := by
  refine wpIn_region ?_
  have := aops_ok cx rok hF (n := n) (Q := Q) a.tmps.size hok a.defers (fun _ => True) (fun _ _ _ _ _ => trivial) ops.toList 0 ρ h h' w tm tm' a (fun i => by simp) hr ht rfl rfl trivial hf (fun ρ' w' a' k1 k2 k3 k4 k5 _ => hK ρ' w' a' k1 k2 k3 k4 k5)
  rw [List.range_eq_range']
  simpa using this

/-- the same, what is not written stays as it was -/
theorem region_okI {X : Ctx} (cx : CtxOk P X) {R : Rec} (rok : RecOk P R) {F : Fence} (hF : FOk F) {n : Nat} {id : Nat} {ops : Array Oper} {Q : Exit → Act → World → Prop} {ρ : Ren} {h h' : H} {w : World} {tm tm' : Tr Value} {a : Act} (I : Act → Prop) (hI : ∀ o ∈ ops.toList, ∀ a v, I a → I (a.put o.dst v)) (hi0 : I a) (hr : Rel P ρ h w) (ht : TmRel ρ tm a.tmps) (hok : ∀ o ∈ ops.toList, okOper P.globals.size a.tmps.size o = true)
    (hf : aops R (compOps X ops) tm h = some (tm', h')) (hK : ∀ ρ' w' a', Rel P ρ' h' w' → Ext ρ h w ρ' h' w' → TmRel ρ' tm' a'.tmps → a'.defers = a.defers → a'.tmps.size = a.tmps.size → I a' → Q .normal a' w') : (Code.region id ops false).wpIn F n P Q a w := by
  refine wpIn_region ?_
  have := aops_ok cx rok hF (n := n) (Q := Q) a.tmps.size hok a.defers I hI ops.toList 0 ρ h h' w tm tm' a (fun i => by simp) hr ht rfl rfl hi0 hf hK
  rw [List.range_eq_range']
  simpa using this
end
end Go.Ae
end

section
/-
  AE: code.
-/
namespace Go.Ae
section
variable {P : Program}

/-- what a region whose order is open must come to -/
def DrawOk (P : Program) (X : Ctx) (R : Rec) : Prop :=
  ∀ (F : Fence) (n : Nat) (id : Nat) (ops : Array Oper) (Q : Exit → Act → World → Prop) (ρ : Ren) (h h' : H) (w : World) (tm tm' : Tr Value) (a : Act), FOk F → Rel P ρ h w → TmRel ρ tm a.tmps →
    (∀ o ∈ ops.toList, okOper P.globals.size a.tmps.size o = true) → cDraw X R ops tm h = some (tm', h') →
    (∀ ρ' w' a', Rel P ρ' h' w' → Ext ρ h w ρ' h' w' → TmRel ρ' tm' a'.tmps → a'.defers = a.defers → a'.tmps.size = a.tmps.size → Q .normal a' w') → (Code.region id ops true).wpIn F n P Q a w

theorem wpIn_scope {F : Fence} {n : Nat} {c : Code} {Q : Exit → Act → World → Prop} {a : Act} {w : World} (h : c.wpIn F n P (Exit.noGoto Q) a w) : (Code.scope c).wpIn F n P Q a w := by
  intro b k cs hro hb hr
  have h0 : (lone (b.atR a (.code (.scope c) :: k)) cs w).fenced P F := fenced_calm hb hr rfl
  have s0 : Go.step P (lone (b.atR a (.code (.scope c) :: k)) cs w) = .next (lone (b.atR a (.code c :: .inScope c :: k)) cs w) :=
    step_lone_go (by simp [stepG, stepG.exec, Frame.atR])
  obtain ⟨e, a₁, w₁, hq, harr⟩ := h b (.inScope c :: k) cs hro hb hr
  cases e with
  | normal =>
    have s1 : Go.step P (lone (b.atR a₁ (.inScope c :: k)) cs w₁) = .next (lone (b.atR a₁ k) cs w₁) :=
      step_lone_go (by simp [stepG, stepG.exec, Frame.atR])
    exact ⟨.normal, a₁, w₁, hq, .head h0 s0 (StepsIn.trans harr (.one (fenced_calm hb hr rfl) s1))⟩
  | exit id =>
    have hx : exitTo id (.inScope c :: k) = exitTo id k := by simp [exitTo]
    exact ⟨.exit id, a₁, w₁, hq, fun k' hk => .head h0 s0 (harr.1 k' (by rw [hx]; exact hk)),
      fun hr' hk => let ⟨k₁, h1, h2⟩ := harr.2 hr' (by rw [hx]; exact hk); ⟨k₁, h1, .head h0 s0 h2⟩⟩
  | goto l => exact hq.elim
  | ret => exact ⟨_, a₁, w₁, hq, .of_steps (.one h0 s0) harr⟩
  | panic ch => exact ⟨_, a₁, w₁, hq, .of_steps (.one h0 s0) harr⟩
  | outgrown => exact ⟨_, a₁, w₁, hq, .of_steps (.one h0 s0) harr⟩

theorem cSeq_cases {R : Rec} {b : Code} {x : Option (Ex × Fr × H)} {ex : Ex} {fr' : Fr} {h' : H} (e : cSeq R b x = some (ex, fr', h')) :
    (∃ fr1 h1, x = some (.normal, fr1, h1) ∧ R.code b fr1 h1 = some (ex, fr', h')) ∨ (x = some (ex, fr', h') ∧ ex ≠ .normal) := by
  unfold cSeq at e
  split at e
  · exact .inl ⟨_, _, rfl, e⟩
  · rename_i hn
    refine .inr ⟨e, ?_⟩
    intro hex; subst hex
    exact hn _ _ e

theorem run_newObj (P : Program) (w : World) (o : Obj) : (newObj o).run P w = .ok w.heap.size (w.alloc o) := rfl

/-- the statement, from the laying of its record on -/
theorem rangeIn_ok {X : Ctx} (cx : CtxOk P X) {R : Rec} (rok : RecOk P R) {F : Fence} (hF : FOk F) {n : Nat} {Q : Exit → Act → World → Prop} {ρ : Ren} {h h' : H} {w : World} {fr fr' : Fr} {a0 a : Act} (fn : FuncId)
    (hr : Rel P ρ h w) (hfr : FrRel ρ F fr a) (_ha0 : a0.tmps = a.tmps) {f : Value} {g : Operand} {ps : Array Tmp} {assign body : Code} {d : Nat} {rd : RB} (hd : ρ d = some rd) {ex : Ex}
    (hf : cRangeIn X R f ps.toList assign body fr h d = some (ex, fr', h')) (hfv : VRel ρ f (a0.eval g))
    (hps : ∀ p ∈ ps.toList, p < a.tmps.size) (h1 : okCode P.globals.size a.tmps.size assign = true) (h2 : okCode P.globals.size a.tmps.size body = true)
    (hK : ∀ ρ' a' w', Rel P ρ' h' w' → Ext ρ h w ρ' h' w' → FrRel ρ' F fr' a' → a'.tmps.size = a.tmps.size → Q (exitOf ex) a' w') :
    ∃ (d' : Deferred) (w₁' : World) (f' : FuncId) (args : Array Value) (w₂ : World),
      (resolve a0.eval (rangeCall g w.heap.size) 0).run P (w.alloc (.loop { state := .ready, pending := none, fn, tmps := a.tmps, params := ps, assign, body, defers := rd.blk })) = .ok d' w₁' ∧
      (invoke d'.target d'.args).run P w₁' = .ok (.enter f' args) w₂ ∧
      CallsIn F (n - 1) P f' args w₂ (rangePost F n P w.heap.size Q a) := by
  unfold cRangeIn at hf
  split at hf
  · rename_i hbod
    unfold bodied at hbod
    split at hbod
    · rename_i gid first captured
      split at hbod
      · rename_i func hfunc
        rw [cx.prog] at hfunc
        generalize hgv : a0.eval g = gv at hfv
        cases hfv with
        | func _ _ fa _ ca v1 v2 =>
          obtain ⟨n1, n2⟩ := hr.new (.loop { state := .ready, jump := none, tm := fr.tm, params := ps.toList, assign, body, defers := d })
            (.loop { state := .ready, pending := none, fn, tmps := a.tmps, params := ps, assign, body, defers := rd.blk }) 0 0
            (.loop ⟨rfl, rfl, hfr.tm.mono (Ren.le_put (hr.none_next (Nat.le_refl _))), rfl, rfl, rfl, ⟨rd, Ren.le_put (hr.none_next (Nat.le_refl _)) _ _ hd, rfl⟩, hps, h1, h2⟩)
          generalize hw1 : w.alloc (.loop { state := .ready, pending := none, fn, tmps := a.tmps, params := ps, assign, body, defers := rd.blk }) = w1 at *
          have hρl : (ρ.put h.next ⟨w.heap.size, 0, 0, 0⟩) h.next = some ⟨w.heap.size, 0, 0, 0⟩ := Ren.put_same _ _ _
          generalize hρ1 : ρ.put h.next ⟨w.heap.size, 0, 0, 0⟩ = ρ1 at *
          generalize hh1 : (h.new (.loop { state := .ready, jump := none, tm := fr.tm, params := ps.toList, assign, body, defers := d })).2 = hh at *
          unfold callVal at hf
          simp only at hf
          have hyield : VRel ρ1 (.func (.yield h.next) #[] #[]) (.func (.yield w.heap.size) #[] #[]) := .yield h.next ⟨w.heap.size, 0, 0, 0⟩ _ _ _ _ hρl .nil .nil
          have hargs : VsRel ρ1 (first.toList ++ ([Value.func (.yield h.next) #[] #[]] ++ captured.toList)) ((fa ++ #[Value.func (.yield w.heap.size) #[] #[]]) ++ ca).toList := by
            have := (v1.mono n2.le).append ((VsRel.cons _ _ _ _ hyield .nil).append (v2.mono n2.le))
            simpa using this
          have hres : (resolve a0.eval (rangeCall g w.heap.size) 0).run P w1 = .ok { target := .fn (.func gid) ca, args := fa ++ #[Value.func (.yield w.heap.size) #[] #[]] } w1 := by
            simp only [resolve, hgv]
            have hm : (#[Operand.const (Value.func (Fn.yield w.heap.size) #[] #[])] : Array Operand).map a0.eval = #[Value.func (Fn.yield w.heap.size) #[] #[]] := by simp [Act.eval]
            rw [hm, run_ofValue]
          cases hcall : R.call gid (first.toList ++ ([Value.func (.yield h.next) #[] #[]] ++ captured.toList)) hh with
          | none =>
            exfalso
            have e : R.call gid (List.append first.toList (List.append [Value.func (.yield h.next) #[] #[]] captured.toList)) hh = none := hcall
            rw [e] at hf; cases hf
          | some res =>
            obtain ⟨v, h3⟩ := res
            have e : R.call gid (List.append first.toList (List.append [Value.func (.yield h.next) #[] #[]] captured.toList)) hh = some (v, h3) := hcall
            rw [e] at hf
            have hnext := rok.call _ _ _ _ _ hcall F n ρ1 w1 ((fa ++ #[Value.func (.yield w.heap.size) #[] #[]]) ++ ca) (fun v' w' => rangePost F n P w.heap.size Q a (.returned v') w') hF n1 hargs (by
              intro ρ2 w2 v' k1 k2 _
              unfold cRangeEnd at hf
              simp only at hf
              split at hf
              · rename_i r hl
                obtain ⟨l', g1, g2⟩ := k1.loopAt hl (k2.le _ _ hρl)
                have hlt : w.heap.size < w2.heap.size := (Array.getElem?_eq_some_iff.1 g1).1
                have hfl : h3.floor ≤ h.next := by
                  have e1 := k2.floor
                  have e2 := n2.floor
                  have e3 := hr.fl
                  rw [e1, e2]; exact e3
                obtain ⟨u1, u2⟩ := k1.upd hl hfl (k2.le _ _ hρl) (o' := .loop { r with state := .exhausted }) (O' := .loop { l' with state := .exhausted }) (w' := putB w2 w.heap.size (.loop { l' with state := .exhausted }))
                  (.loop ⟨rfl, g2.jump, g2.tm, g2.params, g2.assign, g2.body, g2.defers, g2.pOk, g2.aOk, g2.bOk⟩) (by simp) (putB_same _ _ _ hlt) (fun c hc => putB_ne _ _ _ _ hc) rfl rfl rfl
                have hx : Ext ρ h w ρ2 (h3.put h.next (.loop { r with state := .exhausted })) (putB w2 w.heap.size (.loop { l' with state := .exhausted })) :=
                  n2.trans hr n1 (k2.trans n1 k1 u2)
                have hend : r.state ≠ .busy → (Instr.endLoop w.heap.size).run P w2 = .ok (r.jump.map jmpCode) (putB w2 w.heap.size (.loop { l' with state := .exhausted })) := by
                  intro hs
                  have hsb : (l'.state == LoopState.busy) = false := by
                    rw [g2.state]; cases hst : r.state <;> first | rfl | exact absurd hst hs
                  simp only [Instr.endLoop, Sem.run_bind, run_getLoop g1, Result.andThen_ok, hsb, Bool.false_eq_true, if_false, Sem.run_pure, run_setLoop g1, g2.jump]
                have hfrR : FrRel ρ2 F fr a := ⟨hfr.tm.mono hx.le, hfr.marks.mono hx.le, by
                  have := hfr.round
                  unfold RoundRel at this ⊢
                  split at this
                  · exact this
                  · obtain ⟨r, q1, q2⟩ := this; exact ⟨r, hx.le _ _ q1, q2⟩⟩
                split at hf
                · cases hf
                · rename_i hj hs
                  cases hf
                  refine ⟨_, _, hend hs, ?_⟩
                  rw [hj]
                  exact hK ρ2 a _ u1 hx hfrR rfl
                · rename_i hj hs
                  cases hf
                  refine ⟨_, _, hend hs, ?_⟩
                  rw [hj]
                  exact wpIn_ret (hK ρ2 a _ u1 hx hfrR rfl)
                · rename_i id hj hs
                  cases hf
                  refine ⟨_, _, hend hs, ?_⟩
                  rw [hj]
                  exact wpIn_exit (hK ρ2 a _ u1 hx hfrR rfl)
              · cases hf)
            have hcf : ∃ fname, (callFunc gid ((fa ++ #[Value.func (.yield w.heap.size) #[] #[]]) ++ ca)).run P w1 = (if fname = true then .ok .numGoroutine w1 else .ok (.enter gid ((fa ++ #[Value.func (.yield w.heap.size) #[] #[]]) ++ ca)) w1) := by
              refine ⟨func.name == "runtime.NumGoroutine", ?_⟩
              have hb2 : func.body.isNone = false := by
                cases hbb : func.body with
                | none => rw [hbb] at hbod; cases hbod
                | some c => rfl
              have hprog : (program : Sem Program).run P w1 = .ok P w1 := rfl
              simp only [callFunc, Sem.run_bind, hprog, Result.andThen_ok, hfunc]
              cases hn : (func.name == "runtime.NumGoroutine") with
              | true => simp
              | false => simp [hb2]
            obtain ⟨fname, hcf⟩ := hcf
            rw [hcf] at hnext
            cases hfn : fname with
            | true => rw [hfn] at hnext; exact hnext.elim
            | false =>
              rw [hfn] at hnext hcf
              refine ⟨_, _, _, _, _, hres, hcf, ?_⟩
              refine CallsIn.mono hnext fun e w'' ⟨v, he, hk⟩ => ?_
              subst he; exact hk
      · cases hbod
    · cases hbod
  · cases hf
end
end Go.Ae
end

section
/-
  AE: code; functions' ends; the evaluator.
-/
namespace Go.Ae
section
variable {P : Program}

theorem FrRel.size_round {ρ ρ' : Ren} {F : Fence} {o : Option Nat} (hle : ρ.le ρ') (h : RoundRel ρ F o) : RoundRel ρ' F o := by
  unfold RoundRel at h ⊢
  split at h
  · exact h
  · obtain ⟨r, q1, q2⟩ := h; exact ⟨r, hle _ _ q1, q2⟩

theorem FrRel.mono {ρ ρ' : Ren} {F : Fence} {fr : Fr} {a : Act} (hle : ρ.le ρ') (h : FrRel ρ F fr a) : FrRel ρ' F fr a :=
  ⟨h.tm.mono hle, h.marks.mono hle, FrRel.size_round hle h.round⟩

theorem blt_lt {a b : Nat} (h : Nat.blt a b = true) : a < b := by rw [blt_eq] at h; exact of_decide_eq_true h

theorem code_ok {X : Ctx} (cx : CtxOk P X) {R : Rec} (rok : RecOk P R) (dok : DrawOk P X R) (c : Code) (fr : Fr) (h : H) (ex : Ex) (fr' : Fr) (h' : H) (hf : codeStep X R c fr h = some (ex, fr', h')) : CodeOk P c fr h ex fr' h' := by
  intro F n ρ a w Q hF hr hfr hok hK
  cases c with
  | skip => cases hf; exact wpIn_skip (hK ρ a w hr (Ext.refl hr) hfr rfl)
  | exit id => cases hf; exact wpIn_exit (hK ρ a w hr (Ext.refl hr) hfr rfl)
  | ret => cases hf; exact wpIn_ret (hK ρ a w hr (Ext.refl hr) hfr rfl)
  | region id ops draw =>
    have hf : cRegion X R ops draw fr h = some (ex, fr', h') := hf
    have hok2 : ∀ o ∈ ops.toList, okOper P.globals.size a.tmps.size o = true := List.all_eq_true.1 hok
    unfold cRegion at hf
    split at hf
    · unfold regEnd at hf
      split at hf
      · rename_i tm h2 heq
        cases hf
        refine region_ok cx rok hF hr hfr.tm hok2 heq fun ρ' w' a' k1 k2 k3 k4 k5 => ?_
        exact hK ρ' a' w' k1 k2 ⟨k3, by rw [k4]; exact hfr.marks.mono k2.le, FrRel.size_round k2.le hfr.round⟩ k5
      · cases hf
    · unfold regEnd at hf
      split at hf
      · rename_i tm h2 heq
        cases hf
        refine dok F n id ops Q ρ h _ w fr.tm _ a hF hr hfr.tm hok2 heq fun ρ' w' a' k1 k2 k3 k4 k5 => ?_
        exact hK ρ' a' w' k1 k2 ⟨k3, by rw [k4]; exact hfr.marks.mono k2.le, FrRel.size_round k2.le hfr.round⟩ k5
      · cases hf
  | seq x y =>
    have hf : cSeq R y (R.code x fr h) = some (ex, fr', h') := hf
    have hok2 : (okCode P.globals.size a.tmps.size x && okCode P.globals.size a.tmps.size y) = true := hok
    rw [Bool.and_eq_true] at hok2
    refine wpIn_seq ?_
    rcases cSeq_cases hf with ⟨fr1, h1, e1, e2⟩ | ⟨e1, e2⟩
    · refine (rok.code _ _ _ _ _ _ e1 F n ρ a w _ hF hr hfr hok2.1 fun ρ1 a1 w1 k1 k2 k3 k4 => ?_).wpIn
      refine (rok.code _ _ _ _ _ _ e2 F n ρ1 a1 w1 Q hF k1 k3 (by rw [k4]; exact hok2.2) fun ρ2 a2 w2 q1 q2 q3 q4 => ?_).wpIn
      exact hK ρ2 a2 w2 q1 (k2.trans hr k1 q2) q3 (q4.trans k4)
    · refine (rok.code _ _ _ _ _ _ e1 F n ρ a w _ hF hr hfr hok2.1 fun ρ1 a1 w1 k1 k2 k3 k4 => ?_).wpIn
      have := hK ρ1 a1 w1 k1 k2 k3 k4
      cases ex with
      | normal => exact absurd rfl e2
      | exit i => exact this
      | ret => exact this
  | loop x =>
    have hf : cSeq R (.loop x) (R.code x fr h) = some (ex, fr', h') := hf
    have hok2 : okCode P.globals.size a.tmps.size x = true := hok
    show wpLoop F n P x Q a w
    refine wpLoop_step ?_
    rcases cSeq_cases hf with ⟨fr1, h1, e1, e2⟩ | ⟨e1, e2⟩
    · refine (rok.code _ _ _ _ _ _ e1 F n ρ a w _ hF hr hfr hok2 fun ρ1 a1 w1 k1 k2 k3 k4 => ?_).wpIn
      exact rok.code _ _ _ _ _ _ e2 F n ρ1 a1 w1 Q hF k1 k3 (by rw [k4]; exact hok) fun ρ2 a2 w2 q1 q2 q3 q4 =>
        hK ρ2 a2 w2 q1 (k2.trans hr k1 q2) q3 (q4.trans k4)
    · refine (rok.code _ _ _ _ _ _ e1 F n ρ a w _ hF hr hfr hok2 fun ρ1 a1 w1 k1 k2 k3 k4 => ?_).wpIn
      have := hK ρ1 a1 w1 k1 k2 k3 k4
      cases ex with
      | normal => exact absurd rfl e2
      | exit i => exact this
      | ret => exact this
  | cond c x y =>
    have hf : cCond R c x y fr h = some (ex, fr', h') := hf
    have hok2 : (okOpd P.globals.size c && okCode P.globals.size a.tmps.size x && okCode P.globals.size a.tmps.size y) = true := hok
    rw [Bool.and_eq_true, Bool.and_eq_true] at hok2
    unfold cCond at hf
    split at hf
    · rename_i e
      have hv := ev_ok hr hfr.tm hok2.1.1 e
      have hv2 : a.eval c = .bool true := by generalize a.eval c = cv at *; cases hv; rfl
      exact wpIn_cond_true hv2 (rok.code _ _ _ _ _ _ hf F n ρ a w Q hF hr hfr hok2.1.2 hK).wpIn
    · rename_i e
      have hv := ev_ok hr hfr.tm hok2.1.1 e
      have hv2 : a.eval c = .bool false := by generalize a.eval c = cv at *; cases hv; rfl
      exact wpIn_cond_false hv2 (rok.code _ _ _ _ _ _ hf F n ρ a w Q hF hr hfr hok2.2 hK).wpIn
    · cases hf
  | block id x =>
    have hf : cBlock id (R.code x fr h) = some (ex, fr', h') := hf
    have hok2 : okCode P.globals.size a.tmps.size x = true := hok
    refine wpIn_block ?_
    unfold cBlock at hf
    split at hf
    · rename_i i fr1 h1 e1
      refine (rok.code _ _ _ _ _ _ e1 F n ρ a w _ hF hr hfr hok2 fun ρ1 a1 w1 k1 k2 k3 k4 => ?_).wpIn
      show if i = id then Q .normal a1 w1 else Q (.exit i) a1 w1
      split at hf
      · rename_i hb
        cases hf
        rw [if_pos (Nat.eq_of_beq_eq_true hb)]
        exact hK ρ1 a1 w1 k1 k2 k3 k4
      · rename_i hb
        cases hf
        rw [if_neg (Nat.ne_of_beq_eq_false hb)]
        exact hK ρ1 a1 w1 k1 k2 k3 k4
    · rename_i hn
      refine (rok.code _ _ _ _ _ _ hf F n ρ a w _ hF hr hfr hok2 fun ρ1 a1 w1 k1 k2 k3 k4 => ?_).wpIn
      have := hK ρ1 a1 w1 k1 k2 k3 k4
      cases ex with
      | normal => exact this
      | exit i => exact (hn _ _ _ hf).elim
      | ret => exact this
  | scope x =>
    have hf : R.code x fr h = some (ex, fr', h') := hf
    have hok2 : okCode P.globals.size a.tmps.size x = true := hok
    refine wpIn_scope ?_
    refine (rok.code _ _ _ _ _ _ hf F n ρ a w _ hF hr hfr hok2 fun ρ1 a1 w1 k1 k2 k3 k4 => ?_).wpIn
    have := hK ρ1 a1 w1 k1 k2 k3 k4
    cases ex <;> exact this
  | rangeFunc g ps x y =>
    have hf : cRange X R g ps.toList x y fr h = some (ex, fr', h') := hf
    have hok2 : (okOpd P.globals.size g && (ps.toList.all fun p => Nat.blt p a.tmps.size) && okCode P.globals.size a.tmps.size x && okCode P.globals.size a.tmps.size y) = true := hok
    rw [Bool.and_eq_true, Bool.and_eq_true, Bool.and_eq_true] at hok2
    obtain ⟨⟨⟨o1, o2⟩, o3⟩, o4⟩ := hok2
    have hps : ∀ p ∈ ps.toList, p < a.tmps.size := fun p hp => blt_lt (List.all_eq_true.1 o2 p hp)
    refine wpIn_rangeFunc fun fn hfn => ?_
    unfold cRange at hf
    split at hf
    · rename_i fv e1 e2
      have hro : F.round = none := by have := hfr.round; rw [e2] at this; exact this
      obtain ⟨n1, n2⟩ := hr.new .defer (.deferred (some [])) 0 0 .defer
      have hρd : (ρ.put h.next ⟨w.heap.size, 0, 0, 0⟩) h.next = some ⟨w.heap.size, 0, 0, 0⟩ := Ren.put_same _ _ _
      have hv := (ev_ok hr hfr.tm o1 e1).mono n2.le
      have hfr1 : FrRel (ρ.put h.next ⟨w.heap.size, 0, 0, 0⟩) F ⟨fr.tm, h.next :: fr.marks, none⟩ { tmps := a.tmps, defers := { target := .collected w.heap.size, args := #[] } :: a.defers } :=
        ⟨hfr.tm.mono n2.le, .cons hρd (hfr.marks.mono n2.le), hro⟩
      obtain ⟨d', w1', f', args, w2, r1, r2, r3⟩ := rangeIn_ok (P := P) (n := n) (Q := Q) cx rok hF (a0 := a) fn n1 hfr1 rfl hρd hf hv hps o3 o4 fun ρ' a' w' k1 k2 k3 k4 => hK ρ' a' w' k1 (n2.trans hr n1 k2) k3 k4
      refine ⟨_, [{ target := .collected w.heap.size, args := #[] }], _, d', w1', f', args, w2, ?_, r1, fun _ _ => hF.fn _, r2, (fun e => by rw [hF.depth] at e; cases e), r3⟩
      rw [hro]
      rfl
    · rename_i fv l e1 e2
      split at hf
      · rename_i r hl
        have hro := hfr.round
        rw [e2] at hro
        obtain ⟨r0, q1, q2⟩ := hro
        obtain ⟨l', g1, g2⟩ := hr.loopAt hl q1
        obtain ⟨rd, d1, d2⟩ := g2.defers
        have hv := ev_ok hr hfr.tm o1 e1
        obtain ⟨d', w1', f', args, w2, r1, r2, r3⟩ := rangeIn_ok (P := P) (n := n) (Q := Q) cx rok hF (a0 := a) fn hr hfr rfl d1 hf hv hps o3 o4 hK
        refine ⟨_, [], _, d', w1', f', args, w2, ?_, r1, fun _ _ => hF.fn _, r2, (fun e => by rw [hF.depth] at e; cases e), r3⟩
        rw [q2, d2]
        simp only [Instr.enterLoop, Sem.run_bind, run_getLoop g1, Result.andThen_ok, Sem.run_pure, run_newObj]
      · cases hf
    · cases hf
  | _ => cases hf

/-! ### the end of a function -/
theorem Rel.del {ρ : Ren} {h : H} {w : World} (hr : Rel P ρ h w) {b : Nat} {o : AObj} {r : RB} (hb : h.tr.get b = some o) (hfl : h.floor ≤ b) (hρ : ρ b = some r) (O' : Obj) :
    Rel P ρ { h with tr := h.tr.del b } (putB w r.blk O') ∧ Ext ρ h w ρ { h with tr := h.tr.del b } (putB w r.blk O') := by
  have hget : ∀ x, (h.tr.del b).get x = if x = b then none else h.tr.get x := fun x => Tr.get_del _ _ _
  have hlive : ∀ x ox, (h.tr.del b).get x = some ox → x ≠ b ∧ h.tr.get x = some ox := fun x ox e => by
    rw [hget] at e
    by_cases hx : x = b
    · rw [if_pos hx] at e; cases e
    · rw [if_neg hx] at e; exact ⟨hx, e⟩
  constructor
  · constructor
    · intro x ox e
      obtain ⟨hx, e⟩ := hlive x ox e
      obtain ⟨rx, q1, obj, q2, q3⟩ := hr.dom x ox e
      refine ⟨rx, q1, obj, ?_, q3⟩
      rw [putB_ne]
      · exact q2
      · intro heq
        exact hx (hr.inj x b ox o rx r e hb q1 hρ heq)
    · intro x y ox oy rx ry ex ey qx qy heq
      exact hr.inj x y ox oy rx ry (hlive x ox ex).2 (hlive y oy ey).2 qx qy heq
    · exact hr.fresh
    · intro x ox e
      exact hr.dead x ox (hlive x ox e).2
    · exact hr.glob
    · exact hr.fl
    · exact hr.gfl
  · constructor
    · exact Ren.le_refl ρ
    · exact fun _ _ => rfl
    · exact Nat.le_refl _
    · rfl
    · intro x hx
      show (h.tr.del b).get x = _
      rw [hget, if_neg (by omega)]
    · intro x ox _ e; exact ⟨ox, (hlive x ox e).2⟩
    · intro x ox rx hx e _
      have := hr.dead x ox (hlive x ox e).2
      omega
    · rw [putB_size]; exact Nat.le_refl _
    · intro c hc hn
      exact putB_ne _ _ _ _ fun heq => hn b o r hb hfl hρ heq.symm
    · rfl
    · rfl
    · rfl

theorem marks_ok {F : Fence} {n : Nat} {fn : Func} {tmps : Array Value} {R : Ending → World → Prop} : ∀ (ms : List Nat) (ds : List Deferred) (ρ : Ren) (h h' : H) (w : World), Rel P ρ h w → MarksRel ρ ms ds → takeMarks ms h = some h' →
    (∀ w', Rel P ρ h' w' → Ext ρ h w ρ h' w' → LeavesIn F n P fn tmps R [] .returning w') → LeavesInM F n P fn tmps R ds .returning w := by
  intro ms
  induction ms with
  | nil =>
    intro ds ρ h h' w hr hm hf hK
    cases hm
    cases hf
    exact hK w hr (Ext.refl hr)
  | cons m ms ih =>
    intro ds ρ h h' w hr hm hf hK
    cases hm with
    | cons q1 q2 =>
      rename_i r ds
      have hf : (match h.tr.get m, Nat.ble h.floor m with
        | some .defer, true => takeMarks ms { h with tr := h.tr.del m }
        | _, _ => none) = some h' := hf
      split at hf
      · rename_i e1 e2
        have hfl := Nat.le_of_ble_eq_true e2
        obtain ⟨rx, d1, obj, d2, d3⟩ := hr.dom m _ e1
        rw [q1] at d1; cases d1
        cases d3
        obtain ⟨u1, u2⟩ := hr.del e1 hfl q1 (.deferred none)
        refine ⟨by simp, .inl ⟨r.blk, putB w r.blk (.deferred none), rfl, ?_, ?_⟩⟩
        · simp only [Instr.takeDeferred, getObj, setObj, Sem.run_bind, Sem.run, d2, Result.andThen]
          rfl
        · exact ih ds ρ _ h' _ u1 q2 hf fun w' k1 k2 => hK w' k1 (u2.trans hr u1 k2)
      · cases hf
end
end Go.Ae
end

section
/-
  AE: calls; the evaluator.
-/
namespace Go.Ae
section
variable {P : Program}

theorem results_nil (X : Ctx) (tm : Tr Value) (h : H) : results X tm h [] = some [] := rfl
theorem results_cons (X : Ctx) (tm : Tr Value) (h : H) (r : ResultVar) (rs : List ResultVar) (vs : List Value) :
    results X tm h (r :: rs) = some vs ↔ ∃ v us, resAt X tm h r = some v ∧ results X tm h rs = some us ∧ vs = v :: us := by
  show (match resAt X tm h r, results X tm h rs with
      | some v, some vs => some (v :: vs)
      | _, _ => none) = some vs ↔ _
  cases resAt X tm h r <;> cases results X tm h rs <;> simp [eq_comm]

abbrev resF (tmps : Array Value) : ResultVar → Sem Value
  | .tmp t => pure (tmps.getD t undef)
  | .cell a t => do loadVar t (← asAddr (tmps.getD a undef))

theorem results_ok {X : Ctx} (cx : CtxOk P X) {ρ : Ren} {h : H} {w : World} (hr : Rel P ρ h w) {tm : Tr Value} {tmps : Array Value} (ht : TmRel ρ tm tmps) : ∀ (rs : List ResultVar) (vs : List Value), results X tm h rs = some vs →
    ∃ vs', (rs.mapM (resF tmps)).run P w = .ok vs' w ∧ VsRel ρ vs vs' := by
  intro rs
  induction rs with
  | nil => intro vs hf; rw [results_nil] at hf; cases hf; exact ⟨[], by simp, .nil⟩
  | cons r rs ih =>
    intro vs hf
    obtain ⟨v, us, h1, h2, rfl⟩ := (results_cons _ _ _ _ _ _).1 hf
    obtain ⟨us', i1, i2⟩ := ih us h2
    have : ∃ v', (resF tmps r).run P w = .ok v' w ∧ VRel ρ v v' := by
      cases r with
      | tmp t => exact ⟨_, rfl, ht t v h1⟩
      | cell ad t =>
        unfold resAt at h1
        simp only at h1
        split at h1
        · rename_i i a0 e1 e2
          have hv := ht ad _ e2
          show ∃ v', (asAddr (tmps.getD ad undef) >>= fun y => loadVar t y : Sem Value).run P w = .ok v' w ∧ VRel ρ v v'
          generalize tmps.getD ad undef = u at hv ⊢
          cases hv with
          | ptr _ a' ha =>
            obtain ⟨v', q1, q2⟩ := loadVar_ok hr cx.types e1 ha h1
            have ha : (asAddr (.pointer (some a'))).run P w = .ok a' w := rfl
            exact ⟨v', by simp only [Sem.run_bind, ha, Result.andThen_ok, q1], q2⟩
        · cases h1
    obtain ⟨v', q1, q2⟩ := this
    refine ⟨v' :: us', ?_, .cons _ _ _ _ q2 i2⟩
    simp only [List.mapM_cons, Sem.run_bind, q1, Result.andThen_ok, i1, Sem.run_pure]

theorem results_run {X : Ctx} (cx : CtxOk P X) {ρ : Ren} {h : H} {w : World} (hr : Rel P ρ h w) {tm : Tr Value} {tmps : Array Value} (ht : TmRel ρ tm tmps) (fn : Func) {vs : List Value} (hf : results X tm h fn.results.toList = some vs) :
    ∃ v', (Go.results fn tmps).run P w = .ok v' w ∧ VRel ρ (oneOf vs) v' := by
  obtain ⟨vs', h1, h2⟩ := results_ok cx hr ht _ _ hf
  have h1' : (fn.results.mapM (resF tmps)).run P w = .ok vs'.toArray w := by
    rw [Array.mapM_eq_mapM_toList]
    simp [h1]
  refine ⟨(if h : vs'.toArray.size = 1 then vs'.toArray[0] else .tuple vs'.toArray), ?_, ?_⟩
  · unfold Go.results
    show ((fn.results.mapM (resF tmps) >>= fun vs => pure (if h : vs.size = 1 then vs[0] else .tuple vs) : Sem Value)).run P w = _
    simp only [Sem.run_bind, h1', Result.andThen_ok, Sem.run_pure]
  · cases h2 with
    | nil => exact .tuple _ _ .nil
    | cons v v' vs vs' x y =>
      cases y with
      | nil => exact x
      | cons u u' us us' x2 y2 =>
        rw [dif_neg (by simp)]
        exact .tuple _ _ (.cons _ _ _ _ x (.cons _ _ _ _ x2 y2))

theorem argsIn_cons (v : Value) (vs : List Value) (n : Nat) (t : Tr Value) : argsIn (v :: vs) n t = argsIn vs (n + 1) (t.set n v) := rfl

theorem argsIn_ok {ρ : Ren} {tmps : Array Value} : ∀ (l l' : List Value) (n : Nat) (t : Tr Value), VsRel ρ l l' → TmRel ρ t tmps → (∀ (i : Nat) v, l'[i]? = some v → tmps[n + i]? = some v) → TmRel ρ (argsIn l n t) tmps
  | _, _, n, t, .nil, ht, _ => ht
  | _, _, n, t, .cons v v' vs vs' x y, ht, hi => by
    rw [argsIn_cons]
    refine argsIn_ok vs vs' (n + 1) _ y ?_ fun i u hu => ?_
    · intro k u hk
      rw [Tr.get_set] at hk
      by_cases e : k = n
      · subst e
        rw [if_pos rfl] at hk; cases hk
        have := hi 0 v' (by simp)
        rw [Nat.add_zero] at this
        simpa [Array.getD_eq_getD_getElem?, this] using x
      · rw [if_neg e] at hk
        exact ht k u hk
    · have := hi (i + 1) u (by simpa using hu)
      rw [← this]; congr 1; omega

theorem okOper_mono {G n m : Nat} (h : n ≤ m) {o : Oper} (e : okOper G n o = true) : okOper G m o = true := by
  unfold okOper at e ⊢
  rw [Bool.and_eq_true] at e ⊢
  refine ⟨?_, e.2⟩
  cases hd : o.dst with
  | none => rfl
  | some d =>
    have := e.1
    rw [hd] at this
    have := blt_lt this
    show Nat.blt d m = true
    rw [blt_eq]; simp; omega

theorem okCode_mono {G n m : Nat} (h : n ≤ m) : ∀ (c : Code), okCode G n c = true → okCode G m c = true
  | .region id ops d, e => List.all_eq_true.2 fun o ho => okOper_mono h (List.all_eq_true.1 e o ho)
  | .seq a b, e => by
    have e : (okCode G n a && okCode G n b) = true := e
    rw [Bool.and_eq_true] at e
    show (okCode G m a && okCode G m b) = true
    rw [okCode_mono h a e.1, okCode_mono h b e.2]; rfl
  | .cond c a b, e => by
    have e : (okOpd G c && okCode G n a && okCode G n b) = true := e
    rw [Bool.and_eq_true, Bool.and_eq_true] at e
    show (okOpd G c && okCode G m a && okCode G m b) = true
    rw [okCode_mono h a e.1.2, okCode_mono h b e.2, e.1.1]; rfl
  | .block _ b, e => okCode_mono h b e
  | .loop b, e => okCode_mono h b e
  | .scope b, e => okCode_mono h b e
  | .rangeFunc f ps a b, e => by
    have e : (okOpd G f && (ps.toList.all fun p => Nat.blt p n) && okCode G n a && okCode G n b) = true := e
    rw [Bool.and_eq_true, Bool.and_eq_true, Bool.and_eq_true] at e
    show (okOpd G f && (ps.toList.all fun p => Nat.blt p m) && okCode G m a && okCode G m b) = true
    have : (ps.toList.all fun p => Nat.blt p m) = true := List.all_eq_true.2 fun p hp => by
      have := blt_lt (List.all_eq_true.1 e.1.1.2 p hp)
      rw [blt_eq]; simp; omega
    rw [okCode_mono h a e.1.2, okCode_mono h b e.2, e.1.1.1, this]; rfl
  | .skip, _ => rfl
  | .exit _, _ => rfl
  | .goto _, _ => rfl
  | .ret, _ => rfl
  | .label _, _ => rfl
  | .refuse .., _ => rfl

/-- what is asked of a program's functions -/
structure FnsOk (P : Program) (X : Ctx) : Prop where
  code : ∀ (f : FuncId) (fn : Func) (c : Code), P.funcs[f]? = some fn → fn.body = some c → okCode P.globals.size fn.ntmps c = true ∧ (fn.name == "runtime.NumGoroutine") = false
  summ : ∀ f g, X.summ f = some g → ∀ R, RecOk P R → ∀ vs h v h', g R vs h = some (v, h') → CallOk P f vs h v h'
  draw : ∀ R, RecOk P R → DrawOk P X R

theorem fn_ok {X : Ctx} (cx : CtxOk P X) (fx : FnsOk P X) {R : Rec} (rok : RecOk P R) {f : FuncId} {vs : List Value} {h : H} {v : Value} {h' : H} (hf : callFn X R (X.P.funcs[f]?) vs h = some (v, h')) : CallOk P f vs h v h' := by
  intro F n ρ w vs' K hF hr hv hK
  rw [cx.prog] at hf
  unfold callFn at hf
  split at hf
  · rename_i fn hfn
    split at hf
    · rename_i c hc
      obtain ⟨okc, hname⟩ := fx.code f fn c hfn hc
      have hrun : (callFunc f vs').run P w = .ok (.enter f vs') w := by
        have hprog : (program : Sem Program).run P w = .ok P w := rfl
        simp only [callFunc, Sem.run_bind, hprog, Result.andThen_ok, hfn, hname, hc]
        simp
      rw [hrun]
      show CallsIn F (n - 1) P f vs' w _
      cases hcode : R.code c ⟨argsIn vs 0 .nil, [], none⟩ h with
      | none => rw [hcode] at hf; cases hf
      | some res =>
        obtain ⟨ex, fr, h2⟩ := res
        rw [hcode] at hf
        have hnr : ∀ (G : Fence), FOk G → G.round = none → CallsIn G (n - 1) P f vs' w fun e w'' => ∃ v, e = .returned v ∧ K v w'' := by
          intro G hG hround
          refine callsIn_of_wp_marks hfn hc (hG.fn f) ?_ hround
          have hsz : (vs' ++ Array.replicate (fn.ntmps - vs'.size) undef).size = max vs'.size fn.ntmps := by simp; omega
          refine (rok.code _ _ _ _ _ _ hcode G (n - 1) ρ _ w _ hG hr ⟨?_, .nil, hround⟩ (okCode_mono (by show fn.ntmps ≤ (vs' ++ Array.replicate (fn.ntmps - vs'.size) undef).size; omega) c okc) fun ρ2 a2 w2 k1 k2 k3 k4 => ?_).wpIn
          · refine argsIn_ok vs vs'.toList 0 .nil hv (fun t v e => by rw [Tr.get_nil] at e; cases e) fun i u hu => ?_
            rw [Nat.zero_add]
            have hu' : vs'[i]? = some u := by rw [← Array.getElem?_toList]; exact hu
            have hlt : i < vs'.size := (Array.getElem?_eq_some_iff.1 hu').1
            rw [Array.getElem?_append_left hlt]; exact hu'
          · have fin : ∀ h3, takeMarks fr.marks h2 = some h3 → callRes X fn.results.toList fr h3 = some (v, h') → LeavesInM G (n - 1) P fn a2.tmps (fun e w'' => ∃ v, e = .returned v ∧ K v w'') a2.defers .returning w2 := by
              intro h3 hm hres
              refine marks_ok fr.marks a2.defers ρ2 h2 h3 w2 k1 k3.marks hm fun w3 q1 q2 => ?_
              unfold callRes at hres
              split at hres
              · rename_i us hus
                cases hres
                obtain ⟨v', p1, p2⟩ := results_run cx q1 (k3.tm.mono q2.le) fn hus
                exact ⟨v', p1, v', rfl, hK ρ2 w3 v' q1 (k2.trans hr k1 q2) p2⟩
              · cases hres
            unfold callEnd at hf
            split at hf
            · cases hf
            · rename_i ex' fr'' h'' hne heq
              cases heq
              split at hf
              · rename_i h3 hm
                have := fin h3 hm hf
                cases ex with
                | normal => exact this
                | exit i => exact (hne _ rfl).elim
                | ret => exact this
              · cases hf
            · rename_i heq; cases heq
        -- a round's fence and its function's are one for calls
        cases hro : F.round with
        | none => exact hnr F hF hro
        | some l =>
          have hF2 : FOk { F with round := none } := ⟨hF.fn, hF.depth⟩
          have := hnr { F with round := none } hF2 rfl
          have h2 := CallsIn.inRound l this
          have e : ({ F with round := none } : Fence).inRound l = F := by
            cases F; simp [Fence.inRound] at hro ⊢; exact hro.symm
          rw [e] at h2; exact h2
    · cases hf
  · cases hf

theorem call_ok {X : Ctx} (cx : CtxOk P X) (fx : FnsOk P X) {R : Rec} (rok : RecOk P R) (f : FuncId) (vs : List Value) (h : H) (v : Value) (h' : H) (hf : callStep X R f vs h = some (v, h')) : CallOk P f vs h v h' := by
  unfold callStep at hf
  split at hf
  · rename_i g hg
    exact fx.summ f g hg R rok vs h v h' hf
  · exact fn_ok cx fx rok hf

theorem step_ok {X : Ctx} (cx : CtxOk P X) (fx : FnsOk P X) {R : Rec} (rok : RecOk P R) : RecOk P (step X R) :=
  ⟨fun c fr h ex fr' h' hf => code_ok cx rok (fx.draw R rok) c fr h ex fr' h' hf, fun f vs h v h' hf => call_ok cx fx rok f vs h v h' hf⟩

theorem eval_ok {X : Ctx} (cx : CtxOk P X) (fx : FnsOk P X) : ∀ n, RecOk P (eval X n)
  | 0 => ⟨fun _ _ _ _ _ _ hf => (by cases hf), fun _ _ _ _ _ hf => (by cases hf)⟩
  | n + 1 => step_ok cx fx (eval_ok cx fx n)
end
end Go.Ae
end

section
/-
  AE: heaps with more, and with fewer objects; names.
-/
namespace Go.Ae
section
variable {P : Program}

/-- fewer objects -/
theorem Rel.sub {ρ : Ren} {hC : H} {w : World} (hr : Rel P ρ hC w) {h : H} (hs : ∀ b o, h.tr.get b = some o → hC.tr.get b = some o) (hn : hC.next ≤ h.next) (hf : h.floor ≤ h.next) (hg : P.globals.size ≤ h.floor) : Rel P ρ h w where
  dom := fun b o e => hr.dom b o (hs b o e)
  inj := fun b b' o o' r r' e e' => hr.inj b b' o o' r r' (hs _ _ e) (hs _ _ e')
  fresh := fun b r e => Nat.lt_of_lt_of_le (hr.fresh b r e) hn
  dead := fun b o e => Nat.lt_of_lt_of_le (hr.dead b o (hs b o e)) hn
  glob := hr.glob
  fl := hf
  gfl := hg

/-- what was there stays -/
theorem Rel.keep {ρ : Ren} {h : H} {w w' : World} (hr : Rel P ρ h w) (hk : ∀ c, c < w.heap.size → w'.heap[c]? = w.heap[c]?) : Rel P ρ h w' where
  dom := fun b o e => let ⟨r, q1, obj, q2, q3⟩ := hr.dom b o e; ⟨r, q1, obj, by rw [hk _ (Array.getElem?_eq_some_iff.1 q2).1]; exact q2, q3⟩
  inj := hr.inj
  fresh := hr.fresh
  dead := hr.dead
  glob := hr.glob
  fl := hr.fl
  gfl := hr.gfl

/-- a step over a part of the heap, seen from the whole -/
theorem Rel.frameE {ρ ρ' : Ren} {hC h h' hC' : H} {w w' : World} (hrC : Rel P ρ hC w) (hsub : ∀ b o, h.tr.get b = some o → hC.tr.get b = some o) (hn : h.next = hC.next) (hf : h.floor = hC.floor) (hlow : ∀ b, b < h.floor → h.tr.get b = hC.tr.get b)
    (hr' : Rel P ρ' h' w') (hx : Ext ρ h w ρ' h' w') (Z : Nat → Prop) (hZ : ∀ b, Z b → h.tr.get b = none ∧ b < h.next ∧ h.floor ≤ b) (ht : ∀ b, Z b → hC'.tr.get b = hC.tr.get b) (ht' : ∀ b, ¬ Z b → hC'.tr.get b = h'.tr.get b)
    (hn' : hC'.next = h'.next) (hf' : hC'.floor = h'.floor) : Rel P ρ' hC' w' ∧ Ext ρ hC w ρ' hC' w' := by
  have zdom : ∀ b o, Z b → hC.tr.get b = some o → ∃ r, ρ b = some r ∧ ∃ obj, w.heap[r.blk]? = some obj ∧ w'.heap[r.blk]? = some obj ∧ ORel P.globals.size ρ' r o obj := by
    intro b o hz e
    obtain ⟨r, q1, obj, q2, q3⟩ := hrC.dom b o e
    have hlt := (Array.getElem?_eq_some_iff.1 q2).1
    refine ⟨r, q1, obj, q2, ?_, q3.mono hx.le⟩
    rw [hx.frame r.blk hlt]
    · exact q2
    · intro b2 o2 r2 e2 _ e3 heq
      have := hrC.inj b2 b o2 o r2 r (hsub _ _ e2) e e3 q1 heq
      subst this
      have := (hZ _ hz).1
      rw [e2] at this; cases this
  -- a block of the part's heap, afterwards, is none of the rest's
  have zne : ∀ b o b2 o2 r r2, Z b → hC.tr.get b = some o → ρ b = some r → ¬ Z b2 → h'.tr.get b2 = some o2 → ρ' b2 = some r2 → r2.blk ≠ r.blk := by
    intro b o b2 o2 r r2 hz e q hz2 e2 q2 heq
    obtain ⟨r1, q1, obj, q3, _⟩ := hrC.dom b o e
    rw [q] at q1; cases q1
    have hlt := (Array.getElem?_eq_some_iff.1 q3).1
    have hzb := hZ b hz
    by_cases hb2 : b2 < h.next
    · obtain ⟨o3, e3⟩ := hx.live b2 o2 hb2 e2
      obtain ⟨r3, q4, _⟩ := hrC.dom b2 o3 (hsub _ _ e3)
      have := hx.le _ _ q4
      rw [q2] at this; cases this
      have := hrC.inj b2 b o3 o _ _ (hsub _ _ e3) e q4 q heq
      subst this
      rw [hzb.1] at e3; cases e3
    · rcases hx.new b2 o2 r2 (by omega) e2 q2 with h1 | ⟨b0, o0, r0, h1, h2, h3, h4⟩
      · omega
      · have := hrC.inj b0 b o0 o r0 r (hsub _ _ h1) e h3 q (h4.trans heq)
        subst this
        rw [hzb.1] at h1; cases h1
  have cases' : ∀ b o, hC'.tr.get b = some o → (Z b ∧ hC.tr.get b = some o) ∨ (¬ Z b ∧ h'.tr.get b = some o) := fun b o e => by
    by_cases hz : Z b
    · exact .inl ⟨hz, by rw [← ht b hz]; exact e⟩
    · exact .inr ⟨hz, by rw [← ht' b hz]; exact e⟩
  constructor
  · constructor
    · intro b o e
      rcases cases' b o e with ⟨hz, e⟩ | ⟨hz, e⟩
      · obtain ⟨r, q1, obj, _, q2, q3⟩ := zdom b o hz e
        exact ⟨r, hx.le _ _ q1, obj, q2, q3⟩
      · exact hr'.dom b o e
    · intro b b2 o o2 r r2 e e2 q q2 heq
      rcases cases' b o e with ⟨hz, e⟩ | ⟨hz, e⟩
      · obtain ⟨rr, p1, _⟩ := hrC.dom b o e
        have := hx.le _ _ p1
        rw [q] at this; cases this
        rcases cases' b2 o2 e2 with ⟨hz2, e2⟩ | ⟨hz2, e2⟩
        · obtain ⟨rr2, p2, _⟩ := hrC.dom b2 o2 e2
          have := hx.le _ _ p2
          rw [q2] at this; cases this
          exact hrC.inj b b2 o o2 _ _ e e2 p1 p2 heq
        · exact absurd heq.symm (zne b o b2 o2 _ _ hz e p1 hz2 e2 q2)
      · rcases cases' b2 o2 e2 with ⟨hz2, e2⟩ | ⟨hz2, e2⟩
        · obtain ⟨rr2, p2, _⟩ := hrC.dom b2 o2 e2
          have := hx.le _ _ p2
          rw [q2] at this; cases this
          exact absurd heq (zne b2 o2 b o _ _ hz2 e2 p2 hz e q)
        · exact hr'.inj b b2 o o2 r r2 e e2 q q2 heq
    · intro b r e; rw [hn']; exact hr'.fresh b r e
    · intro b o e
      rw [hn']
      rcases cases' b o e with ⟨hz, e⟩ | ⟨hz, e⟩
      · have := (hZ b hz).2.1
        have := hx.next
        omega
      · exact hr'.dead b o e
    · exact hr'.glob
    · rw [hn', hf']; exact hr'.fl
    · rw [hf']; exact hr'.gfl
  · constructor
    · exact hx.le
    · intro b hb; exact hx.old b (by rw [hn]; exact hb)
    · rw [hn', ← hn]; exact hx.next
    · rw [hf', hx.floor, hf]
    · intro b hb
      have hz : ¬ Z b := fun hz => by have := (hZ b hz).2.2; omega
      rw [ht' b hz, hx.low b (by omega)]
      exact hlow b (by omega)
    · intro b o hb e
      rcases cases' b o e with ⟨hz, e⟩ | ⟨hz, e⟩
      · exact ⟨o, e⟩
      · obtain ⟨o', e'⟩ := hx.live b o (by omega) e
        exact ⟨o', hsub b o' e'⟩
    · intro b o r hb e q
      rcases cases' b o e with ⟨hz, e⟩ | ⟨hz, e⟩
      · have := (hZ b hz).2.1; omega
      · rcases hx.new b o r (by omega) e q with h1 | ⟨b0, o0, r0, h1, h2, h3, h4⟩
        · exact .inl h1
        · exact .inr ⟨b0, o0, r0, hsub _ _ h1, by omega, h3, h4⟩
    · exact hx.size
    · intro c hc hh
      exact hx.frame c hc fun b o r e hb q => hh b o r (hsub _ _ e) (by omega) q
    · exact hx.os
    · exact hx.output
    · exact hx.tape

theorem exists_tr {α : Type} (t : Tr α) (g : Nat → Option α) (p : Nat → Bool) : ∀ l : List Nat, ∃ t' : Tr α, ∀ b, t'.get b = if l.contains b && p b then g b else t.get b
  | [] => ⟨t, fun b => by simp⟩
  | x :: l => by
    obtain ⟨t', h⟩ := exists_tr t g p l
    by_cases hx : p x = true
    · cases hg : g x with
      | none =>
        refine ⟨t'.del x, fun b => ?_⟩
        rw [Tr.get_del, h]
        by_cases hb : b = x
        · subst hb; simp [hx, hg]
        · simp [hb]
      | some o =>
        refine ⟨t'.set x o, fun b => ?_⟩
        rw [Tr.get_set, h]
        by_cases hb : b = x
        · subst hb; simp [hx, hg]
        · simp [hb]
    · refine ⟨t', fun b => ?_⟩
      rw [h]
      by_cases hb : b = x
      · subst hb; simp [hx]
      · simp [hb]

/-! ### names that are below a bound -/
theorem ARel.below {ρ ρ' : Ren} (h : ∀ b r, b < big → ρ b = some r → ρ' b = some r) {a a' : Addr} (hb : Nat.blt a.block big = true) : ARel ρ a a' → ARel ρ' a a'
  | ⟨h1, r, h2, h3⟩ => ⟨h1, r, h _ _ (blt_lt hb) h2, h3⟩

theorem belowL {ρ ρ' : Ren} {f : Nat} (ih : ∀ v, belowF f v = true → ∀ v', VRel ρ v v' → VRel ρ' v v') : ∀ {l : List Value}, List.all l (belowF f) = true → ∀ {l'}, VsRel ρ l l' → VsRel ρ' l l'
  | [], _, _, .nil => .nil
  | v :: vs, h, _, .cons _ v' _ vs' x y => by
    simp only [List.all_cons, Bool.and_eq_true] at h
    exact .cons _ _ _ _ (ih v h.1 v' x) (belowL ih h.2 y)

theorem belowF_rel {ρ ρ' : Ren} (h : ∀ b r, b < big → ρ b = some r → ρ' b = some r) : ∀ (f : Nat) (v : Value), belowF f v = true → ∀ v', VRel ρ v v' → VRel ρ' v v' := by
  intro f
  induction f with
  | zero => intro v hv; simp [belowF] at hv
  | succ f ih =>
    intro v hv v' r
    cases r with
    | bool b => exact .bool b
    | int k n => exact .int k n
    | float k n => exact .float k n
    | complex k n m => exact .complex k n m
    | string s => exact .string s
    | ptrN => exact .ptrN
    | ptr a a' x => exact .ptr a a' (x.below h hv)
    | sliceN n c => exact .sliceN n c
    | slice a a' n c x y => exact .slice a a' n c (x.below h hv) y
    | sliceX a a' n c' r x y z q u t => exact .sliceX a a' n c' r (h _ _ (blt_lt hv) x) (y.below h hv) z q u t
    | sliceE a a' c x => exact .sliceE a a' c x
    | mapN => exact .mapN
    | map m r x => exact .map m r (h _ _ (blt_lt hv) x)
    | chanN => exact .chanN
    | stamp => simp [belowF] at hv
    | func g a a' c c' x y =>
      simp only [belowF, Bool.and_eq_true] at hv
      exact .func g a a' c c' (belowL ih hv.1 x) (belowL ih hv.2 y)
    | yield => simp [belowF] at hv
    | nilFunc => exact .nilFunc
    | iface t v v' x => simp only [belowF] at hv; exact .iface t v v' (ih v hv v' x)
    | nilIface => exact .nilIface
    | agg c c' x => simp only [belowF] at hv; exact .agg c c' (belowL ih hv x)
    | tuple c c' x => simp only [belowF] at hv; exact .tuple c c' (belowL ih hv x)

theorem belowV_rel {ρ ρ' : Ren} (h : ∀ b r, b < big → ρ b = some r → ρ' b = some r) {v v' : Value} (hv : belowV v = true) (r : VRel ρ v v') : VRel ρ' v v' := belowF_rel h 20 v hv v' r

theorem belowO_rel {ρ ρ' : Ren} (h : ∀ b r, b < big → ρ b = some r → ρ' b = some r) {G : Nat} {rb : RB} {o : AObj} {O : Obj} (ho : belowO o = true) (r : ORel G ρ rb o O) : ORel G ρ' rb o O := by
  cases r with
  | cells y =>
    refine .cells ⟨fun i v e => ?_, y.size, y.ex, y.en, y.es, y.fz⟩
    obtain ⟨v', a, b⟩ := y.at_ i v e
    exact ⟨v', a, belowV_rel h (List.all_eq_true.1 ho v (List.mem_of_getElem? e)) b⟩
  | @map es ces clock y =>
    cases es with
    | nil =>
      obtain ⟨⟨l, a, b⟩, c, d⟩ := y
      cases b
      exact .map ⟨⟨[], a, .nil⟩, c, d⟩
    | cons e es => simp [belowO] at ho
  | siter z => exact .siter z
  | loop => simp [belowO] at ho
  | defer => exact .defer
  | ghost => simp [belowO] at ho

/-! ### what changes nothing -/
theorem bare_rel {ρ : Ren} {hC : H} {w : World} (hr : Rel P ρ hC w) (hb : hC.next ≤ big) {tr : Tr AObj} (hs : ∀ b o, tr.get b = some o → hC.tr.get b = some o) : Rel P ρ (bare tr) w :=
  hr.sub hs hb (Nat.le_refl _) (Nat.le_trans hr.gfl (Nat.le_trans hr.fl hb))

theorem bare_frame {ρ ρ' : Ren} {tr : Tr AObj} {h' : H} {w w' : World} (hb : Rel P ρ (bare tr) w) (hx : Ext ρ (bare tr) w ρ' h' w') : ∀ c, c < w.heap.size → w'.heap[c]? = w.heap[c]? := by
  intro c hc
  refine hx.frame c hc fun b o r e hfl _ => ?_
  have h1 := hb.dead b o e
  have h2 : big ≤ b := hfl
  have h3 : b < big := h1
  omega

theorem Ext.keep {ρ0 ρ : Ren} {h0 hC : H} {w0 w w' : World} (hx : Ext ρ0 h0 w0 ρ hC w) (hs : w.heap.size ≤ w'.heap.size) (hk : ∀ c, c < w.heap.size → w'.heap[c]? = w.heap[c]?) (h1 : w'.os = w.os) (h2 : w'.output = w.output) (h3 : w'.tape = w.tape) : Ext ρ0 h0 w0 ρ hC w' where
  le := hx.le
  old := hx.old
  next := hx.next
  floor := hx.floor
  low := hx.low
  live := hx.live
  new := hx.new
  size := Nat.le_trans hx.size hs
  frame := fun c hc hh => (hk c (Nat.lt_of_lt_of_le hc hx.size)).trans (hx.frame c hc hh)
  os := h1.trans hx.os
  output := h2.trans hx.output
  tape := h3.trans hx.tape

/-- a value came, and nothing else -/
theorem bare_read {ρ0 ρ ρ' : Ren} {h0 hC h' : H} {w0 w w' : World} {tr : Tr AObj} (hr : Rel P ρ hC w) (hx0 : Ext ρ0 h0 w0 ρ hC w) (hb : hC.next ≤ big) (hs : ∀ b o, tr.get b = some o → hC.tr.get b = some o)
    (hr' : Rel P ρ' h' w') (hx : Ext ρ (bare tr) w ρ' h' w') (hn : h'.next = big) : ρ' = ρ ∧ Rel P ρ hC w' ∧ Ext ρ0 h0 w0 ρ hC w' := by
  have hbr := bare_rel hr hb hs
  have hk := bare_frame hbr hx
  refine ⟨?_, hr.keep hk, hx0.keep hx.size hk hx.os hx.output hx.tape⟩
  funext b
  by_cases h1 : b < big
  · exact hx.old b h1
  · have h2 : ρ b = none := by
      cases e : ρ b with
      | none => rfl
      | some r => exact absurd (Nat.lt_of_lt_of_le (hr.fresh b r e) hb) h1
    have h3 : ρ' b = none := by
      cases e : ρ' b with
      | none => rfl
      | some r => exact absurd (hn ▸ hr'.fresh b r e) h1
    rw [h2, h3]

/-- a new object, under a name that was kept for it -/
theorem Rel.newAt {ρ0 ρ : Ren} {h0 hC : H} {w0 w w' : World} (hr : Rel P ρ hC w) (hx : Ext ρ0 h0 w0 ρ hC w) {b : Nat} (hρ : ρ b = none) (hlt : b < hC.next) (hge : h0.next ≤ b) (hfl0 : h0.floor ≤ h0.next)
    {o : AObj} {O : Obj} {r : RB} (hs : w.heap.size ≤ w'.heap.size) (hk : ∀ c, c < w.heap.size → w'.heap[c]? = w.heap[c]?) (hblk : w.heap.size ≤ r.blk) (hat : w'.heap[r.blk]? = some O) (ho : ORel P.globals.size (ρ.put b r) r o O)
    (h1 : w'.os = w.os) (h2 : w'.output = w.output) (h3 : w'.tape = w.tape) :
    Rel P (ρ.put b r) { hC with tr := hC.tr.set b o } w' ∧ Ext ρ0 h0 w0 (ρ.put b r) { hC with tr := hC.tr.set b o } w' := by
  have hle : ρ.le (ρ.put b r) := Ren.le_put hρ
  have hget : ∀ x, (hC.tr.set b o).get x = if x = b then some o else hC.tr.get x := fun x => Tr.get_set _ _ _ _
  have old : ∀ x ox, x ≠ b → (hC.tr.set b o).get x = some ox → hC.tr.get x = some ox := fun x ox hx e => by rw [hget, if_neg hx] at e; exact e
  constructor
  · constructor
    · intro x ox e
      by_cases hb : x = b
      · subst hb
        have e : (hC.tr.set x o).get x = some ox := e
        rw [hget, if_pos rfl] at e; cases e
        exact ⟨r, Ren.put_same _ _ _, O, hat, ho⟩
      · obtain ⟨rx, q1, obj, q2, q3⟩ := hr.dom x ox (old x ox hb e)
        exact ⟨rx, hle _ _ q1, obj, by rw [hk _ (Array.getElem?_eq_some_iff.1 q2).1]; exact q2, q3.mono hle⟩
    · intro x y ox oy rx ry ex ey qx qy heq
      have lt : ∀ z oz rz, z ≠ b → (hC.tr.set b o).get z = some oz → (ρ.put b r) z = some rz → rz.blk < w.heap.size := fun z oz rz hz e q => by
        obtain ⟨r2, p1, obj, p2, _⟩ := hr.dom z oz (old z oz hz e)
        rw [Ren.put_ne hz, p1] at q; cases q
        exact (Array.getElem?_eq_some_iff.1 p2).1
      by_cases hxb : x = b
      · by_cases hyb : y = b
        · rw [hxb, hyb]
        · exfalso
          have := lt y oy ry hyb ey qy
          subst hxb
          rw [Ren.put_same] at qx; cases qx
          omega
      · by_cases hyb : y = b
        · exfalso
          have := lt x ox rx hxb ex qx
          subst hyb
          rw [Ren.put_same] at qy; cases qy
          omega
        · rw [Ren.put_ne hxb] at qx
          rw [Ren.put_ne hyb] at qy
          exact hr.inj x y ox oy rx ry (old x ox hxb ex) (old y oy hyb ey) qx qy heq
    · intro x rx e
      by_cases hb : x = b
      · subst hb; exact hlt
      · rw [Ren.put_ne hb] at e; exact hr.fresh x rx e
    · intro x ox e
      by_cases hb : x = b
      · subst hb; exact hlt
      · exact hr.dead x ox (old x ox hb e)
    · intro g hg; exact hle _ _ (hr.glob g hg)
    · exact hr.fl
    · exact hr.gfl
  · constructor
    · exact Ren.le_trans hx.le hle
    · intro x hxl; rw [Ren.put_ne (by omega)]; exact hx.old x hxl
    · exact hx.next
    · exact hx.floor
    · intro x hxl
      show (hC.tr.set b o).get x = _
      rw [hget, if_neg (by omega)]; exact hx.low x hxl
    · intro x ox hxl e
      exact hx.live x ox hxl (old x ox (by omega) e)
    · intro x ox rx hxl e q
      by_cases hb : x = b
      · subst hb
        rw [Ren.put_same] at q; cases q
        exact .inl (Nat.le_trans hx.size hblk)
      · rw [Ren.put_ne hb] at q
        exact hx.new x ox rx hxl (old x ox hb e) q
    · exact Nat.le_trans hx.size hs
    · intro c hc hh; rw [hk c (Nat.lt_of_lt_of_le hc hx.size)]; exact hx.frame c hc hh
    · exact h1.trans hx.os
    · exact h2.trans hx.output
    · exact h3.trans hx.tape

/-- an object that came in the region becomes another one -/
theorem Rel.updAt {ρ0 ρ ρ' : Ren} {h0 hC : H} {w0 w w' : World} (hr : Rel P ρ hC w) (hx : Ext ρ0 h0 w0 ρ hC w) {b : Nat} {o o' : AObj} {r : RB} {O' : Obj} (hb : hC.tr.get b = some o) (hρ : ρ b = some r) (hge : h0.next ≤ b) (hfl0 : h0.floor ≤ h0.next)
    (hle : ρ.le ρ') (hold : ∀ x, x < h0.next → ρ' x = ρ x) (hfresh : ∀ x q, ρ' x = some q → x < hC.next)
    (hs : w.heap.size ≤ w'.heap.size) (hk : ∀ c, c < w.heap.size → c ≠ r.blk → w'.heap[c]? = w.heap[c]?) (hat : w'.heap[r.blk]? = some O') (ho : ORel P.globals.size ρ' r o' O')
    (h1 : w'.os = w.os) (h2 : w'.output = w.output) (h3 : w'.tape = w.tape) :
    Rel P ρ' { hC with tr := hC.tr.set b o' } w' ∧ Ext ρ0 h0 w0 ρ' { hC with tr := hC.tr.set b o' } w' := by
  have hget : ∀ x, (hC.tr.set b o').get x = if x = b then some o' else hC.tr.get x := fun x => Tr.get_set _ _ _ _
  have old : ∀ x ox, x ≠ b → (hC.tr.set b o').get x = some ox → hC.tr.get x = some ox := fun x ox hx e => by rw [hget, if_neg hx] at e; exact e
  have live : ∀ x ox, (hC.tr.set b o').get x = some ox → ∃ oz, hC.tr.get x = some oz := fun x ox e => by
    by_cases hxb : x = b
    · subst hxb; exact ⟨o, hb⟩
    · exact ⟨ox, old x ox hxb e⟩
  have back : ∀ x ox rx, (hC.tr.set b o').get x = some ox → ρ' x = some rx → ρ x = some rx := fun x ox rx e q => by
    obtain ⟨oz, ez⟩ := live x ox e
    obtain ⟨r2, p1, _⟩ := hr.dom x oz ez
    have := hle _ _ p1
    rw [q] at this; cases this; exact p1
  constructor
  · constructor
    · intro x ox e
      by_cases hxb : x = b
      · subst hxb
        have e : (hC.tr.set x o').get x = some ox := e
        rw [hget, if_pos rfl] at e; cases e
        exact ⟨r, hle _ _ hρ, O', hat, ho⟩
      · obtain ⟨rx, q1, obj, q2, q3⟩ := hr.dom x ox (old x ox hxb e)
        refine ⟨rx, hle _ _ q1, obj, ?_, q3.mono hle⟩
        rw [hk _ (Array.getElem?_eq_some_iff.1 q2).1]
        · exact q2
        · intro heq
          exact hxb (hr.inj x b ox o rx r (old x ox hxb e) hb q1 hρ heq)
    · intro x y ox oy rx ry ex ey qx qy heq
      obtain ⟨oz, ez⟩ := live x ox ex
      obtain ⟨ov, ev⟩ := live y oy ey
      exact hr.inj x y oz ov rx ry ez ev (back x ox rx ex qx) (back y oy ry ey qy) heq
    · exact hfresh
    · intro x ox e
      obtain ⟨oz, ez⟩ := live x ox e
      exact hr.dead x oz ez
    · intro g hg; exact hle _ _ (hr.glob g hg)
    · exact hr.fl
    · exact hr.gfl
  · constructor
    · exact Ren.le_trans hx.le hle
    · intro x hxl; rw [hold x hxl]; exact hx.old x hxl
    · exact hx.next
    · exact hx.floor
    · intro x hxl
      show (hC.tr.set b o').get x = _
      rw [hget, if_neg (by omega)]; exact hx.low x hxl
    · intro x ox hxl e
      exact hx.live x ox hxl (old x ox (by omega) e)
    · intro x ox rx hxl e q
      obtain ⟨oz, ez⟩ := live x ox e
      exact hx.new x oz rx hxl ez (back x ox rx e q)
    · exact Nat.le_trans hx.size hs
    · intro c hc hh
      by_cases hcr : c = r.blk
      · exfalso
        rcases hx.new b o r hge hb hρ with h4 | ⟨b0, o0, r0, e0, e1, e2, e3⟩
        · omega
        · exact hh b0 o0 r0 e0 e1 e2 (e3.trans hcr.symm)
      · rw [hk c (Nat.lt_of_lt_of_le hc hx.size) hcr]; exact hx.frame c hc hh
    · exact h1.trans hx.os
    · exact h2.trans hx.output
    · exact h3.trans hx.tape

theorem EsRel.ofPerm {ρ : Ren} {a b : List ME} (hp : List.Perm a b) : ∀ {l : List MapEntry}, EsRel ρ a l → ∃ l', EsRel ρ b l' ∧ List.Perm l l' := by
  induction hp with
  | nil => intro l h; exact ⟨l, h, .refl _⟩
  | cons x _ ih =>
    intro l h
    cases h with
    | cons h1 h2 =>
      obtain ⟨l', p1, p2⟩ := ih h2
      exact ⟨_, .cons h1 p1, .cons _ p2⟩
  | swap x y _ =>
    intro l h
    cases h with
    | cons h1 h2 =>
      cases h2 with
      | cons h3 h4 => exact ⟨_, .cons h3 (.cons h1 h4), .swap _ _ _⟩
  | trans _ _ ih1 ih2 =>
    intro l h
    obtain ⟨l1, p1, p2⟩ := ih1 h
    obtain ⟨l2, q1, q2⟩ := ih2 p1
    exact ⟨l2, q1, p2.trans q2⟩

/-- the same objects, maps' entries in another order -/
def ObjSame (o o' : Option AObj) : Prop := o = o' ∨ ∃ es es', o = some (.map es) ∧ o' = some (.map es') ∧ List.Perm es es'

theorem Rel.same {ρ0 ρ : Ren} {h0 hC hF : H} {w0 w : World} (hr : Rel P ρ hC w) (hx : Ext ρ0 h0 w0 ρ hC w) (_hfl0 : h0.floor ≤ h0.next) (hs : ∀ b, ObjSame (hC.tr.get b) (hF.tr.get b)) (hlow : ∀ b, b < h0.floor → hF.tr.get b = hC.tr.get b) (hn : hF.next = hC.next) (hf : hF.floor = hC.floor) :
    Rel P ρ hF w ∧ Ext ρ0 h0 w0 ρ hF w := by
  have live : ∀ b o, hF.tr.get b = some o → ∃ o', hC.tr.get b = some o' := fun b o e => by
    rcases hs b with h | ⟨es, es', h1, h2, _⟩
    · exact ⟨o, h.trans e⟩
    · exact ⟨_, h1⟩
  constructor
  · constructor
    · intro b o e
      rcases hs b with h | ⟨es, es', h1, h2, hp⟩
      · exact hr.dom b o (h.trans e)
      · obtain ⟨r, q1, obj, q2, q3⟩ := hr.dom b _ h1
        rw [e] at h2; cases h2
        refine ⟨r, q1, obj, q2, ?_⟩
        cases q3 with
        | map y =>
          obtain ⟨⟨l, p1, p2⟩, p3, p4⟩ := y
          obtain ⟨l', t1, t2⟩ := p2.ofPerm hp
          exact .map ⟨⟨l', t2.symm.trans p1, t1⟩, p3, p4⟩
    · intro b b' o o' r r' e e'
      obtain ⟨o1, e1⟩ := live b o e
      obtain ⟨o2, e2⟩ := live b' o' e'
      exact hr.inj b b' o1 o2 r r' e1 e2
    · intro b r e; rw [hn]; exact hr.fresh b r e
    · intro b o e
      obtain ⟨o1, e1⟩ := live b o e
      rw [hn]; exact hr.dead b o1 e1
    · exact hr.glob
    · rw [hn, hf]; exact hr.fl
    · rw [hf]; exact hr.gfl
  · constructor
    · exact hx.le
    · exact hx.old
    · rw [hn]; exact hx.next
    · rw [hf]; exact hx.floor
    · intro b hb; rw [hlow b hb]; exact hx.low b hb
    · intro b o hb e
      obtain ⟨o1, e1⟩ := live b o e
      exact hx.live b o1 hb e1
    · intro b o r hb e q
      obtain ⟨o1, e1⟩ := live b o e
      exact hx.new b o1 r hb e1 q
    · exact hx.size
    · exact hx.frame
    · exact hx.os
    · exact hx.output
    · exact hx.tape
end
end Go.Ae
end

section
/-
  AE: what a checked plan of an open region says.
-/
namespace Go.Ae

/-- what a done set owes -/
def Closed (ops : Array Oper) (D : Nat → Prop) : Prop := ∀ (i : Nat) (o : Oper), ops[i]? = some o → D i → ∀ e ∈ o.after, Region.binds .any e = true → D e.on
def Ready (ops : Array Oper) (D : Nat → Prop) (i : Nat) : Prop := ∀ (o : Oper), ops[i]? = some o → ∀ e ∈ o.after, Region.binds .any e = true → D e.on

theorem emask_bit (md : Region.Mode) (j : Nat) : ∀ (l : List Edge) (s : Nat), (l.foldl (fun s e => if Region.binds md e then s ||| 2 ^ e.on else s) s).testBit j = true → s.testBit j = true ∨ ∃ e ∈ l, Region.binds md e = true ∧ e.on = j
  | [], s, h => .inl h
  | e :: l, s, h => by
    rw [List.foldl_cons] at h
    rcases emask_bit md j l _ h with h1 | ⟨e', h1, h2⟩
    · by_cases hb : Region.binds md e = true
      · rw [if_pos hb, Nat.testBit_or, Bool.or_eq_true] at h1
        rcases h1 with h1 | h1
        · exact .inl h1
        · rw [Nat.testBit_two_pow] at h1
          exact .inr ⟨e, by simp, hb, of_decide_eq_true h1⟩
      · rw [if_neg hb] at h1; exact .inl h1
    · exact .inr ⟨e', by simp [h1], h2⟩

def MaskOk (ops : Array Oper) (p : Nat × Nat) : Prop := ∀ D, Closed ops D → (D p.1 ∨ Ready ops D p.1) → ∀ j, p.2.testBit j = true → D j

theorem mask_fold (em j : Nat) : ∀ (acc : List (Nat × Nat)) (s : Nat), (acc.foldl (fun s p => if em.testBit p.1 then s ||| p.2 else s) s).testBit j = true → s.testBit j = true ∨ ∃ p ∈ acc, em.testBit p.1 = true ∧ p.2.testBit j = true
  | [], s, h => .inl h
  | p :: acc, s, h => by
    rw [List.foldl_cons] at h
    rcases mask_fold em j acc _ h with h1 | ⟨q, h1, h2⟩
    · by_cases hb : em.testBit p.1 = true
      · rw [if_pos hb, Nat.testBit_or, Bool.or_eq_true] at h1
        rcases h1 with h1 | h1
        · exact .inl h1
        · exact .inr ⟨p, by simp, hb, h1⟩
      · rw [if_neg hb] at h1; exact .inl h1
    · exact .inr ⟨q, by simp [h1], h2⟩

theorem masksGo_ok (ops : Array Oper) : ∀ (is : List Nat) (acc : List (Nat × Nat)), (∀ p ∈ acc, MaskOk ops p) → ∀ p ∈ masksGo ops is acc, MaskOk ops p
  | [], acc, h, p, hp => h p hp
  | i :: is, acc, h, p, hp => by
    unfold masksGo at hp
    split at hp
    · rename_i o ho
      refine masksGo_ok ops is _ (fun q hq => ?_) p hp
      rcases List.mem_cons.1 hq with rfl | hq
      · intro D hc hd j hj
        simp only at hd hj
        have direct : ∀ k, (emask .any o).testBit k = true → D k := fun k hk => by
          rcases emask_bit .any k o.after.toList 0 hk with h1 | ⟨e, h1, h2, h3⟩
          · simp at h1
          · subst h3
            rcases hd with hd | hd
            · exact hc i o ho hd e (by simpa using h1) h2
            · exact hd o ho e (by simpa using h1) h2
        rcases mask_fold (emask .any o) j acc _ hj with h1 | ⟨q, h1, h2, h3⟩
        · exact direct j h1
        · exact h q h1 D hc (.inl (direct _ h2)) j h3
      · exact h q hq
    · exact masksGo_ok ops is acc h p hp

def Masks (ops : Array Oper) (ms : List (Nat × Nat)) : Prop := ∀ i D, Closed ops D → (D i ∨ Ready ops D i) → ∀ j, (maskAt ms i).testBit j = true → D j

theorem masks_ok (ops : Array Oper) (is : List Nat) : Masks ops (masksGo ops is []) := by
  intro i D hc hd j hj
  unfold maskAt at hj
  split at hj
  · rename_i m hm
    have hmem : (i, m) ∈ masksGo ops is [] := by
      obtain ⟨l1, l2, h1, _⟩ := List.lookup_eq_some_iff.1 hm
      rw [h1]; simp
    exact masksGo_ok ops is [] (by simp) _ hmem D hc hd j hj
  · simp at hj

/-- somebody is always ready -/
theorem keepsB_ok (md : Region.Mode) (ops : Array Oper) (D : Nat → Prop) : ∀ (l seen : List Nat), keepsB md ops l seen = true → (∀ s ∈ seen, D s) →
    (∀ i ∈ l, D i) ∨ ∃ i o, ops[i]? = some o ∧ ¬ D i ∧ ∀ e ∈ o.after, Region.binds md e = true → D e.on
  | [], _, _, _ => .inl (by simp)
  | i :: is, seen, h, hs => by
    unfold keepsB at h
    rw [Bool.and_eq_true] at h
    obtain ⟨h1, h2⟩ := h
    split at h1
    · rename_i o ho
      have hall : ∀ e ∈ o.after, Region.binds md e = true → D e.on := fun e he hb => by
        have := List.all_eq_true.1 h1 e (by simpa using he)
        rw [hb] at this
        simp at this
        exact hs _ this
      by_cases hd : D i
      · rcases keepsB_ok md ops D is (i :: seen) h2 (fun s hm => by
          rcases List.mem_cons.1 hm with rfl | hm
          · exact hd
          · exact hs s hm) with h3 | h3
        · exact .inl fun j hj => by
            rcases List.mem_cons.1 hj with rfl | hj
            · exact hd
            · exact h3 j hj
        · exact .inr h3
      · exact .inr ⟨i, o, ho, hd, hall⟩
    · cases h1

theorem covers_ok {n : Nat} {l : List Nat} (h : covers n l = true) (i : Nat) (hi : i < n) : i ∈ l := by
  have := List.all_eq_true.1 h i (List.mem_range.2 hi)
  simpa using this

theorem orderedB_ok {md : Region.Mode} {ops : Array Oper} (h : orderedB md ops = true) (D : Nat → Prop) (hn : ¬ ∀ i, i < ops.size → D i) : ∃ i o, ops[i]? = some o ∧ ¬ D i ∧ ∀ e ∈ o.after, Region.binds md e = true → D e.on := by
  unfold orderedB at h
  simp only [Bool.and_eq_true] at h
  rcases keepsB_ok md ops D _ [] h.1 (by simp) with h1 | h1
  · exact absurd (fun i hi => h1 i (covers_ok h.2 i hi)) hn
  · exact h1

theorem dstsOk_go : ∀ (l : List Oper) (seen : List Tmp), dstsOk l seen = true → (∀ (o : Oper) t, o ∈ l → o.dst = some t → t ∉ seen) ∧ ∀ (i j : Nat) (o o' : Oper) (t : Tmp), l[i]? = some o → l[j]? = some o' → o.dst = some t → o'.dst = some t → i = j
  | [], _, _ => ⟨by simp, by simp⟩
  | o :: os, seen, h => by
    unfold dstsOk at h
    cases hd : o.dst with
    | none =>
      rw [hd] at h
      obtain ⟨h1, h2⟩ := dstsOk_go os seen h
      refine ⟨fun p t hp ht => ?_, fun i j p q t hi hj hp hq => ?_⟩
      · rcases List.mem_cons.1 hp with rfl | hp
        · rw [hd] at ht; cases ht
        · exact h1 p t hp ht
      · cases i with
        | zero => simp at hi; subst hi; rw [hd] at hp; cases hp
        | succ i =>
          cases j with
          | zero => simp at hj; subst hj; rw [hd] at hq; cases hq
          | succ j => rw [h2 i j p q t (by simpa using hi) (by simpa using hj) hp hq]
    | some d =>
      rw [hd] at h
      simp only [Bool.and_eq_true] at h
      obtain ⟨h1, h2⟩ := dstsOk_go os (d :: seen) h.2
      have hns : d ∉ seen := by simpa using h.1
      refine ⟨fun p t hp ht => ?_, fun i j p q t hi hj hp hq => ?_⟩
      · rcases List.mem_cons.1 hp with rfl | hp
        · rw [hd] at ht; cases ht; exact hns
        · exact fun hm => h1 p t hp ht (by simp [hm])
      · cases i with
        | zero =>
          simp at hi; subst hi
          rw [hd] at hp; cases hp
          cases j with
          | zero => rfl
          | succ j =>
            have hm : q ∈ os := List.mem_of_getElem? (by simpa using hj)
            exact absurd (by simp) (h1 q _ hm hq)
        | succ i =>
          cases j with
          | zero =>
            simp at hj; subst hj
            rw [hd] at hq; cases hq
            have hm : p ∈ os := List.mem_of_getElem? (by simpa using hi)
            exact absurd (by simp) (h1 p _ hm hp)
          | succ j => rw [h2 i j p q t (by simpa using hi) (by simpa using hj) hp hq]

/-- those behind the last effect, the last first -/
noncomputable def grpOf : List DO → List DO → List DO
  | [], g => g
  | d :: ds, g => grpOf ds (if effD d then [] else d :: g)

noncomputable def planAt (ops : Array Oper) (ms : List (Nat × Nat)) (d : DO) (prev effs : List Nat) (grp : List DO) : Bool :=
  Nat.blt d.idx ops.size && !prev.contains d.idx && writersB ops ms d prev &&
      (match d.kind with
       | .eff => prev.all (fun p => (maskAt ms d.idx).testBit p) && grp.all fun e => !insD e
       | .read back => (match effs.drop back with | e :: _ => (maskAt ms d.idx).testBit e | [] => true)
       | .ins .. => insB d grp
       | _ => true)

theorem planGo_split (ops : Array Oper) (ms : List (Nat × Nat)) (d : DO) (B : List DO) : ∀ (A : List DO) (prev effs : List Nat) (grp : List DO), planGo ops ms (A ++ d :: B) prev effs grp = true →
    planAt ops ms d ((A.map (·.idx)).reverse ++ prev) (((A.filter effD).map (·.idx)).reverse ++ effs) (grpOf A grp) = true
  | [], prev, effs, grp, h => by
    rw [List.nil_append, planGo, Bool.and_eq_true] at h
    exact h.1
  | a :: A, prev, effs, grp, h => by
    rw [List.cons_append, planGo, Bool.and_eq_true] at h
    have := planGo_split ops ms d B A _ _ _ h.2
    cases he : effD a with
    | true =>
      rw [he] at this
      simpa [grpOf, he] using this
    | false =>
      rw [he] at this
      simpa [grpOf, he] using this

theorem grpOf_mem : ∀ (A g : List DO) (e : DO), e ∈ grpOf A g → (e ∈ g ∧ ∀ a ∈ A, effD a = false) ∨ ∃ A1 A2, A = A1 ++ e :: A2 ∧ effD e = false ∧ ∀ a ∈ A2, effD a = false
  | [], g, e, h => .inl ⟨h, by simp⟩
  | a :: A, g, e, h => by
    unfold grpOf at h
    rcases grpOf_mem A _ e h with ⟨h1, h2⟩ | ⟨A1, A2, h1, h2⟩
    · cases he : effD a with
      | true => rw [he] at h1; simp at h1
      | false =>
        rw [he] at h1
        simp at h1
        rcases h1 with rfl | h1
        · exact .inr ⟨[], A, rfl, he, h2⟩
        · exact .inl ⟨h1, fun b hb => by
            rcases List.mem_cons.1 hb with rfl | hb
            · exact he
            · exact h2 b hb⟩
    · exact .inr ⟨a :: A1, A2, by rw [h1]; rfl, h2⟩

theorem mem_grpOf : ∀ (A1 A2 g : List DO) (e : DO), effD e = false → (∀ a ∈ A2, effD a = false) → e ∈ grpOf (A1 ++ e :: A2) g
  | [], A2, g, e, h1, h2 => by
    have : ∀ (A g : List DO), (∀ a ∈ A, effD a = false) → e ∈ g → e ∈ grpOf A g := by
      intro A
      induction A with
      | nil => intro g _ h; exact h
      | cons a A ih =>
        intro g hA hg
        unfold grpOf
        rw [hA a (by simp)]
        exact ih _ (fun b hb => hA b (by simp [hb])) (by simp [hg])
    rw [List.nil_append]
    unfold grpOf
    rw [h1]
    exact this A2 _ h2 (by simp)
  | a :: A1, A2, g, e, h1, h2 => by
    rw [List.cons_append]
    unfold grpOf
    exact mem_grpOf A1 A2 _ e h1 h2

/-- an operation of a plan, and the program's -/
structure DOk (X : Ctx) (ops : Array Oper) (d : DO) : Prop where
  out : ∃ o, ops[d.idx]? = some o ∧ d.f = opF X o ∧ d.dst = o.dst ∧ d.looks = opTmps o ∧
    (match o.guard with
     | none => d.guard = none
     | some (j, w) => ∃ t, (ops[j]?).bind (·.dst) = some t ∧ d.guard = some (t, w)) ∧
    (match d.kind with
     | .ins c m k v => ∃ t ti kt e, o.op = .insert t m k v ∧ X.T t = some ti ∧ ti.und = .map kt e ∧ cmpOf X.T X.stood 12 kt = some c
     | _ => True)

theorem mkDO_ok {X : Ctx} {ops : Array Oper} {ms : List (Nat × Nat)} {effs : List Nat} {i : Nat} {d : DO} (h : mkDO X ops ms effs i = some d) : d.idx = i ∧ DOk X ops d := by
  unfold mkDO at h
  split at h
  · cases h
  · rename_i o ho
    split at h
    · cases h
    · rename_i g hg
      split at h
      · cases h
      · rename_i k hk
        cases h
        refine ⟨rfl, ⟨o, ho, rfl, rfl, rfl, ?_, ?_⟩⟩
        · cases hgu : o.guard with
          | none => rw [hgu] at hg; simp only at hg ⊢; exact (Option.some.inj hg).symm
          | some jw =>
            obtain ⟨j, w⟩ := jw
            rw [hgu] at hg
            simp only at hg ⊢
            split at hg
            · rename_i t ht
              exact ⟨t, ht, (Option.some.inj hg).symm⟩
            · cases hg
        · cases k with
          | ins c m kk v =>
            simp only
            split at hk
            · cases hk
            · cases hk
            · cases hk
            · cases hk
            · split at hk
              · rename_i t m2 k2 v2 hop
                split at hk
                · rename_i ti hti
                  split at hk
                  · rename_i kt e hu
                    split at hk
                    · rename_i c2 hc
                      cases hk
                      exact ⟨t, ti, kt, e, hop, hti, hu, hc⟩
                    · cases hk
                  · cases hk
                · cases hk
              · cases hk
          | _ => trivial

theorem mkDOs_ok {X : Ctx} {ops : Array Oper} {ms : List (Nat × Nat)} : ∀ (is effs : List Nat) (L : List DO), mkDOs X ops ms is effs = some L → L.map (·.idx) = is ∧ ∀ d ∈ L, DOk X ops d
  | [], _, L, h => by cases h; simp
  | i :: is, effs, L, h => by
    unfold mkDOs at h
    split at h
    · rename_i d ds h1 h2
      cases h
      obtain ⟨p1, p2⟩ := mkDO_ok h1
      obtain ⟨q1, q2⟩ := mkDOs_ok is _ ds h2
      refine ⟨by simp [p1, q1], fun e he => ?_⟩
      rcases List.mem_cons.1 he with rfl | he
      · exact p2
      · exact q2 e he
    · cases h

theorem oneTy_ok : ∀ (l : List Oper) (t : Option TypeId), oneTy l t = true → (∀ t0, t = some t0 → ∀ o ∈ l, ∀ u m k v, o.op = .insert u m k v → u = t0) ∧
    ∀ o ∈ l, ∀ o' ∈ l, ∀ u m k v u' m' k' v', o.op = .insert u m k v → o'.op = .insert u' m' k' v' → u = u'
  | [], _, _ => ⟨by simp, by simp⟩
  | o :: os, t, h => by
    unfold oneTy at h
    split at h
    · rename_i u m k v hop
      cases t with
      | some t =>
        simp only [Bool.and_eq_true] at h
        have hu := Nat.eq_of_beq_eq_true h.1
        obtain ⟨h1, h2⟩ := oneTy_ok os _ h.2
        have all : ∀ p ∈ o :: os, ∀ u m k v, p.op = .insert u m k v → u = t := fun p hp u' m' k' v' e => by
          rcases List.mem_cons.1 hp with rfl | hp
          · rw [hop] at e; cases e; exact hu
          · exact h1 t rfl p hp u' m' k' v' e
        refine ⟨fun t0 ht p hp u' m' k' v' e => by cases ht; exact all p hp u' m' k' v' e, fun p hp q hq u1 m1 k1 v1 u2 m2 k2 v2 e1 e2 => ?_⟩
        rw [all p hp _ _ _ _ e1, all q hq _ _ _ _ e2]
      | none =>
        obtain ⟨h1, h2⟩ := oneTy_ok os _ h
        have all : ∀ p ∈ o :: os, ∀ u' m k v, p.op = .insert u' m k v → u' = u := fun p hp u' m' k' v' e => by
          rcases List.mem_cons.1 hp with rfl | hp
          · rw [hop] at e; cases e; rfl
          · exact h1 u rfl p hp u' m' k' v' e
        refine ⟨fun t0 ht => (by cases ht), fun p hp q hq u1 m1 k1 v1 u2 m2 k2 v2 e1 e2 => ?_⟩
        rw [all p hp _ _ _ _ e1, all q hq _ _ _ _ e2]
    · rename_i hno
      obtain ⟨h1, h2⟩ := oneTy_ok os _ h
      refine ⟨fun t0 ht p hp u m k v e => ?_, fun p hp q hq u1 m1 k1 v1 u2 m2 k2 v2 e1 e2 => ?_⟩
      · rcases List.mem_cons.1 hp with rfl | hp
        · exact absurd e (hno _ _ _ _)
        · exact h1 t0 ht p hp u m k v e
      · rcases List.mem_cons.1 hp with rfl | hp
        · exact absurd e1 (hno _ _ _ _)
        · rcases List.mem_cons.1 hq with rfl | hq
          · exact absurd e2 (hno _ _ _ _)
          · exact h2 p hp q hq _ _ _ _ _ _ _ _ e1 e2

structure PlanOk (X : Ctx) (ops : Array Oper) (L : List DO) : Prop where
  ord : ∀ md, orderedB md ops = true
  dst : ∀ (i j : Nat) (o o' : Oper) (t : Tmp), ops[i]? = some o → ops[j]? = some o' → o.dst = some t → o'.dst = some t → i = j
  ty : ∀ o ∈ ops.toList, ∀ o' ∈ ops.toList, ∀ u m k v u' m' k' v', o.op = .insert u m k v → o'.op = .insert u' m' k' v' → u = u'
  cov : ∀ i, i < ops.size → ∃ d ∈ L, d.idx = i
  dok : ∀ d ∈ L, DOk X ops d
  ms : ∃ ms, Masks ops ms ∧ planGo ops ms L [] [] [] = true

theorem plan_ok {X : Ctx} {ops : Array Oper} {L : List DO} (h : plan X ops = some L) : PlanOk X ops L := by
  unfold plan at h
  simp only at h
  split at h
  · rename_i L' hL
    split at h
    · rename_i hc
      cases h
      simp only [Bool.and_eq_true] at hc
      obtain ⟨⟨⟨⟨⟨⟨h1, h2⟩, h3⟩, h4⟩, h7⟩, h5⟩, h6⟩ := hc
      obtain ⟨p1, p2⟩ := mkDOs_ok _ _ _ hL
      refine ⟨fun md => ?_, fun i j o o' t hi hj => ?_, (oneTy_ok _ _ h7).2, fun i hi => ?_, p2, ⟨_, masks_ok ops _, h5⟩⟩
      · cases md <;> assumption
      · exact (dstsOk_go ops.toList [] h4).2 i j o o' t (by simpa using hi) (by simpa using hj)
      · have := covers_ok h6 i hi
        rw [← p1] at this
        obtain ⟨d, hd, he⟩ := List.mem_map.1 this
        exact ⟨d, hd, he⟩
    · cases h
  · cases h
end Go.Ae
end

section
/-
  AE: the run of a plan in its own order.
-/
namespace Go.Ae

def aval : DA → Value
  | .put v => v
  | .new v _ => v
  | .ins .. => undef
  | .eff v _ => v

/-- a run, state by state -/
def Trace (R : Rec) (base : Nat) (L : List DO) (S : Nat → DS) (A : Nat → DA) : Prop :=
  ∀ (p : Nat) (d : DO), L[p]? = some d → dact R base d (S p).st (S p).tm (S p).h = some (A p) ∧ S (p + 1) = dapp base d (S p) (A p)

theorem dsteps_nil (R : Rec) (base : Nat) (s : DS) : dsteps R base [] s = some s := rfl
theorem dsteps_cons (R : Rec) (base : Nat) (d : DO) (L : List DO) (s sF : DS) : dsteps R base (d :: L) s = some sF ↔ ∃ a, dact R base d s.st s.tm s.h = some a ∧ dsteps R base L (dapp base d s a) = some sF := by
  show (match dact R base d s.st s.tm s.h with
      | some a => dsteps R base L (dapp base d s a)
      | none => none) = some sF ↔ _
  cases dact R base d s.st s.tm s.h <;> simp

theorem dsteps_trace (R : Rec) (base : Nat) : ∀ (L : List DO) (s sF : DS), dsteps R base L s = some sF → ∃ S A, S 0 = s ∧ S L.length = sF ∧ Trace R base L S A
  | [], s, sF, h => by
    rw [dsteps_nil] at h; cases h
    exact ⟨fun _ => s, fun _ => .put undef, rfl, rfl, fun p d e => by simp at e⟩
  | d :: L, s, sF, h => by
    obtain ⟨a, h1, h2⟩ := (dsteps_cons _ _ _ _ _ _).1 h
    obtain ⟨S, A, q1, q2, q3⟩ := dsteps_trace R base L _ sF h2
    refine ⟨fun p => match p with | 0 => s | p + 1 => S p, fun p => match p with | 0 => a | p + 1 => A p, rfl, q2, fun p e he => ?_⟩
    cases p with
    | zero => simp at he; subst he; exact ⟨h1, q1⟩
    | succ p => exact q3 p e (by simpa using he)

theorem effD_iff {d : DO} : effD d = true ↔ d.kind = .eff := by
  unfold effD
  cases d.kind <;> simp
theorem newD_iff {d : DO} : newD d = true ↔ d.kind = .new := by
  unfold newD
  cases d.kind <;> simp

theorem dact_cases {R : Rec} {base : Nat} {d : DO} {st : List (Tr AObj)} {tm : Tr Value} {h : H} {a : DA} (e : dact R base d st tm h = some a) :
    (dguard tm d.guard = some true ∧ ddo R base d st (miniT tm d.looks) h = some a) ∨ (dguard tm d.guard = some false ∧ ((d.kind = .eff ∧ a = .eff undef h) ∨ (d.kind ≠ .eff ∧ a = .put undef))) := by
  unfold dact at e
  split at e
  · rename_i hg; exact .inl ⟨hg, e⟩
  · rename_i hg
    refine .inr ⟨hg, ?_⟩
    split at e
    · rename_i hk; cases e; exact .inl ⟨hk, rfl⟩
    · rename_i hk; cases e; exact .inr ⟨hk, rfl⟩
  · cases e

/-- of a kind, what it does -/
theorem ddo_kind {R : Rec} {base : Nat} {d : DO} {st : List (Tr AObj)} {mi : Tr Value} {h : H} {a : DA} (e : ddo R base d st mi h = some a) :
    (d.kind = .pure ∧ ∃ v, a = .put v ∧ dval R d.f mi .nil = some v) ∨ (∃ back, d.kind = .read back ∧ ∃ v, a = .put v ∧ readAt R d.f mi back st = some v) ∨ (d.kind = .new ∧ ∃ v o, a = .new v o ∧ dnew R d.f mi (base + d.idx) = some a) ∨
    (d.kind = .eff ∧ ∃ v h', a = .eff v h' ∧ d.f R mi h = some (v, h') ∧ h'.next ≤ big) ∨ (∃ c m k v, d.kind = .ins c m k v ∧ ∃ r e es, a = .ins r e es ∧ dins c mi h m k v (base + d.idx) = some a) := by
  unfold ddo at e
  split at e
  · rename_i hk
    split at e
    · rename_i v hv; cases e; exact .inl ⟨hk, v, rfl, hv⟩
    · cases e
  · rename_i back hk
    split at e
    · rename_i v hv; cases e; exact .inr (.inl ⟨back, hk, v, rfl, hv⟩)
    · cases e
  · rename_i hk
    refine .inr (.inr (.inl ⟨hk, ?_⟩))
    have e0 : dnew R d.f mi (base + d.idx) = some a := e
    unfold dnew at e
    split at e
    · split at e
      · split at e
        · cases e; exact ⟨_, _, rfl, e0⟩
        · cases e
      · cases e
    · cases e
  · rename_i hk
    split at e
    · rename_i v h' hf
      split at e
      · rename_i hb; cases e; exact .inr (.inr (.inr (.inl ⟨hk, v, h', rfl, hf, Nat.le_of_ble_eq_true hb⟩)))
      · cases e
    · cases e
  · rename_i c m k v hk
    refine .inr (.inr (.inr (.inr ⟨c, m, k, v, hk, ?_⟩)))
    have e0 : dins c mi h m k v (base + d.idx) = some a := e
    unfold dins at e
    split at e
    · split at e
      · split at e
        · cases e; exact ⟨_, _, _, rfl, e0⟩
        · cases e
      · cases e
    · cases e

theorem dnew_spec {R : Rec} {f : OpF} {mi : Tr Value} {b : Nat} {v : Value} {o : AObj} (e : dnew R f mi b = some (.new v o)) :
    ∃ u h, f R mi (bare .nil) = some (u, h) ∧ h.next = Nat.succ big ∧ h.tr.get big = some o ∧ reName b u = some v ∧ belowO o = true := by
  unfold dnew at e
  split at e
  · rename_i u h hf
    split at e
    · rename_i o' v' h1 h2 h3
      split at e
      · rename_i hb; cases e; exact ⟨u, h, hf, Nat.eq_of_beq_eq_true h1, h2, h3, hb⟩
      · cases e
    · cases e
  · cases e

theorem dins_spec {c : Cmp} {mi : Tr Value} {h : H} {m k v : Operand} {sid r : Nat} {e : ME} {es : List ME} (q : dins c mi h m k v sid = some (.ins r e es)) :
    ∃ kv vv, ev mi m = some (.map (some r)) ∧ ev mi k = some kv ∧ ev mi v = some vv ∧ mapOf h r = some es ∧ findK c kv es = some none ∧ flatV kv = true ∧ belowV vv = true ∧ e = { key := kv, val := vv, sid } := by
  unfold dins at q
  split at q
  · rename_i r' kv vv e1 e2 e3
    split at q
    · rename_i es' e4
      split at q
      · rename_i e5 e6
        cases q
        rw [Bool.and_eq_true] at e6
        exact ⟨kv, vv, e1, e2, e3, e4, e5, e6.1, e6.2, rfl⟩
      · cases q
    · cases q
  · cases q

/-- the facts on a plan, place by place -/
structure Places (X : Ctx) (ops : Array Oper) (L : List DO) : Prop where
  lt : ∀ {p : Nat} {d : DO}, L[p]? = some d → d.idx < ops.size
  one : ∀ {p q : Nat} {d e : DO}, L[p]? = some d → L[q]? = some e → d.idx = e.idx → p = q
  eff : ∀ {p : Nat} {d : DO}, L[p]? = some d → effD d = true → ∀ D, Closed ops D → (D d.idx ∨ Ready ops D d.idx) → ∀ {q : Nat} {e : DO}, q < p → L[q]? = some e → D e.idx
  late : ∀ {p : Nat} {d : DO}, L[p]? = some d → insD d = true → ∀ {q : Nat} {e : DO}, p < q → L[q]? = some e → effD e = false
  looks : ∀ {p : Nat} {d : DO}, L[p]? = some d → ∀ t ∈ allLooks d, ∀ {q : Nat} {e : DO}, L[q]? = some e → e.dst = some t → ∀ D, Closed ops D →
    (q < p → (D d.idx ∨ Ready ops D d.idx) → D e.idx) ∧ (p < q → D e.idx → D d.idx)
  read : ∀ {p : Nat} {d : DO} {back : Nat}, L[p]? = some d → d.kind = .read back → ∀ D, Closed ops D → Ready ops D d.idx → ∀ e i, (((L.take p).filter effD).map (·.idx)).reverse.drop back = i :: e → D i
  maker : ∀ {p : Nat} {d : DO} {c : Cmp} {m k v : Operand}, L[p]? = some d → d.kind = .ins c m k v → ∃ t q e, m = .tmp t ∧ q < p ∧ L[q]? = some e ∧ newD e = true ∧ e.guard = none ∧ e.dst = some t ∧ ∀ {r : Nat} {g : DO}, q ≤ r → r < p → L[r]? = some g → effD g = false

theorem split_at {L : List DO} {p : Nat} {d : DO} (h : L[p]? = some d) : L = L.take p ++ d :: L.drop (p + 1) := by
  have hlt : p < L.length := (List.getElem?_eq_some_iff.1 h).1
  have hd : L[p] = d := (List.getElem?_eq_some_iff.1 h).2
  rw [← hd, List.getElem_cons_drop, List.take_append_drop]

theorem take_mem {L : List DO} {p q : Nat} {e : DO} (hq : q < p) (h : L[q]? = some e) : e ∈ L.take p := by
  refine List.mem_of_getElem? (i := q) ?_
  rw [List.getElem?_take, if_pos hq]; exact h

theorem mem_take {L : List DO} {p : Nat} {e : DO} (h : e ∈ L.take p) : ∃ q, q < p ∧ L[q]? = some e := by
  obtain ⟨q, hq⟩ := List.getElem?_of_mem h
  rw [List.getElem?_take] at hq
  split at hq
  · rename_i hlt; exact ⟨q, hlt, hq⟩
  · cases hq

theorem places_of {X : Ctx} {ops : Array Oper} {L : List DO} (po : PlanOk X ops L) : Places X ops L := by
  obtain ⟨ms, hm, hp⟩ := po.ms
  have at_ : ∀ {p : Nat} {d : DO}, L[p]? = some d → planAt ops ms d ((L.take p).map (·.idx)).reverse ((((L.take p).filter effD).map (·.idx)).reverse) (grpOf (L.take p) []) = true := by
    intro p d hd
    have hp2 := hp
    rw [split_at hd] at hp2
    have := planGo_split ops ms d _ (L.take p) [] [] [] hp2
    simpa using this
  have base : ∀ {p : Nat} {d : DO}, L[p]? = some d → d.idx < ops.size ∧ ((L.take p).map (·.idx)).reverse.contains d.idx = false ∧ writersB ops ms d ((L.take p).map (·.idx)).reverse = true := by
    intro p d hd
    have := at_ hd
    unfold planAt at this
    simp only [Bool.and_eq_true] at this
    exact ⟨blt_lt this.1.1.1, by simpa using this.1.1.2, this.1.2⟩
  have one : ∀ {p q : Nat} {d e : DO}, L[p]? = some d → L[q]? = some e → d.idx = e.idx → p = q := by
    have lt : ∀ {p q : Nat} {d e : DO}, L[p]? = some d → L[q]? = some e → d.idx = e.idx → ¬ q < p := by
      intro p q d e hd he h hlt
      have h1 := (base hd).2.1
      have h2 : d.idx ∈ ((L.take p).map (·.idx)).reverse := by
        rw [List.mem_reverse]
        exact List.mem_map.2 ⟨e, take_mem hlt he, h.symm⟩
      rw [List.contains_eq_mem, decide_eq_false_iff_not] at h1
      exact h1 h2
    intro p q d e hd he h
    rcases Nat.lt_trichotomy p q with h1 | h1 | h1
    · exact absurd h1 (lt he hd h.symm)
    · exact h1
    · exact absurd h1 (lt hd he h)
  refine ⟨fun hd => (base hd).1, one, ?_, ?_, ?_, ?_, ?_⟩
  · intro p d hd he D hc hD q e hq hqe
    have := at_ hd
    unfold planAt at this
    rw [effD_iff.1 he] at this
    simp only [Bool.and_eq_true] at this
    have h1 := List.all_eq_true.1 this.2.1 e.idx (by rw [List.mem_reverse]; exact List.mem_map.2 ⟨e, take_mem hq hqe, rfl⟩)
    exact hm d.idx D hc hD _ h1
  · intro p d hd hi q e hpq hqe
    -- the first effect behind it would forbid it
    induction q using Nat.strongRecOn generalizing e with
    | _ q ih =>
      cases he : effD e with
      | false => rfl
      | true =>
        exfalso
        have := at_ hqe
        unfold planAt at this
        rw [effD_iff.1 he] at this
        simp only [Bool.and_eq_true] at this
        have hmem : d ∈ grpOf (L.take q) [] := by
          have h1 : (L.take q)[p]? = some d := by rw [List.getElem?_take, if_pos hpq]; exact hd
          rw [split_at h1]
          refine mem_grpOf _ _ _ _ ?_ fun a ha => ?_
          · unfold insD at hi; unfold effD; cases hk : d.kind <;> rw [hk] at hi <;> first | rfl | cases hi
          · obtain ⟨r, hr⟩ := List.getElem?_of_mem ha
            rw [List.getElem?_drop, List.getElem?_take] at hr
            split at hr
            · exact ih (p + 1 + r) (by omega) (by omega) hr
            · cases hr
        have := List.all_eq_true.1 this.2.2 d hmem
        rw [hi] at this; cases this
  · intro p d hd t ht q e hqe hdst D hc
    have hw := (base hd).2.2
    unfold writersB at hw
    have h1 := List.all_eq_true.1 hw t ht
    have h2 := List.all_eq_true.1 h1 e.idx (List.mem_range.2 (base hqe).1)
    obtain ⟨o, ho, _, hdo, _⟩ := (po.dok e (List.mem_of_getElem? hqe)).out
    rw [ho] at h2
    simp only [Bool.or_eq_true] at h2
    rw [hdst] at hdo
    rw [← hdo] at h2
    simp only [Bool.not_eq_true'] at h2
    rcases h2 with (h2 | h2) | h2
    · rw [Nat.beq_refl] at h2; cases h2
    · have := one hqe hd (Nat.eq_of_beq_eq_true h2)
      subst this
      exact ⟨fun h => absurd h (Nat.lt_irrefl _), fun h => absurd h (Nat.lt_irrefl _)⟩
    · constructor
      · intro hlt hD
        have hmem : ((L.take p).map (·.idx)).reverse.contains e.idx = true := by
          rw [List.contains_eq_mem]
          simp only [List.mem_reverse, decide_eq_true_eq]
          exact List.mem_map.2 ⟨e, take_mem hlt hqe, rfl⟩
        rw [hmem] at h2
        exact hm d.idx D hc hD _ h2
      · intro hlt hD
        have hmem : ((L.take p).map (·.idx)).reverse.contains e.idx = false := by
          rw [List.contains_eq_mem]
          simp only [List.mem_reverse, decide_eq_false_iff_not]
          intro hmm
          obtain ⟨e2, h3, h4⟩ := List.mem_map.1 hmm
          obtain ⟨q2, h5, h6⟩ := mem_take h3
          have := one h6 hqe h4
          omega
        rw [hmem] at h2
        exact hm e.idx D hc (.inl hD) _ h2
  · intro p d back hd hk D hc hr e i hdrop
    have := at_ hd
    unfold planAt at this
    rw [hk] at this
    simp only [Bool.and_eq_true] at this
    have h1 := this.2
    rw [hdrop] at h1
    exact hm d.idx D hc (.inr hr) _ h1
  · intro p d c m k v hd hk
    have := at_ hd
    unfold planAt at this
    rw [hk] at this
    simp only [Bool.and_eq_true] at this
    have h1 := this.2
    unfold insB at h1
    rw [hk] at h1
    simp only at h1
    cases m with
    | tmp t =>
      simp only at h1
      obtain ⟨e, he, hc⟩ := List.any_eq_true.1 h1
      simp only [Bool.and_eq_true] at hc
      rcases grpOf_mem _ _ _ he with ⟨h2, _⟩ | ⟨A1, A2, h2, h3, h4⟩
      · cases h2
      · have hlen : A1.length < p := by
          have : (L.take p).length = A1.length + (A2.length + 1) := by rw [h2]; simp
          have h5 : (L.take p).length ≤ p := by rw [List.length_take]; omega
          omega
        have hat : L[A1.length]? = some e := by
          have : (L.take p)[A1.length]? = some e := by rw [h2]; simp
          rw [List.getElem?_take, if_pos hlen] at this; exact this
        refine ⟨t, A1.length, e, rfl, hlen, hat, hc.1.1, by simpa using hc.1.2, ?_, ?_⟩
        · have := hc.2
          cases hdd : e.dst with
          | none => rw [hdd] at this; cases this
          | some u => rw [hdd] at this; rw [Nat.eq_of_beq_eq_true this]
        · intro r g hr hrp hg
          have h5 : (L.take p)[r]? = some g := by rw [List.getElem?_take, if_pos hrp]; exact hg
          rw [h2] at h5
          rw [List.getElem?_append_right hr] at h5
          rcases Nat.eq_or_lt_of_le hr with h6 | h6
          · rw [← h6] at h5
            simp at h5; subst h5; exact h3
          · obtain ⟨x, hx⟩ : ∃ x, r - A1.length = x + 1 := ⟨r - A1.length - 1, by omega⟩
            rw [hx] at h5
            simp at h5
            exact h4 g (List.mem_of_getElem? h5)
    | _ => simp at h1
end Go.Ae
end

section
/-
  AE: the run of a plan in its own order: temporaries, heaps.
-/
namespace Go.Ae
section
variable {X : Ctx} {R : Rec} {ops : Array Oper} {base : Nat} {L : List DO} {S : Nat → DS} {A : Nat → DA}

theorem dapp_tm (base : Nat) (d : DO) (s : DS) (a : DA) : (dapp base d s a).tm = putD s.tm d.dst (aval a) := by cases a <;> rfl

theorem putD_get (tm : Tr Value) (d : Option Tmp) (v : Value) (t : Tmp) : (putD tm d v).get t = if d = some t then some v else tm.get t := by
  cases d with
  | none => simp [putD]
  | some u =>
    show (tm.set u v).get t = _
    rw [Tr.get_set]
    by_cases h : t = u
    · subst h; simp
    · rw [if_neg h, if_neg (by simpa using fun e => h e.symm)]

theorem tm_none (tc : Trace R base L S A) (t : Tmp) : ∀ p, p ≤ L.length → (∀ (q : Nat) (e : DO), q < p → L[q]? = some e → e.dst ≠ some t) → (S p).tm.get t = (S 0).tm.get t := by
  intro p
  induction p with
  | zero => intro _ _; rfl
  | succ p ih =>
    intro hp hn
    have hd : L[p]? = some L[p] := List.getElem?_eq_getElem (by omega)
    rw [(tc p _ hd).2, dapp_tm, putD_get, if_neg (hn p _ (by omega) hd)]
    exact ih (by omega) fun q e hq => hn q e (by omega)

theorem tm_some (tc : Trace R base L S A) {t : Tmp} {q : Nat} {e : DO} (hq : L[q]? = some e) (ht : e.dst = some t) (one : ∀ (r : Nat) (g : DO), L[r]? = some g → g.dst = some t → r = q) : ∀ p, q < p → p ≤ L.length → (S p).tm.get t = some (aval (A q)) := by
  intro p
  induction p with
  | zero => intro h; omega
  | succ p ih =>
    intro hqp hp
    have hd : L[p]? = some L[p] := List.getElem?_eq_getElem (by omega)
    rw [(tc p _ hd).2, dapp_tm, putD_get]
    by_cases h : p = q
    · subst h
      rw [hd] at hq; cases hq
      rw [if_pos ht]
    · rw [if_neg fun e2 => h (one p _ hd e2)]
      exact ih (by omega) (by omega)

/-- an effect is one, in the trace -/
theorem not_eff (tc : Trace R base L S A) {p : Nat} {d : DO} (hd : L[p]? = some d) (he : effD d = false) : (∃ v, A p = .put v) ∨ (∃ v o, A p = .new v o) ∨ ∃ r e es, A p = .ins r e es := by
  rcases dact_cases (tc p d hd).1 with ⟨_, h⟩ | ⟨_, ⟨h, _⟩ | ⟨_, h⟩⟩
  · rcases ddo_kind h with ⟨_, v, h1, _⟩ | ⟨_, _, v, h1, _⟩ | ⟨_, v, o, h1, _⟩ | ⟨h1, _⟩ | ⟨_, _, _, _, _, r, e, es, h1, _⟩
    · exact .inl ⟨v, h1⟩
    · exact .inl ⟨v, h1⟩
    · exact .inr (.inl ⟨v, o, h1⟩)
    · rw [effD_iff.2 h1] at he; cases he
    · exact .inr (.inr ⟨r, e, es, h1⟩)
  · rw [effD_iff.2 h] at he; cases he
  · exact .inl ⟨_, h⟩

theorem new_kind (tc : Trace R base L S A) {p : Nat} {d : DO} (hd : L[p]? = some d) {v : Value} {o : AObj} (ha : A p = .new v o) : d.kind = .new ∧ dguard (S p).tm d.guard = some true ∧ dnew R d.f (miniT (S p).tm d.looks) (base + d.idx) = some (.new v o) := by
  rcases dact_cases (tc p d hd).1 with ⟨hg, h⟩ | ⟨_, ⟨_, h⟩ | ⟨_, h⟩⟩
  · rcases ddo_kind h with ⟨_, v, h1, _⟩ | ⟨_, _, v, h1, _⟩ | ⟨hk, v', o', h1, h2⟩ | ⟨_, _, _, h1, _⟩ | ⟨_, _, _, _, _, r, e, es, h1, _⟩
    · rw [ha] at h1; cases h1
    · rw [ha] at h1; cases h1
    · rw [ha] at h2; exact ⟨hk, hg, h2⟩
    · rw [ha] at h1; cases h1
    · rw [ha] at h1; cases h1
  · rw [ha] at h; cases h
  · rw [ha] at h; cases h

theorem ins_kind (tc : Trace R base L S A) {p : Nat} {d : DO} (hd : L[p]? = some d) {r : Nat} {e : ME} {es : List ME} (ha : A p = .ins r e es) : ∃ c m k v, d.kind = .ins c m k v ∧ dguard (S p).tm d.guard = some true ∧ dins c (miniT (S p).tm d.looks) (S p).h m k v (base + d.idx) = some (.ins r e es) := by
  rcases dact_cases (tc p d hd).1 with ⟨hg, h⟩ | ⟨_, ⟨_, h⟩ | ⟨_, h⟩⟩
  · rcases ddo_kind h with ⟨_, v, h1, _⟩ | ⟨_, _, v, h1, _⟩ | ⟨hk, v', o', h1, h2⟩ | ⟨_, _, _, h1, _⟩ | ⟨c, m, k, v, hk, r', e', es', h1, h2⟩
    · rw [ha] at h1; cases h1
    · rw [ha] at h1; cases h1
    · rw [ha] at h1; cases h1
    · rw [ha] at h1; cases h1
    · rw [ha] at h2; exact ⟨c, m, k, v, hk, hg, h2⟩
  · rw [ha] at h; cases h
  · rw [ha] at h; cases h

theorem reName_spec {b : Nat} {u v : Value} (h : reName b u = some v) {r : Nat} (hv : v = .map (some r)) : r = b := by
  subst hv
  unfold reName at h
  split at h
  · split at h <;> cases h
  · split at h <;> cases h
  · split at h
    · cases h; rfl
    · cases h
  · cases h

theorem miniT_nil (tm : Tr Value) : miniT tm [] = .nil := rfl
theorem miniT_cons (tm : Tr Value) (t : Tmp) (ts : List Tmp) : miniT tm (t :: ts) = match tm.get t with | some v => (miniT tm ts).set t v | none => miniT tm ts := rfl

theorem miniT_get (tm : Tr Value) (t : Tmp) : ∀ (l : List Tmp), (miniT tm l).get t = if t ∈ l then tm.get t else none
  | [] => by simp [miniT_nil]
  | x :: l => by
    rw [miniT_cons]
    cases hx : tm.get x with
    | none =>
      simp only
      rw [miniT_get tm t l]
      by_cases h : t = x
      · subst h; simp [hx]
      · simp [h]
    | some v =>
      simp only
      rw [Tr.get_set, miniT_get tm t l]
      by_cases h : t = x
      · subst h; simp [hx]
      · simp [h]

theorem miniT_congr {tm tm' : Tr Value} : ∀ {l : List Tmp}, (∀ t ∈ l, tm.get t = tm'.get t) → miniT tm l = miniT tm' l
  | [], _ => rfl
  | x :: l, h => by
    rw [miniT_cons, miniT_cons, h x (by simp), miniT_congr fun t ht => h t (by simp [ht])]

/-- whose map an insertion is for -/
theorem ins_maker (po : PlanOk X ops L) (tc : Trace R base L S A) {p : Nat} {d : DO} (hd : L[p]? = some d) {r : Nat} {e : ME} {es : List ME} (ha : A p = .ins r e es) :
    ∃ q g v o, q < p ∧ L[q]? = some g ∧ A q = .new v o ∧ r = base + g.idx ∧ (∃ t, t ∈ allLooks d ∧ g.dst = some t) ∧ (∀ {x : Nat} {f : DO}, q ≤ x → L[x]? = some f → effD f = false) := by
  have pl := places_of po
  obtain ⟨c, m, k, v, hk, hg, hdi⟩ := ins_kind tc hd ha
  obtain ⟨t, q, g, hm, hqp, hq, hn, hgg, hgd, hno⟩ := pl.maker hd hk
  obtain ⟨kv, vv, h1, _⟩ := dins_spec hdi
  obtain ⟨o', ho', _, _, hlk, _, hkk⟩ := (po.dok d (List.mem_of_getElem? hd)).out
  rw [hk] at hkk
  obtain ⟨ty, ti, kt, el, hop, _⟩ := hkk
  have hmem : t ∈ d.looks := by
    rw [hlk]
    unfold opTmps
    rw [hop]
    simp [Op.operands, hm]
  have hlen : p < L.length := (List.getElem?_eq_some_iff.1 hd).1
  have hdstone : ∀ (r : Nat) (g' : DO), L[r]? = some g' → g'.dst = some t → r = q := by
    intro r g' hr' ht'
    obtain ⟨o1, ho1, _, hd1, _⟩ := (po.dok g' (List.mem_of_getElem? hr')).out
    obtain ⟨o2, ho2, _, hd2, _⟩ := (po.dok g (List.mem_of_getElem? hq)).out
    exact pl.one hr' hq (po.dst _ _ o1 o2 t ho1 ho2 (by rw [← hd1]; exact ht') (by rw [← hd2]; exact hgd))
  rw [hm] at h1
  have h2 : (miniT (S p).tm d.looks).get t = some (.map (some r)) := h1
  rw [miniT_get, if_pos hmem, tm_some tc hq hgd hdstone p hqp (by omega)] at h2
  have h3 := Option.some.inj h2
  -- what the maker did
  have hgk := newD_iff.1 hn
  have hgt : dguard (S q).tm g.guard = some true := by rw [hgg]; rfl
  rcases dact_cases (tc q g hq).1 with ⟨_, h⟩ | ⟨h, _⟩
  · rcases ddo_kind h with ⟨h4, _⟩ | ⟨_, h4, _⟩ | ⟨_, v', o', h4, h5⟩ | ⟨h4, _⟩ | ⟨_, _, _, _, h4, _⟩
    · rw [hgk] at h4; cases h4
    · rw [hgk] at h4; cases h4
    · rw [h4] at h5 h3
      obtain ⟨u, _, _, _, _, h6, _⟩ := dnew_spec h5
      refine ⟨q, g, v', o', hqp, hq, h4, reName_spec h6 h3, ⟨t, ?_, hgd⟩, fun {x f} hqx hf => ?_⟩
      · unfold allLooks; split <;> simp [hmem]
      · rcases Nat.lt_trichotomy x p with h7 | h7 | h7
        · exact hno hqx h7 hf
        · subst h7
          rw [hd] at hf; cases hf
          cases he : effD d with
          | false => rfl
          | true => rw [effD_iff.1 he] at hk; cases hk
        · exact pl.late hd (by unfold insD; rw [hk]) h7 hf
    · rw [hgk] at h4; cases h4
    · rw [hgk] at h4; cases h4
  · rw [hgt] at h; cases h

/-! ### heaps between two effects -/
/-- what was inserted, so far, of what is done -/
def insOf (A : Nat → DA) (dn : Nat → Bool) (r : Nat) : Nat → List ME
  | 0 => []
  | p + 1 => match A p with
    | .ins r' e _ => if r' = r ∧ dn p = true then e :: insOf A dn r p else insOf A dn r p
    | _ => insOf A dn r p

def ObjAt (o : AObj) (l : List ME) (o' : AObj) : Prop := (o' = o ∧ l = []) ∨ ∃ es, o = .map [] ∧ o' = .map es ∧ List.Perm es l

theorem insOf_none {dn : Nat → Bool} {r : Nat} : ∀ p, (∀ q e es, q < p → A q = .ins r e es → dn q = false) → insOf A dn r p = []
  | 0, _ => rfl
  | p + 1, h => by
    unfold insOf
    split
    · rename_i r' e es ha
      rw [if_neg fun h1 => by
        have := h p e es (by omega) (by rw [ha, h1.1])
        rw [this] at h1; exact absurd h1.2 (by simp)]
      exact insOf_none p fun q e es hq => h q e es (by omega)
    · exact insOf_none p fun q e es hq => h q e es (by omega)

theorem insOf_congr {dn dn' : Nat → Bool} {r : Nat} : ∀ p, (∀ q e es, q < p → A q = .ins r e es → dn q = dn' q) → insOf A dn r p = insOf A dn' r p
  | 0, _ => rfl
  | p + 1, h => by
    unfold insOf
    have ih := insOf_congr (dn := dn) (dn' := dn') p fun q e es hq => h q e es (by omega)
    split
    · rename_i r' e es ha
      rw [ih]
      by_cases h1 : r' = r
      · rw [h p e es (by omega) (by rw [ha, h1])]
      · simp [h1]
    · exact ih

theorem insOf_add {dn dn' : Nat → Bool} {r p0 : Nat} {e : ME} {es : List ME} (ha : A p0 = .ins r e es) (h0 : dn p0 = false) (h1 : dn' p0 = true) (hs : ∀ q, q ≠ p0 → dn' q = dn q) : ∀ p, p0 < p → List.Perm (e :: insOf A dn r p) (insOf A dn' r p) := by
  intro p
  induction p with
  | zero => intro h; omega
  | succ p ih =>
    intro hp
    by_cases hpp : p = p0
    · subst hpp
      have : insOf A dn r p = insOf A dn' r p := insOf_congr p fun q _ _ hq _ => (hs q (by omega)).symm
      unfold insOf
      rw [ha]
      simp only [h0, h1, Bool.false_eq_true, and_false, if_false, if_true, and_self]
      rw [this]
    · have ih := ih (by omega)
      unfold insOf
      rw [hs p hpp]
      split
      · split
        · exact (List.Perm.swap _ _ _).trans (ih.cons _)
        · exact ih
      · exact ih

theorem dapp_floor_next {d : DO} {s : DS} {a : DA} (h : (∃ v, a = .put v) ∨ (∃ v o, a = .new v o) ∨ ∃ r e es, a = .ins r e es) : (dapp base d s a).h.next = s.h.next ∧ (dapp base d s a).h.floor = s.h.floor ∧ (dapp base d s a).st = s.st := by
  rcases h with ⟨v, rfl⟩ | ⟨v, o, rfl⟩ | ⟨r, e, es, rfl⟩ <;> exact ⟨rfl, rfl, rfl⟩

theorem calm (tc : Trace R base L S A) {c : Nat} : ∀ p, c ≤ p → p ≤ L.length → (∀ (q : Nat) (e : DO), c ≤ q → q < p → L[q]? = some e → effD e = false) → (S p).h.next = (S c).h.next ∧ (S p).h.floor = (S c).h.floor ∧ (S p).st = (S c).st := by
  intro p
  induction p with
  | zero => intro h _ _; have : c = 0 := by omega
            subst this; exact ⟨rfl, rfl, rfl⟩
  | succ p ih =>
    intro hcp hp hn
    by_cases h : c = p + 1
    · subst h; exact ⟨rfl, rfl, rfl⟩
    · obtain ⟨i1, i2, i3⟩ := ih (by omega) (by omega) fun q e h1 h2 => hn q e h1 (by omega)
      have hd : L[p]? = some L[p] := List.getElem?_eq_getElem (by omega)
      obtain ⟨j1, j2, j3⟩ := dapp_floor_next (base := base) (d := L[p]) (s := S p) (not_eff tc hd (hn p _ (by omega) (by omega) hd))
      rw [(tc p _ hd).2]
      exact ⟨j1.trans i1, j2.trans i2, j3.trans i3⟩

theorem calm_get (tc : Trace R base L S A) {c b : Nat} : ∀ p, c ≤ p → p ≤ L.length → (∀ (q : Nat) (e : DO), c ≤ q → q < p → L[q]? = some e → effD e = false) →
    (∀ (q : Nat) (e : DO) v o, c ≤ q → q < p → L[q]? = some e → A q = .new v o → b ≠ base + e.idx) → (∀ q r e es, c ≤ q → q < p → A q = .ins r e es → b ≠ r) → (S p).h.tr.get b = (S c).h.tr.get b := by
  intro p
  induction p with
  | zero => intro h _ _ _ _; have : c = 0 := by omega
            subst this; rfl
  | succ p ih =>
    intro hcp hp hn h1 h2
    by_cases h : c = p + 1
    · subst h; rfl
    · have ih := ih (by omega) (by omega) (fun q e h1 h2 => hn q e h1 (by omega)) (fun q e v o a b => h1 q e v o a (by omega)) (fun q r e es a b => h2 q r e es a (by omega))
      have hd : L[p]? = some L[p] := List.getElem?_eq_getElem (by omega)
      rw [(tc p _ hd).2]
      rcases not_eff tc hd (hn p _ (by omega) (by omega) hd) with ⟨v, ha⟩ | ⟨v, o, ha⟩ | ⟨r, e, es, ha⟩
      · rw [ha]; exact ih
      · rw [ha]
        show ((S p).h.tr.set (base + L[p].idx) o).get b = _
        rw [Tr.get_set, if_neg (h1 p _ v o (by omega) (by omega) hd ha)]
        exact ih
      · rw [ha]
        show ((S p).h.tr.set r (.map (e :: es))).get b = _
        rw [Tr.get_set, if_neg (h2 p r e es (by omega) (by omega) ha)]
        exact ih

theorem mapOf_get {h : H} {r : Nat} {es : List ME} (e : mapOf h r = some es) : h.tr.get r = some (.map es) := by
  unfold mapOf at e
  split at e
  · rename_i es' h1; cases e; exact h1
  · cases e

/-- a new object, later on -/
theorem new_get (po : PlanOk X ops L) (tc : Trace R base L S A) {q : Nat} {d : DO} {v : Value} {o : AObj} (hd : L[q]? = some d) (ha : A q = .new v o) : ∀ p, q < p → p ≤ L.length →
    (∀ (x : Nat) (e : DO), q ≤ x → x < p → L[x]? = some e → effD e = false) → ∃ o', (S p).h.tr.get (base + d.idx) = some o' ∧ ObjAt o (insOf A (fun _ => true) (base + d.idx) p) o' := by
  have pl := places_of po
  have hbo : belowO o = true := by
    obtain ⟨_, _, h⟩ := new_kind tc hd ha
    obtain ⟨_, _, _, _, _, _, h⟩ := dnew_spec h
    exact h
  have hbefore : ∀ x e es, x < q + 1 → A x = .ins (base + d.idx) e es → x < L.length → False := by
    intro x e es hx hax hxl
    have hx2 : L[x]? = some L[x] := List.getElem?_eq_getElem hxl
    obtain ⟨y, g, _, _, hyx, hg, _, hr, _⟩ := ins_maker po tc hx2 hax
    have : y = q := pl.one hg hd (by omega)
    omega
  intro p
  induction p with
  | zero => intro h; omega
  | succ p ih =>
    intro hqp hp hn
    by_cases h : p = q
    · subst h
      rw [(tc p _ hd).2, ha]
      refine ⟨o, ?_, .inl ⟨rfl, ?_⟩⟩
      · show ((S p).h.tr.set (base + d.idx) o).get (base + d.idx) = _
        rw [Tr.get_set, if_pos rfl]
      · exact insOf_none _ fun x e es hx hax => (hbefore x e es hx hax (by omega)).elim
    · obtain ⟨o', i1, i2⟩ := ih (by omega) (by omega) fun x e h1 h2 => hn x e h1 (by omega)
      have hd2 : L[p]? = some L[p] := List.getElem?_eq_getElem (by omega)
      rw [(tc p _ hd2).2]
      rcases not_eff tc hd2 (hn p _ (by omega) (by omega) hd2) with ⟨v, hap⟩ | ⟨v, o2, hap⟩ | ⟨r, e, es, hap⟩
      · rw [hap]
        refine ⟨o', i1, ?_⟩
        unfold insOf; rw [hap]; exact i2
      · rw [hap]
        refine ⟨o', ?_, ?_⟩
        · show ((S p).h.tr.set (base + L[p].idx) o2).get (base + d.idx) = _
          rw [Tr.get_set, if_neg fun h3 => by
            have := pl.one hd hd2 (by omega)
            omega]
          exact i1
        · unfold insOf; rw [hap]; exact i2
      · rw [hap]
        obtain ⟨c, m, k, v, _, _, hdi⟩ := ins_kind tc hd2 hap
        obtain ⟨_, _, _, _, _, hm, _⟩ := dins_spec hdi
        by_cases hr : r = base + d.idx
        · subst hr
          have := mapOf_get hm
          rw [i1] at this
          have := Option.some.inj this
          subst this
          refine ⟨.map (e :: es), ?_, ?_⟩
          · show ((S p).h.tr.set (base + d.idx) (.map (e :: es))).get (base + d.idx) = _
            rw [Tr.get_set, if_pos rfl]
          · unfold insOf; rw [hap]
            simp only [and_self, if_true]
            rcases i2 with ⟨i2, i3⟩ | ⟨es', i2, i3, i4⟩
            · subst i2
              cases es with
              | nil => exact .inr ⟨[e], rfl, rfl, by rw [i3]⟩
              | cons x xs => simp [belowO] at hbo
            · cases i3
              exact .inr ⟨e :: es, i2, rfl, i4.cons _⟩
        · refine ⟨o', ?_, ?_⟩
          · show ((S p).h.tr.set r (.map (e :: es))).get (base + d.idx) = _
            rw [Tr.get_set, if_neg fun h3 => hr h3.symm]
            exact i1
          · unfold insOf; rw [hap]
            simp only [hr, false_and, if_false]
            exact i2

/-! ### elder states -/
theorem dapp_eff_st {d : DO} {s : DS} {v : Value} {h : H} : (dapp base d s (.eff v h)).st = h.tr :: s.st := rfl

theorem eff_kind (tc : Trace R base L S A) {p : Nat} {d : DO} (hd : L[p]? = some d) (he : effD d = true) : ∃ v h, A p = .eff v h := by
  rcases dact_cases (tc p d hd).1 with ⟨_, h⟩ | ⟨_, ⟨_, h⟩ | ⟨h, _⟩⟩
  · rcases ddo_kind h with ⟨hk, _⟩ | ⟨_, hk, _⟩ | ⟨hk, _⟩ | ⟨_, v, h', h1, _⟩ | ⟨_, _, _, _, hk, _⟩
    · rw [effD_iff.1 he] at hk; cases hk
    · rw [effD_iff.1 he] at hk; cases hk
    · rw [effD_iff.1 he] at hk; cases hk
    · exact ⟨v, h', h1⟩
    · rw [effD_iff.1 he] at hk; cases hk
  · exact ⟨_, _, h⟩
  · exact absurd (effD_iff.1 he) h

/-- between two places, so many states as effects -/
theorem st_drop (tc : Trace R base L S A) {c : Nat} : ∀ p, c ≤ p → p ≤ L.length → (S p).st.drop (((L.take p).drop c).filter effD).length = (S c).st := by
  intro p
  induction p with
  | zero => intro h _; have : c = 0 := by omega
            subst this; simp
  | succ p ih =>
    intro hcp hp
    by_cases h : c = p + 1
    · subst h
      have : (L.take (p + 1)).drop (p + 1) = [] := by simp
      rw [this]; simp
    · have ih := ih (by omega) (by omega)
      have hd : L[p]? = some L[p] := List.getElem?_eq_getElem (by omega)
      have hseg : (L.take (p + 1)).drop c = (L.take p).drop c ++ [L[p]] := by
        rw [List.take_add_one, hd, List.drop_append_of_le_length (by rw [List.length_take]; omega)]
        rfl
      rw [hseg, List.filter_append, (tc p _ hd).2]
      cases he : effD L[p] with
      | true =>
        obtain ⟨v, h', ha⟩ := eff_kind tc hd he
        rw [ha, dapp_eff_st]
        simpa [he] using ih
      | false =>
        have := (dapp_floor_next (base := base) (d := L[p]) (s := S p) (not_eff tc hd he)).2.2
        rw [this]
        simpa [he] using ih
end
end Go.Ae
end
