/-
  PROVED: 'Rows.ModelKnownCardSaid': marqueelaw32.ModelKnown returns true from every world in which the listed library variables hold what the program's text lays into them (the row's condition 'laid'), and leaves memory as it was; by a verified evaluator of the calculus (Go.Ae), run by the kernel. The card ties the pruned copy of the repository only.
  This text: the evaluator and its soundness, part 6 of 6.
-/
import Derived.Test.YtdiegifjhdfckabGreatDoorAe5

section
/-
  AE: a function that makes a map anew, entry by entry: the open region.
-/
namespace Go.Ae
open Go.ChangeMaps (setBlock)
section
variable {P : Program}
variable {ρ : Ren} {w : World} {tp tk te : TypeId} {i j : IntKind} {x y : Int} {fv f' : Value} {rg : RB} {a : Act} {w' : World} {ρl : Ren} {Hl : H} {tm : Tr Value} {acc : List ME} {key val u : Value} {n6 n7 : Nat}

/-- what each operation of the region has left -/
structure JD (D : Nat → Bool) (a : Act) (tm : Tr Value) (f' key val u : Value) : Prop where
  j0 : D 0 = true → tm.get 22 = some (.pointer (some ⟨mid + 3, 2, none⟩))
  j1 : D 1 = true → tm.get 23 = some (.map (some (mid + 2)))
  j2 : D 2 = true → tm.get 24 = some key
  j3 : D 3 = true → a.tmps.getD 25 undef = f'
  j4 : D 4 = true → a.tmps.getD 26 undef = key
  j5 : D 5 = true → a.tmps.getD 27 undef = val
  j6 : D 6 = true → tm.get 28 = some u
  k1 : D 1 = true → D 0 = true
  k6 : D 6 = true → D 3 = true ∧ D 4 = true ∧ D 5 = true

theorem JD.step {D : Nat → Bool} (jd : JD D a tm f' key val u) {k : Nat} (hk : k ≤ 6) (hs : a.tmps.size = 30) {v v' : Value}
    (n0 : k = 0 → v = .pointer (some ⟨mid + 3, 2, none⟩)) (n1 : k = 1 → v = .map (some (mid + 2)) ∧ D 0 = true) (n2 : k = 2 → v = key) (n3 : k = 3 → v' = f') (n4 : k = 4 → v' = key) (n5 : k = 5 → v' = val) (n6 : k = 6 → v = u ∧ D 3 = true ∧ D 4 = true ∧ D 5 = true) :
    JD (addD D k) (a.put (some (22 + k)) v') (tm.set (22 + k) v) f' key val u := by
  have old : ∀ {q : Nat}, addD D k q = true → q ≠ k → D q = true := fun {q} h hq => by rw [addD_ne hq] at h; exact h
  have keep : ∀ {q : Nat}, D q = true → addD D k q = true := fun h => addD_old h
  constructor
  · intro h
    by_cases e : k = 0
    · subst e; rw [n0 rfl]; exact tset_same
    · rw [tsetE 22 (22 + k) (by omega)]; exact jd.j0 (old h (by omega))
  · intro h
    by_cases e : k = 1
    · subst e; rw [(n1 rfl).1]; exact tset_same
    · rw [tsetE 23 (22 + k) (by omega)]; exact jd.j1 (old h (by omega))
  · intro h
    by_cases e : k = 2
    · subst e; rw [n2 rfl]; exact tset_same
    · rw [tsetE 24 (22 + k) (by omega)]; exact jd.j2 (old h (by omega))
  · intro h
    by_cases e : k = 3
    · subst e; rw [n3 rfl]; exact getD_put_same (by rw [hs]; decide)
    · rw [getD_put (show 25 ≠ 22 + k by omega)]; exact jd.j3 (old h (by omega))
  · intro h
    by_cases e : k = 4
    · subst e; rw [n4 rfl]; exact getD_put_same (by rw [hs]; decide)
    · rw [getD_put (show 26 ≠ 22 + k by omega)]; exact jd.j4 (old h (by omega))
  · intro h
    by_cases e : k = 5
    · subst e; rw [n5 rfl]; exact getD_put_same (by rw [hs]; decide)
    · rw [getD_put (show 27 ≠ 22 + k by omega)]; exact jd.j5 (old h (by omega))
  · intro h
    by_cases e : k = 6
    · subst e; rw [(n6 rfl).1]; exact tset_same
    · rw [tsetE 28 (22 + k) (by omega)]; exact jd.j6 (old h (by omega))
  · intro h
    by_cases e : k = 1
    · exact keep (n1 e).2
    · exact keep (jd.k1 (old h (by omega)))
  · intro h
    by_cases e : k = 6
    · obtain ⟨_, h1, h2, h3⟩ := n6 e
      exact ⟨keep h1, keep h2, keep h3⟩
    · obtain ⟨h1, h2, h3⟩ := jd.k6 (old h (by omega))
      exact ⟨keep h1, keep h2, keep h3⟩

/-- the heap moves on, above what is the function's -/
theorem LI.heap (li : LI P ρ w tp i j x y fv f' rg a w' ρl Hl tm acc) {w2 : World} {ρ2 : Ren} {H2 : H} (ho : Own P ρ w ρ2 H2 w2) (hle : ρl.le ρ2) (hg : ∀ z, z < mid + 4 → H2.tr.get z = Hl.tr.get z) (hn : mid + 4 ≤ H2.next) :
    LI P ρ w tp i j x y fv f' rg a w2 ρ2 H2 tm acc where
  own := ho
  gt := by rw [hg _ (by omega)]; exact li.gt
  gρ := hle _ _ li.gρ
  n4 := by rw [hg _ (by omega)]; exact li.n4
  nm := by rw [hg _ (by omega)]; exact li.nm
  n5 := by rw [hg _ (by omega)]; exact li.n5
  nx := hn
  tms := li.tms.mono hle
  t1 := li.t1
  t4 := li.t4
  t5 := li.t5
  t16 := li.t16
  f1 := li.f1
  size := li.size
  defs := li.defs

/-- a temporary that is none of the function's lasting ones -/
theorem LI.set (li : LI P ρ w tp i j x y fv f' rg a w' ρl Hl tm acc) {d : Nat} {v v' : Value} (h1 : d ≠ 1) (h4 : d ≠ 4) (h5 : d ≠ 5) (h16 : d ≠ 16) (hd : d < 30) (hv : VRel ρl v v') :
    LI P ρ w tp i j x y fv f' rg (a.put (some d) v') w' ρl Hl (tm.set d v) acc where
  own := li.own
  gt := li.gt
  gρ := li.gρ
  n4 := li.n4
  nm := li.nm
  n5 := li.n5
  nx := li.nx
  tms := li.tms.set (by rw [li.size]; exact hd) hv
  t1 := by rw [tsetE 1 d (by omega)]; exact li.t1
  t4 := by rw [tsetE 4 d (by omega)]; exact li.t4
  t5 := by rw [tsetE 5 d (by omega)]; exact li.t5
  t16 := by rw [tsetE 16 d (by omega)]; exact li.t16
  f1 := by rw [getD_put (show 1 ≠ d by omega)]; exact li.f1
  size := by rw [put_size]; exact li.size
  defs := by rw [put_defers]; exact li.defs

/-- the open region of a round -/
theorem open_ok {X : Ctx} (cx : CtxOk P X) {R : Rec} (rok : RecOk P R) {F : Fence} (hF : FOk F) {n : Nat} {Q : Exit → Act → World → Prop} {c : Cmp} {nk ne : Nat} {fn : Func} (CC : CellsCode P X c nk ne fn)
    {h : H} (hr : Rel P ρ h w) (hfv : VRel ρ fv f') (hk : flatV key = true) (hv : flatV val = true) (hkf : fitsIn nk key = true) (hvf : fitsIn ne val = true) {h2 : H} (hu : flatV u = true) (hc : callVal R fv [key, val] { h with floor := h.next } = some (u, h2))
    (hfind : findK c key acc = some none) (ri : RI P ρ w CC.tp CC.tk CC.te i j x y fv f' rg key val n6 n7 a w' ρl Hl tm acc)
    (hQ : ∀ a2 w2, (∃ ρ2 H2 tm2 sid, LI P ρ w CC.tp i j x y fv f' rg a2 w2 ρ2 H2 tm2 ({ key, val := u, sid } :: acc)) → w2.heap[rg.blk]? = w'.heap[rg.blk]? → Q .normal a2 w2) :
    (Code.region CC.i5 CC.r5 true).wpIn F n P Q a w' := by
  have hsz : CC.r5.size = 8 := by
    have := congrArg List.length CC.c5
    unfold compOps at this
    rw [List.length_map, Array.length_toList] at this
    exact this
  have hdep := CC.dep5
  simp only [Bool.and_eq_true] at hdep
  obtain ⟨⟨⟨⟨⟨⟨p10, p63⟩, p64⟩, p65⟩, p71⟩, p72⟩, p76⟩ := hdep
  refine region_inv (fun D a2 w2 => (D 7 = true ∧ (∀ k, k < 8 → D k = true) ∧ (∃ ρ2 H2 tm2 sid, LI P ρ w CC.tp i j x y fv f' rg a2 w2 ρ2 H2 tm2 ({ key, val := u, sid } :: acc)) ∧ w2.heap[rg.blk]? = w'.heap[rg.blk]?) ∨
    (D 7 = false ∧ ∃ ρ2 tm2, RI P ρ w CC.tp CC.tk CC.te i j x y fv f' rg key val n6 n7 a2 w2 ρ2 Hl tm2 acc ∧ w2.heap[rg.blk]? = w'.heap[rg.blk]? ∧ JD D a2 tm2 f' key val u)) CC.ord5 ?_ ?_ ?_
  · refine .inr ⟨rfl, ρl, tm, ⟨ri.li.heap (ri.li.own.kept (Nat.le_refl _) (fun _ _ => rfl) rfl rfl rfl) (Ren.le_refl _) (fun _ _ => rfl) ri.li.nx, ri.g6, ri.g7, ri.t6, ri.t7⟩, rfl, ?_⟩
    constructor <;> intro h <;> cases h
  · rintro D a2 w2 k (⟨_, hall, _⟩ | ⟨hD7, ρ2, tm2, ri2, hit, jd⟩) hlt hn hready K hK
    · rw [hsz] at hlt
      rw [hall k hlt] at hn; cases hn
    · rw [hsz] at hlt
      -- a step that leaves the function's heap as it is
      have go : ∀ {ρ3 : Ren} {w3 : World} {v v' : Value}, k ≤ 6 → Rel P ρ3 Hl w3 → Ext ρ2 Hl w2 ρ3 Hl w3 → VRel ρ3 v v' →
          (k = 0 → v = .pointer (some ⟨mid + 3, 2, none⟩)) → (k = 1 → v = .map (some (mid + 2)) ∧ D 0 = true) → (k = 2 → v = key) → (k = 3 → v' = f') → (k = 4 → v' = key) → (k = 5 → v' = val) → (k = 6 → v = u ∧ D 3 = true ∧ D 4 = true ∧ D 5 = true) → K (a2.put (some (22 + k)) v') w3 := by
        intro ρ3 w3 v v' hk6 k1 k2 k3 n0 n1 n2 n3 n4 n5 n6'
        refine hK _ _ (.inr ⟨by rw [addD_ne (by omega)]; exact hD7, ρ3, tm2.set (22 + k) v, ri2.put (by omega) (by omega) (ri2.li.own.step k1 k2) k2.le k3, (ri2.li.it_step k2).trans hit, jd.step hk6 ri2.li.size n0 n1 n2 n3 n4 n5 n6'⟩)
      rcases (show k = 0 ∨ k = 1 ∨ k = 2 ∨ k = 3 ∨ k = 4 ∨ k = 5 ∨ k = 6 ∨ k = 7 by omega) with rfl | rfl | rfl | rfl | rfl | rfl | rfl | rfl
      · refine opSet_ok cx rok hF CC.c5 (d := 22) (f := fun _ tm h => oFaddr tm h 2 (.tmp 5)) rfl CC.ok5 ri2.li.own.rel ri2.li.tms (v := .pointer (some ⟨mid + 3, 2, none⟩)) (h' := Hl) ?_ fun ρ3 w3 v' k1 k2 k3 => ?_
        · show oFaddr tm2 Hl 2 (.tmp 5) = _
          unfold oFaddr
          have : ev tm2 (.tmp 5) = some (.pointer (some ⟨mid + 3, 0, none⟩)) := ri2.li.t5
          rw [this]; rfl
        · exact go (by omega) k1 k2 k3 (fun _ => rfl) (by omega) (by omega) (by omega) (by omega) (by omega) (by omega)
      · have h0 : D 0 = true := depB_ready p10 hready
        refine opSet_ok cx rok hF CC.c5 (d := 23) (f := fun _ tm h => oLoad tm h none (.tmp 22)) rfl CC.ok5 ri2.li.own.rel ri2.li.tms (v := .map (some (mid + 2))) (h' := Hl) ?_ fun ρ3 w3 v' k1 k2 k3 => ?_
        · show oLoad tm2 Hl none (.tmp 22) = _
          unfold oLoad
          have : ev tm2 (.tmp 22) = some (.pointer (some ⟨mid + 3, 2, none⟩)) := jd.j0 h0
          rw [this]
          simp only
          unfold H.cell plain
          simp only [ri2.li.n5, if_true]
          rfl
        · exact go (by omega) k1 k2 k3 (by omega) (fun _ => ⟨rfl, h0⟩) (by omega) (by omega) (by omega) (by omega) (by omega)
      · refine opSet_ok cx rok hF CC.c5 (d := 24) (f := fun _ tm h => oLoad tm h (some nk) (.tmp 6)) rfl CC.ok5 ri2.li.own.rel ri2.li.tms (load_agg ri2.t6 ri2.g6 hkf) fun ρ3 w3 v' k1 k2 k3 => ?_
        exact go (by omega) k1 k2 k3 (by omega) (by omega) (fun _ => rfl) (by omega) (by omega) (by omega) (by omega)
      · have hx3 : (execOp a2.eval CC.o5).run P w2 = .ok (.value (a2.eval (.tmp 1))) w2 := by
          unfold execOp; rw [CC.p5]; rfl
        have hg := CC.g5 CC.o5 (by
          have := CC.a5
          rw [← Array.getElem?_toList] at this
          exact List.mem_of_getElem? this)
        refine hand_ok hF CC.a5 hg (fun cl e => by rw [CC.p5] at e; cases e) hx3 ?_
        rw [CC.d5]
        have hf1 : a2.eval (.tmp 1) = f' := ri2.li.f1
        rw [hf1]
        exact go (v := fv) (by omega) ri2.li.own.rel (Ext.refl ri2.li.own.rel) (hfv.mono ri2.li.own.le) (by omega) (by omega) (by omega) (fun _ => rfl) (by omega) (by omega) (by omega)
      · refine opSet_ok cx rok hF CC.c5 (d := 26) (f := fun _ tm h => oLoad tm h (some nk) (.tmp 6)) rfl CC.ok5 ri2.li.own.rel ri2.li.tms (load_agg ri2.t6 ri2.g6 hkf) fun ρ3 w3 v' k1 k2 k3 => ?_
        exact go (by omega) k1 k2 k3 (by omega) (by omega) (by omega) (by omega) (fun _ => flatV_eq hk k3) (by omega) (by omega)
      · refine opSet_ok cx rok hF CC.c5 (d := 27) (f := fun _ tm h => oLoad tm h (some ne) (.tmp 7)) rfl CC.ok5 ri2.li.own.rel ri2.li.tms (load_agg ri2.t7 ri2.g7 hvf) fun ρ3 w3 v' k1 k2 k3 => ?_
        exact go (by omega) k1 k2 k3 (by omega) (by omega) (by omega) (by omega) (by omega) (fun _ => flatV_eq hv k3) (by omega)
      · have h3 : D 3 = true := depB_ready p63 hready
        have h4 : D 4 = true := depB_ready p64 hready
        have h5 : D 5 = true := depB_ready p65 hready
        refine callback_ok cx rok hF CC.ok5 CC.c5 rfl hr ri2.li.own hfv hk hv hu hc (jd.j3 h3) (jd.j4 h4) (jd.j5 h5) fun w3 ho hkeep => ?_
        have hrg : rg.blk < w2.heap.size := by
          obtain ⟨r, q1, obj, q2, _⟩ := ri2.li.own.rel.dom _ _ ri2.li.gt
          rw [ri2.li.gρ] at q1; cases q1
          exact (Array.getElem?_eq_some_iff.1 q2).1
        refine hK _ _ (.inr ⟨by rw [addD_ne (by omega)]; exact hD7, ρ2, tm2.set 28 u, ri2.put (by omega) (by omega) ho (Ren.le_refl _) (flatV_refl hu _), (hkeep _ hrg).trans hit, jd.step (by omega) ri2.li.size (by omega) (by omega) (by omega) (by omega) (by omega) (by omega) (fun _ => ⟨rfl, h3, h4, h5⟩)⟩)
      · have h1 : D 1 = true := depB_ready p71 hready
        have h2' : D 2 = true := depB_ready p72 hready
        have h6 : D 6 = true := depB_ready p76 hready
        obtain ⟨h3, h4, h5⟩ := jd.k6 h6
        have h0 := jd.k1 h1
        refine opEff_ok cx rok hF CC.c5 (f := fun _ tm h => oMapUpd tm h c (.tmp 23) (.tmp 24) (.tmp 28)) rfl CC.g5 CC.ok5 ri2.li.own.rel ri2.li.tms (v := undef) (h' := Hl.addEntry (mid + 2) acc key u) ?_ fun ρ3 w3 k1 k2 => ?_
        · show oMapUpd tm2 Hl c (.tmp 23) (.tmp 24) (.tmp 28) = _
          unfold oMapUpd
          have e1 : ev tm2 (.tmp 23) = some (.map (some (mid + 2))) := jd.j1 h1
          have e2 : ev tm2 (.tmp 24) = some key := jd.j2 h2'
          have e3 : ev tm2 (.tmp 28) = some u := jd.j6 h6
          rw [e1, e2, e3]
          simp only
          unfold mapPut
          have hge : Nat.ble Hl.floor (mid + 2) = true := by rw [ri2.li.own.floor]; exact Nat.ble_eq_true_of_le (Nat.le_add_right _ _)
          have hm : mapOf Hl (mid + 2) = some acc := by unfold mapOf; rw [ri2.li.nm]
          simp only [hge, hk, Bool.and_self, if_true, hm, hfind]
        · have ho := ri2.li.own.step k1 k2
          have hget : ∀ z, (Hl.addEntry (mid + 2) acc key u).tr.get z = if z = mid + 2 then some (.map ({ key := key, val := u, sid := Hl.next } :: acc)) else Hl.tr.get z := fun z => Tr.get_set Hl.tr (mid + 2) z (AObj.map ({ key := key, val := u, sid := Hl.next } :: acc))
          have hll := ri2.li
          have hfin : LI P ρ w CC.tp i j x y fv f' rg a2 w3 ρ3 (Hl.addEntry (mid + 2) acc key u) tm2 ({ key, val := u, sid := Hl.next } :: acc) :=
            { own := ho
              gt := by rw [hget, if_neg (by omega)]; exact hll.gt
              gρ := k2.le _ _ hll.gρ
              n4 := by rw [hget, if_neg (by omega)]; exact hll.n4
              nm := by rw [hget, if_pos rfl]
              n5 := by rw [hget, if_neg (by omega)]; exact hll.n5
              nx := Nat.le_trans hll.nx k2.next
              tms := hll.tms.mono k2.le
              t1 := hll.t1
              t4 := hll.t4
              t5 := hll.t5
              t16 := hll.t16
              f1 := hll.f1
              size := hll.size
              defs := hll.defs }
          refine hK _ _ (.inl ⟨addD_same _ _, fun q hq => ?_, ⟨_, _, _, _, hfin⟩, (ri2.li.it_step k2).trans hit⟩)
          rcases (show q = 0 ∨ q = 1 ∨ q = 2 ∨ q = 3 ∨ q = 4 ∨ q = 5 ∨ q = 6 ∨ q = 7 by omega) with rfl | rfl | rfl | rfl | rfl | rfl | rfl | rfl
          · exact addD_old h0
          · exact addD_old h1
          · exact addD_old h2'
          · exact addD_old h3
          · exact addD_old h4
          · exact addD_old h5
          · exact addD_old h6
          · exact addD_same _ _
  · rintro D a2 w2 hall (⟨_, _, h1, h2⟩ | ⟨h7, _⟩)
    · exact hQ a2 w2 h1 h2
    · rw [hall 7 (by rw [hsz]; decide)] at h7; cases h7
end
end Go.Ae
end

section
/-
  AE: a function that makes a map anew, entry by entry: the loop.
-/
namespace Go.Ae
open Go.ChangeMaps (setBlock)
section
variable {P : Program}
variable {ρ : Ren} {w : World} {tp tk te : TypeId} {i j : IntKind} {x y : Int} {fv f' : Value} {rg : RB} {a : Act} {w' : World} {ρl : Ren} {Hl : H} {tm : Tr Value} {acc : List ME} {key val u : Value} {n6 n7 : Nat}

theorem setBlock_same {w : World} {b : Nat} {o : Obj} (h : b < w.heap.size) : (setBlock w b o).heap[b]? = some o := by simp [setBlock, h]
theorem setBlock_ne {w : World} {b c : Nat} {o : Obj} (h : c ≠ b) : (setBlock w b o).heap[c]? = w.heap[c]? := by
  simp [setBlock, Array.getElem?_setIfInBounds_ne (Ne.symm h)]
theorem setBlock_size {w : World} {b : Nat} {o : Obj} : (setBlock w b o).heap.size = w.heap.size := by simp [setBlock]

/-- a step of the iterator -/
theorem LI.iter (li : LI P ρ w tp i j x y fv f' rg a w' ρl Hl tm acc) {w1 : World} (h1 : w1 = w' ∨ w1 = w'.drew) (o : Obj) : LI P ρ w tp i j x y fv f' rg a (setBlock w1 rg.blk o) ρl Hl tm acc ∧ (setBlock w1 rg.blk o).heap[rg.blk]? = some o := by
  have hh : w1.heap = w'.heap := by rcases h1 with rfl | rfl <;> rfl
  obtain ⟨r, q1, obj, q2, _⟩ := li.own.rel.dom _ _ li.gt
  rw [li.gρ] at q1; cases q1
  have hlt := (Array.getElem?_eq_some_iff.1 q2).1
  have hown := (li.own.own _ _ li.gt).2 rg li.gρ
  refine ⟨{ li with own := ⟨li.own.rel.ghost_upd li.gt li.gρ (by rw [setBlock_size, hh]; exact hlt) (fun c _ hne => by rw [setBlock_ne hne, hh]), li.own.le, li.own.own, li.own.floor, by rw [setBlock_size, hh]; exact li.own.size, fun z hz => ?_, ?_, ?_, ?_⟩ }, setBlock_same (by rw [hh]; exact hlt)⟩
  · rw [setBlock_ne (by omega), hh]; exact li.own.keep z hz
  · have : (setBlock w1 rg.blk o).os = w1.os := rfl
    rw [this]; rcases h1 with rfl | rfl <;> exact li.own.os
  · have : (setBlock w1 rg.blk o).output = w1.output := rfl
    rw [this]; rcases h1 with rfl | rfl <;> exact li.own.output
  · have : (setBlock w1 rg.blk o).tape = w1.tape := rfl
    rw [this]; rcases h1 with rfl | rfl <;> exact li.own.tape

/-- the body of a round -/
theorem body_ok {X : Ctx} (cx : CtxOk P X) {R : Rec} (rok : RecOk P R) {F : Fence} (hF : FOk F) {n : Nat} {Q : Exit → Act → World → Prop} {c : Cmp} {nk ne : Nat} {fn : Func} (CC : CellsCode P X c nk ne fn)
    {h : H} (hr : Rel P ρ h w) (hfv : VRel ρ fv f') (hk : flatV key = true) (hv : flatV val = true) (hkf : fitsIn nk key = true) (hvf : fitsIn ne val = true) {h2 : H} (hu : flatV u = true) (hc : callVal R fv [key, val] { h with floor := h.next } = some (u, h2))
    (hfind : findK c key acc = some none) (li : LI P ρ w CC.tp i j x y fv f' rg a w' ρl Hl tm acc) (hsh : rg.sh = 0) {Ms clk : Nat} {seen : Array Nat} {ces : Array MapEntry} {e' : MapEntry} (hit : w'.heap[rg.blk]? = some (.mapIter (some Ms) clk (seen.push e'.born) clk)) (hsrc : w'.heap[Ms]? = some (.map ces clk)) (he : e' ∈ ces.toList) (hnd : (ces.toList.map (·.born)).Nodup)
    (hke : e'.key = key) (hve : e'.val = val)
    (hQ : ∀ a2 w2, (∃ ρ2 H2 tm2 sid, LI P ρ w CC.tp i j x y fv f' rg a2 w2 ρ2 H2 tm2 ({ key, val := u, sid } :: acc)) → w2.heap[rg.blk]? = w'.heap[rg.blk]? → Q .normal a2 w2) :
    (Code.block CC.b1 (.seq (.region CC.i4 CC.r4 false) (.region CC.i5 CC.r5 true))).wpIn F n P Q a w' := by
  refine wpIn_block ?_
  refine wpIn_seq ?_
  refine wpIn_region ?_
  rw [CC.s4]
  show wpOpsIn F n P CC.r4 _ [0, 1, 2, 3, 4, 5, 6] a w'
  -- the entry
  refine wpOpsIn_cons' ?_
  have hx4 : (execOp a.eval CC.o4).run P w' = .ok (.value (.tuple #[e'.key, e'.val])) w' := by
    unfold execOp
    rw [CC.p4]
    have : a.eval (.tmp 16) = .pointer (some ⟨rg.blk, 0, none⟩) := li.t16v hsh
    simp only [this, Sem.run_bind, run_entry_at w' rg.blk Ms clk seen ces clk e' hit hsrc he hnd, Result.andThen_ok, Sem.run_pure]
  refine hand_ok hF CC.a4 CC.g4 (fun cl e => by rw [CC.p4] at e; cases e) hx4 ?_
  rw [CC.d4, hke, hve]
  have l1 := li.put (d := 19) (v := .tuple #[key, val]) (v' := .tuple #[key, val]) (by omega) (by omega) li.own (Ren.le_refl _) (.tuple _ _ (.cons _ _ _ _ (flatV_refl hk _) (.cons _ _ _ _ (flatV_refl hv _) .nil)))
  -- its parts
  refine wpOpsIn_cons' ?_
  refine opSet_ok cx rok hF rfl CC.c41 CC.ok4 l1.own.rel l1.tms (v := key) (h' := Hl) ?_ fun ρ3 w3 v3 k1 k2 k3 => ?_
  · show oExtract _ Hl (.tmp 19) 0 = _
    unfold oExtract
    have : ev (tm.set 19 (.tuple #[key, val])) (.tmp 19) = some (.tuple #[key, val]) := tset_same
    rw [this]; rfl
  have l2 := l1.put (d := 20) (by omega) (by omega) (l1.own.step k1 k2) k2.le k3
  have i2 := (l1.it_step k2).trans hit
  refine wpOpsIn_cons' ?_
  refine opSet_ok cx rok hF rfl CC.c42 CC.ok4 l2.own.rel l2.tms (v := val) (h' := Hl) ?_ fun ρ4 w4 v4 q1 q2 q3 => ?_
  · show oExtract _ Hl (.tmp 19) 1 = _
    unfold oExtract
    have : ev ((tm.set 19 (.tuple #[key, val])).set 20 key) (.tmp 19) = some (.tuple #[key, val]) := by
      show ((tm.set 19 _).set 20 key).get 19 = _
      rw [tsetE 19 20 (by omega)]; exact tset_same
    rw [this]; rfl
  have l3 := l2.put (d := 21) (by omega) (by omega) (l2.own.step q1 q2) q2.le q3
  have i3 := (l2.it_step q2).trans i2
  -- two rows
  refine wpOpsIn_cons' ?_
  refine opSet_ok cx rok hF rfl CC.c43 CC.ok4 l3.own.rel l3.tms (v := .pointer (some ⟨Hl.next, 0, none⟩)) (h' := (Hl.new (.cells CC.zK CC.tk 0 true 0)).2) rfl fun ρ5 w5 v5 s1 s2 s3 => ?_
  have hg1 : ∀ z, (Hl.new (.cells CC.zK CC.tk 0 true 0)).2.tr.get z = if z = Hl.next then some (.cells CC.zK CC.tk 0 true 0) else Hl.tr.get z := fun z => Tr.get_set _ _ _ _
  have l4 := (l3.heap (l3.own.step s1 s2) s2.le (fun z hz => by rw [hg1, if_neg (by have := li.nx; omega)]) (Nat.le_trans li.nx (Nat.le_succ _))).set (d := 6) (by omega) (by omega) (by omega) (by omega) (by omega) s3
  have i4 := (l3.it_step s2).trans i3
  generalize hH1 : (Hl.new (.cells CC.zK CC.tk 0 true 0)).2 = H1 at *
  have hn1 : H1.next = Hl.next + 1 := by rw [← hH1]; rfl
  refine wpOpsIn_cons' ?_
  refine opSet_ok cx rok hF rfl CC.c44 CC.ok4 l4.own.rel l4.tms (v := .pointer (some ⟨H1.next, 0, none⟩)) (h' := (H1.new (.cells CC.zE CC.te 0 true 0)).2) rfl fun ρ6 w6 v6 t1 t2 t3 => ?_
  have hg2 : ∀ z, (H1.new (.cells CC.zE CC.te 0 true 0)).2.tr.get z = if z = H1.next then some (.cells CC.zE CC.te 0 true 0) else H1.tr.get z := fun z => Tr.get_set _ _ _ _
  have l5 := (l4.heap (l4.own.step t1 t2) t2.le (fun z hz => by rw [hg2, if_neg (by have := l4.nx; omega)]) (Nat.le_trans l4.nx (Nat.le_succ _))).set (d := 7) (by omega) (by omega) (by omega) (by omega) (by omega) t3
  have i5 := (l4.it_step t2).trans i4
  generalize hH2 : (H1.new (.cells CC.zE CC.te 0 true 0)).2 = H2 at *
  have hn2 : H2.next = H1.next + 1 := by rw [← hH2]; rfl
  have g6 : H2.tr.get Hl.next = some (.cells CC.zK CC.tk 0 true 0) := by rw [hg2, if_neg (by omega), hg1, if_pos rfl]
  have g7 : H2.tr.get H1.next = some (.cells CC.zE CC.te 0 true 0) := by rw [hg2, if_pos rfl]
  -- what goes into them
  have u20 : Tr.get (((((tm.set 19 (.tuple #[key, val])).set 20 key).set 21 val).set 6 (.pointer (some ⟨Hl.next, 0, none⟩))).set 7 (.pointer (some ⟨H1.next, 0, none⟩))) 20 = some key := by
    rw [tsetE 20 7 (by omega), tsetE 20 6 (by omega), tsetE 20 21 (by omega)]; exact tset_same
  have u21 : Tr.get (((((tm.set 19 (.tuple #[key, val])).set 20 key).set 21 val).set 6 (.pointer (some ⟨Hl.next, 0, none⟩))).set 7 (.pointer (some ⟨H1.next, 0, none⟩))) 21 = some val := by
    rw [tsetE 21 7 (by omega), tsetE 21 6 (by omega)]; exact tset_same
  have u6 : Tr.get (((((tm.set 19 (.tuple #[key, val])).set 20 key).set 21 val).set 6 (.pointer (some ⟨Hl.next, 0, none⟩))).set 7 (.pointer (some ⟨H1.next, 0, none⟩))) 6 = some (.pointer (some ⟨Hl.next, 0, none⟩)) := by
    rw [tsetE 6 7 (by omega)]; exact tset_same
  have u7 : Tr.get (((((tm.set 19 (.tuple #[key, val])).set 20 key).set 21 val).set 6 (.pointer (some ⟨Hl.next, 0, none⟩))).set 7 (.pointer (some ⟨H1.next, 0, none⟩))) 7 = some (.pointer (some ⟨H1.next, 0, none⟩)) := tset_same
  generalize hT : ((((tm.set 19 (.tuple #[key, val])).set 20 key).set 21 val).set 6 (.pointer (some ⟨Hl.next, 0, none⟩))).set 7 (.pointer (some ⟨H1.next, 0, none⟩)) = T at *
  have hfl2 : H2.floor = mid := l5.own.floor
  have hnx := li.nx
  refine wpOpsIn_cons' ?_
  refine opEff_ok cx rok hF rfl CC.c45 CC.g4' CC.ok4 l5.own.rel l5.tms (store_agg u6 u20 g6 CC.zKl (by rw [hfl2]; omega) hkf) fun ρ7 w7 v1 v2 => ?_
  have hg3 : ∀ z, (H2.put Hl.next (.cells (asList key) CC.tk 0 true 0)).tr.get z = if z = Hl.next then some (.cells (asList key) CC.tk 0 true 0) else H2.tr.get z := fun z => Tr.get_set _ _ _ _
  have l6 := l5.heap (l5.own.step v1 v2) v2.le (fun z hz => by rw [hg3, if_neg (by omega)]) l5.nx
  have i6 := (l5.it_step v2).trans i5
  generalize hH3 : H2.put Hl.next (.cells (asList key) CC.tk 0 true 0) = H3 at *
  have g7' : H3.tr.get H1.next = some (.cells CC.zE CC.te 0 true 0) := by rw [hg3, if_neg (by omega)]; exact g7
  refine wpOpsIn_cons' ?_
  refine opEff_ok cx rok hF rfl CC.c46 CC.g4' CC.ok4 l6.own.rel l6.tms (store_agg u7 u21 g7' CC.zEl (by rw [l6.own.floor]; omega) hvf) fun ρ8 w8 x1 x2 => ?_
  have hg4 : ∀ z, (H3.put H1.next (.cells (asList val) CC.te 0 true 0)).tr.get z = if z = H1.next then some (.cells (asList val) CC.te 0 true 0) else H3.tr.get z := fun z => Tr.get_set _ _ _ _
  have l7 := l6.heap (l6.own.step x1 x2) x2.le (fun z hz => by rw [hg4, if_neg (by omega)]) l6.nx
  have i7 := (l6.it_step x2).trans i6
  generalize hH4 : H3.put H1.next (.cells (asList val) CC.te 0 true 0) = H4 at *
  show (Code.region CC.i5 CC.r5 true).wpIn F n P _ _ _
  refine open_ok cx rok hF CC hr hfv hk hv hkf hvf hu hc hfind (n6 := Hl.next) (n7 := H1.next) ⟨l7, ?_, ?_, u6, u7⟩ fun a9 w9 y1 y2 => ?_
  · rw [hg4, if_neg (by omega), hg3, if_pos rfl]
  · rw [hg4, if_pos rfl]
  · exact hQ a9 w9 y1 (by rw [y2, i7, hit])
end
end Go.Ae
end

section
/-
  AE: a function that makes a map anew, entry by entry: all of it.
-/
namespace Go.Ae
open Go.ChangeMaps (setBlock)

theorem filter_add {α : Type} (f : α → Nat) (p : α → Bool) : ∀ (L : List α), (L.map f).Nodup → ∀ t, t ∈ L → p t = false → List.Perm (t :: L.filter p) (L.filter (fun x => p x || f x == f t))
  | [], _, _, h, _ => by cases h
  | z :: L, hn, t, ht, hp => by
    rw [List.map_cons, List.nodup_cons] at hn
    by_cases e : t = z
    · subst e
      have h1 : (t :: L).filter p = L.filter p := List.filter_cons_of_neg (by simp [hp])
      have h2 : (t :: L).filter (fun x => p x || f x == f t) = t :: L.filter (fun x => p x || f x == f t) := List.filter_cons_of_pos (by simp)
      have h3 : L.filter (fun x => p x || f x == f t) = L.filter p := List.filter_congr fun x hx => by
        have : f x ≠ f t := fun h => hn.1 (List.mem_map.2 ⟨x, hx, h⟩)
        simp [this]
      rw [h1, h2, h3]
    · have ht' : t ∈ L := by
        rcases List.mem_cons.1 ht with h | h
        · exact absurd h e
        · exact h
      have ih := filter_add f p L hn.2 t ht' hp
      have hz : f z ≠ f t := fun h => hn.1 (by rw [h]; exact List.mem_map.2 ⟨t, ht', rfl⟩)
      cases hpz : p z with
      | true =>
        rw [List.filter_cons_of_pos hpz, List.filter_cons_of_pos (by simp [hpz])]
        exact (List.Perm.swap _ _ _).trans (ih.cons _)
      | false =>
        rw [List.filter_cons_of_neg (by simp [hpz]), List.filter_cons_of_neg (by simp [hpz, hz])]
        exact ih

section
variable {P : Program}
variable {ρ : Ren} {w : World} {i j : IntKind} {x y : Int} {fv f' : Value} {rg : RB} {a : Act} {w' : World} {ρl : Ren} {Hl : H} {tm : Tr Value} {acc : List ME}

theorem EsRel.mem : ∀ {l : List ME} {l' : List MapEntry}, EsRel ρ l l' → ∀ (k : Nat) e, l[k]? = some e → ∃ e', l'[k]? = some e' ∧ ERel ρ e e'
  | _, _, .nil, k, e, h => by simp at h
  | _, _, .cons a b, 0, e, h => by simp at h; subst h; exact ⟨_, rfl, a⟩
  | _, _, .cons a b, k + 1, e, h => by simpa using b.mem k e (by simpa using h)

theorem EsRel.of_mem : ∀ {l : List ME} {l' : List MapEntry}, l'.length = l.length → (∀ (k : Nat) e, l[k]? = some e → ∃ e', l'[k]? = some e' ∧ ERel ρ e e') → EsRel ρ l l'
  | [], [], _, _ => .nil
  | [], _ :: _, h, _ => by simp at h
  | _ :: _, [], h, _ => by simp at h
  | e :: l, e' :: l', h, f => by
    obtain ⟨u, h1, h2⟩ := f 0 e (by simp)
    simp at h1; subst h1
    exact .cons h2 (EsRel.of_mem (by simpa using h) fun k z hz => by simpa using f (k + 1) z (by simpa using hz))

/-- the loop -/
theorem loop_ok {X : Ctx} (cx : CtxOk P X) {R : Rec} (rok : RecOk P R) {F : Fence} (hF : FOk F) {n : Nat} {Q : Exit → Act → World → Prop} {c : Cmp} {nk ne : Nat} {fn : Func} (CC : CellsCode P X c nk ne fn)
    {h : H} (hr : Rel P ρ h w) (hfv : VRel ρ fv f') {Ms clk : Nat} {ces : Array MapEntry} (hsh : rg.sh = 0) (hMs : w.heap[Ms]? = some (.map ces clk)) (hnd : (ces.toList.map (·.born)).Nodup) (hlt : ∀ e ∈ ces.toList, e.born < clk)
    {T : List (ME × MapEntry × ME)} (hT : List.Perm (T.map (·.2.1)) ces.toList) (hka : (T.map (·.1)).Pairwise (fun x y => cmpV c x.key y.key = some false)) (hks : ∀ t ∈ T, cmpV c t.1.key t.1.key = some true)
    (hTf : ∀ t ∈ T, ERel ρ t.1 t.2.1 ∧ flatV t.1.key = true ∧ flatV t.1.val = true ∧ flatV t.2.2.val = true ∧ t.2.2.key = t.1.key ∧ ∃ h2, callVal R fv [t.1.key, t.1.val] { h with floor := h.next } = some (t.2.2.val, h2))
    (hfit : ∀ t ∈ T, fitsIn nk t.1.key = true ∧ fitsIn ne t.1.val = true)
    (li : LI P ρ w CC.tp i j x y fv f' rg a w' ρl Hl tm []) (hit : w'.heap[rg.blk]? = some (.mapIter (some Ms) clk #[] clk))
    (hQ : ∀ a2 w2 ρ2 H2 tm2 acc2, LI P ρ w CC.tp i j x y fv f' rg a2 w2 ρ2 H2 tm2 acc2 → List.Perm (acc2.map fun m => (m.key, m.val)) (T.map fun t => (t.1.key, t.2.2.val)) → Q .normal a2 w2) :
    (Code.block CC.b0 (.loop (.seq (.region CC.i3 CC.r3 false) (.seq (.cond (.tmp 18) .skip (.exit CC.b0)) (.block CC.b1 (.seq (.region CC.i4 CC.r4 false) (.region CC.i5 CC.r5 true))))))).wpIn F n P Q a w' := by
  refine wpIn_block ?_
  have hborn : (T.map (fun t => t.2.1.born)).Nodup := by
    have h1 : List.Perm ((T.map (·.2.1)).map (·.born)) (ces.toList.map (·.born)) := hT.map _
    rw [List.map_map] at h1
    exact h1.symm.nodup hnd
  refine wpIn_loop (fun a2 w2 => ∃ ρ2 H2 tm2 acc2 seen, LI P ρ w CC.tp i j x y fv f' rg a2 w2 ρ2 H2 tm2 acc2 ∧ w2.heap[rg.blk]? = some (.mapIter (some Ms) clk seen clk) ∧
      List.Perm (acc2.map fun m => (m.key, m.val)) ((T.filter fun t => seen.contains t.2.1.born).map fun t => (t.1.key, t.2.2.val)))
    (fun _ w2 => match w2.heap[rg.blk]? with | some (.mapIter _ _ seen _) => (leftOf ces seen).size | _ => 0) ⟨ρl, Hl, tm, [], #[], li, hit, by simp⟩ ?_
  rintro a2 w2 ⟨ρ2, H2, tm2, acc2, seen, l2, it2, hp⟩
  have hsrc : w2.heap[Ms]? = some (.map ces clk) := by
    rw [l2.own.keep Ms (Array.getElem?_eq_some_iff.1 hMs).1]; exact hMs
  refine wpIn_seq ?_
  refine wpIn_region ?_
  rw [CC.s3]
  show wpOpsIn F n P CC.r3 _ [0, 1] a2 w2
  refine wpOpsIn_cons' ?_
  have h16 : a2.eval (.tmp 16) = .pointer (some ⟨rg.blk, 0, none⟩) := l2.t16v hsh
  rcases run_next_at (P := P) w2 CC.o3.type rg.blk Ms clk clk seen ces clk it2 hsrc (fun e he => hlt e he) (Nat.le_refl _) with ⟨hemp, hrun⟩ | ⟨e', he', w3, hw3, hrun⟩
  · -- nothing is left
    have hx3 : (execOp a2.eval CC.o3).run P w2 = .ok (.value (.tuple #[.bool false])) w2 := by
      unfold execOp
      rw [CC.p3]
      simp only [h16, Sem.run_bind, hrun, Result.andThen_ok, Sem.run_pure]
    refine hand_ok hF CC.a3 CC.g3 (fun cl e => by rw [CC.p3] at e; cases e) hx3 ?_
    rw [CC.d3]
    have l3 := l2.put (d := 17) (v := .tuple #[.bool false]) (v' := .tuple #[.bool false]) (by omega) (by omega) l2.own (Ren.le_refl _) (flatV_refl rfl _)
    refine wpOpsIn_cons' ?_
    refine opSet_ok cx rok hF rfl CC.c31 CC.ok3 l3.own.rel l3.tms (v := .bool false) (h' := H2) ?_ fun ρ4 w4 v4 k1 k2 k3 => ?_
    · show oExtract _ H2 (.tmp 17) 0 = _
      unfold oExtract
      have : ev (tm2.set 17 (.tuple #[.bool false])) (.tmp 17) = some (.tuple #[.bool false]) := tset_same
      rw [this]; rfl
    have l4 := l3.put (d := 18) (by omega) (by omega) (l3.own.step k1 k2) k2.le k3
    have hv4 : v4 = .bool false := flatV_eq (v := .bool false) rfl k3
    show (Code.seq _ _).wpIn F n P _ _ _
    refine wpIn_seq ?_
    refine wpIn_cond_false (by
      show ((a2.put (some 17) _).put (some 18) v4).tmps.getD 18 undef = _
      rw [getD_put_same (by rw [put_size, l2.size]; decide), hv4]) ?_
    refine wpIn_exit ?_
    show (if CC.b0 = CC.b0 then Q .normal _ _ else Q (.exit CC.b0) _ _)
    rw [if_pos rfl]
    refine hQ _ _ _ _ _ _ l4 ?_
    have hall : T.filter (fun t => seen.contains t.2.1.born) = T := by
      refine List.filter_eq_self.2 fun t ht => ?_
      have hmem : t.2.1 ∈ ces.toList := hT.mem_iff.1 (List.mem_map.2 ⟨t, ht, rfl⟩)
      cases hs : seen.contains t.2.1.born with
      | true => rfl
      | false =>
        exfalso
        have : t.2.1 ∈ (leftOf ces seen) := by
          unfold leftOf
          rw [Array.mem_filter]
          exact ⟨by simpa using hmem, by simpa using hs⟩
        have hz : leftOf ces seen = #[] := Array.eq_empty_of_size_eq_zero hemp
        rw [hz] at this; simp at this
    rw [hall] at hp
    exact hp
  · -- an entry
    have hmem : e' ∈ ces.toList ∧ seen.contains e'.born = false := by
      unfold leftOf at he'
      have : e' ∈ ces.filter (fun e => !seen.contains e.born) := by simpa using he'
      rw [Array.mem_filter] at this
      exact ⟨by simpa using this.1, by simpa using this.2⟩
    obtain ⟨t, ht, hte⟩ := List.mem_map.1 (hT.mem_iff.2 hmem.1)
    obtain ⟨f1, f2, f3, f4, f5, h2, f6⟩ := hTf t ht
    have hke : e'.key = t.1.key := by rw [← hte]; exact flatV_eq f2 f1.key
    have hve : e'.val = t.1.val := by rw [← hte]; exact flatV_eq f3 f1.val
    have hx3 : (execOp a2.eval CC.o3).run P w2 = .ok (.value (.tuple #[.bool true, e'.key, e'.val])) (setBlock w3 rg.blk (.mapIter (some Ms) clk (seen.push e'.born) clk)) := by
      unfold execOp
      rw [CC.p3]
      simp only [h16, Sem.run_bind, hrun, Result.andThen_ok, Sem.run_pure]
    refine hand_ok hF CC.a3 CC.g3 (fun cl e => by rw [CC.p3] at e; cases e) hx3 ?_
    rw [CC.d3, hke, hve]
    obtain ⟨l2', it2'⟩ := l2.iter hw3 (.mapIter (some Ms) clk (seen.push e'.born) clk)
    generalize setBlock w3 rg.blk (.mapIter (some Ms) clk (seen.push e'.born) clk) = w4 at *
    have hsrc4 : w4.heap[Ms]? = some (.map ces clk) := by
      rw [l2'.own.keep Ms (Array.getElem?_eq_some_iff.1 hMs).1]; exact hMs
    have l3 := l2'.put (d := 17) (v := .tuple #[.bool true, t.1.key, t.1.val]) (v' := .tuple #[.bool true, t.1.key, t.1.val]) (by omega) (by omega) l2'.own (Ren.le_refl _) (.tuple _ _ (.cons _ _ _ _ (.bool _) (.cons _ _ _ _ (flatV_refl f2 _) (.cons _ _ _ _ (flatV_refl f3 _) .nil))))
    refine wpOpsIn_cons' ?_
    refine opSet_ok cx rok hF rfl CC.c31 CC.ok3 l3.own.rel l3.tms (v := .bool true) (h' := H2) ?_ fun ρ5 w5 v5 k1 k2 k3 => ?_
    · show oExtract _ H2 (.tmp 17) 0 = _
      unfold oExtract
      have : ev (tm2.set 17 (.tuple #[.bool true, t.1.key, t.1.val])) (.tmp 17) = some (.tuple #[.bool true, t.1.key, t.1.val]) := tset_same
      rw [this]; rfl
    have l4 := l3.put (d := 18) (by omega) (by omega) (l3.own.step k1 k2) k2.le k3
    have it5 := (l3.it_step k2).trans it2'
    have hsrc5 : w5.heap[Ms]? = some (.map ces clk) := by
      rw [l4.own.keep Ms (Array.getElem?_eq_some_iff.1 hMs).1]; exact hMs
    have hv5 : v5 = .bool true := flatV_eq (v := .bool true) rfl k3
    show (Code.seq _ _).wpIn F n P _ _ _
    refine wpIn_seq ?_
    refine wpIn_cond_true (by
      show ((a2.put (some 17) _).put (some 18) v5).tmps.getD 18 undef = _
      rw [getD_put_same (by rw [put_size, l2.size]; decide), hv5]) ?_
    refine wpIn_skip ?_
    show (Code.block CC.b1 _).wpIn F n P _ _ _
    -- the key is new
    have hfind : findK c t.1.key acc2 = some none := by
      unfold findK
      rw [hks t ht]
      simp only
      refine findKey_none acc2 fun m hm => ?_
      have hmp : (m.key, m.val) ∈ (T.filter fun t => seen.contains t.2.1.born).map fun t => (t.1.key, t.2.2.val) := hp.mem_iff.1 (List.mem_map.2 ⟨m, hm, rfl⟩)
      obtain ⟨s, hs, hse⟩ := List.mem_map.1 hmp
      obtain ⟨hs1, hs2⟩ := List.mem_filter.1 hs
      have hne : t ≠ s := fun h => by
        subst h
        rw [hte, hmem.2] at hs2; cases hs2
      have := pairwise_all (r := fun a b : ME × MapEntry × ME => cmpV c a.1.key b.1.key = some false) (fun a b h => cmpV_symm _ _ _ _ h) (List.pairwise_map.1 hka) ht hs1 hne
      have hk : m.key = s.1.key := (congrArg Prod.fst hse).symm
      rw [hk]; exact this
    refine body_ok cx rok hF CC hr hfv f2 f3 (hfit t ht).1 (hfit t ht).2 f4 f6 hfind l4 hsh it5 hsrc5 hmem.1 hnd hke hve fun a6 w6 ⟨ρ6, H6, tm6, sid, l6⟩ it6 => ?_
    have it7 : w6.heap[rg.blk]? = some (.mapIter (some Ms) clk (seen.push e'.born) clk) := it6.trans it5
    refine ⟨⟨ρ6, H6, tm6, _, seen.push e'.born, l6, it7, ?_⟩, ?_⟩
    · have h1 := filter_add (fun t : ME × MapEntry × ME => t.2.1.born) (fun t => seen.contains t.2.1.born) T hborn t ht (by rw [hte]; exact hmem.2)
      have h3 : T.filter (fun s => (seen.push e'.born).contains s.2.1.born) = T.filter (fun s => seen.contains s.2.1.born || s.2.1.born == t.2.1.born) := List.filter_congr fun s _ => by
        rw [hte, Array.contains_push]
      rw [h3, List.map_cons]
      have h4 := h1.map (fun t : ME × MapEntry × ME => (t.1.key, t.2.2.val))
      rw [List.map_cons] at h4
      exact (hp.cons _).trans h4
    · show (match w6.heap[rg.blk]? with | some (.mapIter _ _ seen _) => (leftOf ces seen).size | _ => 0) < (match w2.heap[rg.blk]? with | some (.mapIter _ _ seen _) => (leftOf ces seen).size | _ => 0)
      rw [it7, it2]
      simp only
      unfold leftOf
      have hl1 : (ces.filter fun e => !(seen.push e'.born).contains e.born).size = (ces.toList.filter fun e => !(seen.push e'.born).contains e.born).length := by rw [← Array.length_toList, Array.toList_filter]
      have hl2 : (ces.filter fun e => !seen.contains e.born).size = (ces.toList.filter fun e => !seen.contains e.born).length := by rw [← Array.length_toList, Array.toList_filter]
      rw [hl1, hl2]
      refine filter_lt _ (fun e _ he => ?_) ⟨e', hmem.1, by rw [hmem.2]; rfl, by simp⟩
      simp only [Bool.not_eq_true', Array.contains_push, Bool.or_eq_false_iff] at he ⊢
      exact he.1

/-- what comes out, seen from outside -/
theorem final_ok {h : H} (hr : Rel P ρ h w) (ho : Own P ρ w ρl Hl w') (hnm : Hl.tr.get (mid + 2) = some (.map acc)) {us : List ME} (hp : List.Perm (acc.map fun m => (m.key, m.val)) (us.map fun m => (m.key, m.val)))
    (hus : ∀ (k : Nat) u, us[k]? = some u → u.sid = Nat.succ h.next + k ∧ flatV u.key = true ∧ flatV u.val = true) {v' : Value} (hv : VRel ρl (.agg #[.int i x, .int j y, .map (some (mid + 2))]) v') :
    ∃ ρ', Rel P ρ' { h with tr := h.tr.set h.next (.map us), next := Nat.succ h.next + us.length } w' ∧ Ext ρ h w ρ' { h with tr := h.tr.set h.next (.map us), next := Nat.succ h.next + us.length } w' ∧ VRel ρ' (.agg #[.int i x, .int j y, .map (some h.next)]) v' := by
  obtain ⟨rm, q1, obj, q2, q3⟩ := ho.rel.dom _ _ hnm
  have hblk := (ho.own _ _ hnm).2 rm q1
  cases q3 with
  | @map _ ces clock m =>
    obtain ⟨⟨la, m1, m2⟩, m3, m4⟩ := m
    obtain ⟨acc', a1, a2⟩ := perm_map_lift hp rfl
    obtain ⟨la', b1, b2⟩ := m2.ofPerm a1
    have hlen : la'.length = us.length := by
      rw [b1.length, ← List.length_map (f := fun m : ME => (m.key, m.val)) (as := acc'), a2, List.length_map]
    let ρ' : Ren := fun b => if b = h.next then some rm else if h.next < b ∧ b ≤ h.next + us.length then (la'[b - Nat.succ h.next]?).map (fun e => ⟨e.born, 0, 0, 0⟩) else ρ b
    have hlow : ∀ b, b < h.next → ρ' b = ρ b := fun b hb => by
      show (if b = h.next then _ else _) = _
      rw [if_neg (by omega), if_neg (by omega)]
    have hnext : ρ' h.next = some rm := by show (if h.next = h.next then _ else _) = _; rw [if_pos rfl]
    have hle : ρ.le ρ' := fun b r e => by rw [hlow b (hr.fresh b r e)]; exact e
    have hsid : ∀ (k : Nat) e, la'[k]? = some e → ρ' (Nat.succ h.next + k) = some ⟨e.born, 0, 0, 0⟩ := fun k e he => by
      have hk : k < us.length := by rw [← hlen]; exact (List.getElem?_eq_some_iff.1 he).1
      show (if Nat.succ h.next + k = h.next then _ else _) = _
      rw [if_neg (by omega), if_pos (by omega)]
      have : Nat.succ h.next + k - Nat.succ h.next = k := by omega
      rw [this, he]; rfl
    have hget : ∀ z, (h.tr.set h.next (.map us)).get z = if z = h.next then some (.map us) else h.tr.get z := fun z => Tr.get_set _ _ _ _
    have old : ∀ z oz, z ≠ h.next → (h.tr.set h.next (.map us)).get z = some oz → h.tr.get z = some oz := fun z oz hz e => by rw [hget, if_neg hz] at e; exact e
    have hes : EsRel ρ' us la' := by
      refine EsRel.of_mem hlen fun k u hu => ?_
      obtain ⟨s1, s2, s3⟩ := hus k u hu
      have hk : k < acc'.length := by
        have h1 := (List.getElem?_eq_some_iff.1 hu).1
        have h2 : acc'.length = us.length := by rw [← List.length_map (f := fun m : ME => (m.key, m.val)) (as := acc'), a2, List.length_map]
        omega
      have hak : acc'[k]? = some acc'[k] := List.getElem?_eq_getElem hk
      obtain ⟨e', h1, h2⟩ := b1.mem k _ hak
      have hpair : (acc'[k].key, acc'[k].val) = (u.key, u.val) := by
        have e1 : (acc'.map fun m => (m.key, m.val))[k]? = some (acc'[k].key, acc'[k].val) := by rw [List.getElem?_map, hak]; rfl
        rw [a2, List.getElem?_map, hu] at e1
        exact (Option.some.inj e1).symm
      have hkey : acc'[k].key = u.key := congrArg Prod.fst hpair
      have hval : acc'[k].val = u.val := congrArg Prod.snd hpair
      refine ⟨e', h1, ⟨?_, ?_, ⟨e'.born, 0, 0, 0⟩, ?_, rfl⟩⟩
      · have := h2.key; rw [hkey] at this
        rw [flatV_eq s2 this]; exact flatV_refl s2 _
      · have := h2.val; rw [hval] at this
        rw [flatV_eq s3 this]; exact flatV_refl s3 _
      · rw [s1]; exact hsid k e' h1
    refine ⟨ρ', ⟨fun b o e => ?_, fun b b2 o o2 r r2 e e2 p p2 heq => ?_, fun b r e => ?_, fun b o e => ?_, fun g hg => hle _ _ (hr.glob g hg), ?_, hr.gfl⟩, ⟨hle, hlow, ?_, rfl, fun b hb => ?_, fun b o hb e => ?_, fun b o r hb e p => ?_, ho.size, fun z hz _ => ho.keep z hz, ho.os, ho.output, ho.tape⟩, ?_⟩
    · by_cases hb : b = h.next
      · subst hb
        have e : (h.tr.set h.next (.map us)).get h.next = some o := e
        rw [hget, if_pos rfl] at e; cases e
        exact ⟨rm, hnext, _, q2, .map ⟨⟨la', b2.symm.trans m1, hes⟩, m3, m4⟩⟩
      · obtain ⟨r, p1, obj, p2, p3⟩ := hr.dom b o (old b o hb e)
        exact ⟨r, hle _ _ p1, obj, by rw [ho.keep _ (Array.getElem?_eq_some_iff.1 p2).1]; exact p2, p3.mono hle⟩
    · have blk : ∀ z oz rz, z ≠ h.next → (h.tr.set h.next (.map us)).get z = some oz → ρ' z = some rz → rz.blk < w.heap.size ∧ ρ z = some rz := fun z oz rz hz e q => by
        obtain ⟨r3, p1, obj, p2, _⟩ := hr.dom z oz (old z oz hz e)
        have := hle _ _ p1
        rw [q] at this; cases this
        exact ⟨(Array.getElem?_eq_some_iff.1 p2).1, p1⟩
      by_cases hb : b = h.next
      · by_cases hb2 : b2 = h.next
        · rw [hb, hb2]
        · exfalso
          have := (blk b2 o2 r2 hb2 e2 p2).1
          rw [hb, hnext] at p; cases p
          omega
      · by_cases hb2 : b2 = h.next
        · exfalso
          have := (blk b o r hb e p).1
          rw [hb2, hnext] at p2; cases p2
          omega
        · exact hr.inj b b2 o o2 r r2 (old b o hb e) (old b2 o2 hb2 e2) (blk b o r hb e p).2 (blk b2 o2 r2 hb2 e2 p2).2 heq
    · show b < Nat.succ h.next + us.length
      by_cases h1 : b = h.next
      · omega
      · by_cases h2 : h.next < b ∧ b ≤ h.next + us.length
        · omega
        · have e : (if b = h.next then some rm else if h.next < b ∧ b ≤ h.next + us.length then (la'[b - Nat.succ h.next]?).map (fun e => ⟨e.born, 0, 0, 0⟩) else ρ b) = some r := e
          rw [if_neg h1, if_neg h2] at e
          have := hr.fresh b r e; omega
    · show b < Nat.succ h.next + us.length
      by_cases hb : b = h.next
      · omega
      · have := hr.dead b o (old b o hb e); omega
    · show h.floor ≤ Nat.succ h.next + us.length
      have := hr.fl; omega
    · show h.next ≤ Nat.succ h.next + us.length
      omega
    · show (h.tr.set h.next (.map us)).get b = _
      have := hr.fl
      rw [hget, if_neg (by omega)]
    · exact ⟨o, old b o (by omega) e⟩
    · by_cases hb2 : b = h.next
      · rw [hb2, hnext] at p; cases p
        exact .inl hblk
      · have := hr.dead b o (old b o hb2 e); omega
    · cases hv with
      | agg _ cs z =>
        obtain ⟨lcs⟩ := cs
        have z : VsRel ρl [.int i x, .int j y, .map (some (mid + 2))] lcs := z
        cases z with
        | cons _ _ _ _ z1 z2 =>
          cases z1
          cases z2 with
          | cons _ _ _ _ z3 z4 =>
            cases z3
            cases z4 with
            | cons _ _ _ _ z5 z6 =>
              cases z6
              cases z5 with
              | map _ r3 z7 =>
                rw [q1] at z7; cases z7
                exact .agg _ _ (.cons _ _ _ _ (.int _ _) (.cons _ _ _ _ (.int _ _) (.cons _ _ _ _ (.map _ _ hnext) .nil)))
end
end Go.Ae
end

section
/-
  AE: a function that makes a map anew, entry by entry: its contract.
-/
namespace Go.Ae
open Go.ChangeMaps (setBlock)
section
variable {P : Program}

theorem allFit_mem {nk ne : Nat} : ∀ {l : List ME}, allFit nk ne l = true → ∀ m ∈ l, fitsIn nk m.key = true ∧ fitsIn ne m.val = true
  | [], _, m, h => by cases h
  | e :: l, h, m, hm => by
    unfold allFit at h
    simp only [Bool.and_eq_true] at h
    rcases List.mem_cons.1 hm with rfl | hm
    · exact ⟨h.1.1, h.1.2⟩
    · exact allFit_mem h.2 m hm

theorem cells_ok {X : Ctx} (cx : CtxOk P X) {c : Cmp} {nk ne : Nat} {fn : Func} (CC : CellsCode P X c nk ne fn) {f : FuncId} (hfn : P.funcs[f]? = some fn) {R : Rec} (rok : RecOk P R) {vs : List Value} {h : H} {v : Value} {h' : H} (hs : cellsSumm c nk ne R vs h = some (v, h')) : CallOk P f vs h v h' := by
  unfold cellsSumm at hs
  split at hs
  · rename_i m fv
    split at hs
    · rename_i i x j y r hm
      split at hs
      · rename_i es hes
        split at hs
        · rename_i us hcond hus
          split at hs
          · cases hs
            simp only [Bool.and_eq_true] at hcond
            obtain ⟨⟨⟨hb, hka⟩, hfit⟩, hfl⟩ := hcond
            have hb := Nat.le_of_ble_eq_true hb
            have hm2 : m = #[.int i x, .int j y, .map (some r)] := Array.toList_inj.1 hm
            subst hm2
            intro F n ρ w vs' K hF hr hv hK
            -- arguments
            obtain ⟨lvs⟩ := vs'
            have hv : VsRel ρ [.agg #[.int i x, .int j y, .map (some r)], fv] lvs := hv
            cases hv with
            | cons _ pl _ _ v1 v2 =>
              cases v2 with
              | cons _ f' _ _ v3 v4 =>
                cases v4
                obtain ⟨rb, ces, clk, g1, g2, g3, g4⟩ := hr.mapAt hes
                obtain ⟨⟨l, m1, m2⟩, m3, m4⟩ := g4
                obtain ⟨T, t1, t2, t3, t4, t5⟩ := tri_of m2 hus
                obtain ⟨ka1, ka2⟩ := keysApart_spec hka
                refine call_by_body hfn CC.body CC.name hF fun G hG hround => ?_
                have hmidn : h.next ≤ mid - 1 := hb
                have hmid : 1 ≤ mid := by decide
                -- the first regions
                obtain ⟨tm1, H1, e1, e2, e3, e4, e5, e6, e7, e8, e9, e10, e11⟩ := pre_facts R CC.tp i j x y r fv
                obtain ⟨p0, e12, e13⟩ := (aops_append _ _ _ _ _).1 e1
                have hr00 : Rel P ρ ⟨.nil, mid, mid⟩ w := hr.sub (fun b o e => by simp at e) (by show h.next ≤ mid; omega) (Nat.le_refl _) (Nat.le_trans hr.gfl (Nat.le_trans hr.fl (by show h.next ≤ mid; omega)))
                have hsz : (#[pl, f'] ++ Array.replicate (fn.ntmps - (#[pl, f'] : Array Value).size) undef).size = 30 := by rw [CC.ntmps]; simp
                have htm0 : TmRel ρ (argsIn [.agg #[.int i x, .int j y, .map (some r)], fv] 0 .nil) (#[pl, f'] ++ Array.replicate (fn.ntmps - (#[pl, f'] : Array Value).size) undef) := by
                  refine argsIn_ok _ [pl, f'] 0 .nil (.cons _ _ _ _ v1 (.cons _ _ _ _ v3 .nil)) (fun t v e => by rw [Tr.get_nil] at e; cases e) fun k u hu => ?_
                  rw [Nat.zero_add]
                  have hlt : k < (#[pl, f'] : Array Value).size := (List.getElem?_eq_some_iff.1 hu).1
                  rw [Array.getElem?_append_left hlt, ← Array.getElem?_toList]
                  exact hu
                have hf1 : (#[pl, f'] ++ Array.replicate (fn.ntmps - (#[pl, f'] : Array Value).size) undef).getD 1 undef = f' := by
                  rw [CC.ntmps]; simp [Array.getD_eq_getD_getElem?]
                generalize #[pl, f'] ++ Array.replicate (fn.ntmps - (#[pl, f'] : Array Value).size) undef = tmps0 at *
                have hkeep1 : ∀ (rr : Array Oper) (l : List AOper), compOps X rr = l → (∀ p ∈ l, ∀ d f, p = .set d f → d ≠ 1) → (∀ o ∈ rr.toList, o.guard = none) → ∀ o ∈ rr.toList, ∀ (a : Act) (v : Value), a.tmps.getD 1 undef = f' → (a.put o.dst v).tmps.getD 1 undef = f' := by
                  intro rr l hl hd hgu o ho a v ha
                  cases hdd : o.dst with
                  | none => exact ha
                  | some d =>
                    rw [getD_put]
                    · exact ha
                    · intro h1
                      have : compOper X rr o = .set d (opF X o) := by
                        unfold compOper
                        rw [hgu o ho, hdd]
                      exact hd _ (by rw [← hl]; exact List.mem_map.2 ⟨o, ho, rfl⟩) d _ this h1.symm
                have gu0 : ∀ o ∈ CC.r0.toList, o.guard = none := CC.g0
                have gu1 : ∀ o ∈ CC.r1.toList, o.guard = none := CC.g1
                refine wpIn_seq ?_
                refine region_okI cx rok hG (fun a => a.tmps.getD 1 undef = f') (hkeep1 _ _ CC.c0 (by intro p hp d f e; simp [cl0] at hp; rcases hp with rfl | rfl <;> cases e <;> decide) gu0) hf1 hr00 htm0 (by show ∀ o ∈ CC.r0.toList, okOper P.globals.size tmps0.size o = true; rw [hsz]; exact CC.ok0) (by rw [CC.c0]; exact e12) fun ρ1 w1 a1 k1 k2 k3 k4 k5 k6 => ?_
                have k5 : a1.tmps.size = 30 := k5.trans hsz
                show (Code.seq _ _).wpIn G (n - 1) P _ a1 w1
                refine wpIn_seq ?_
                refine region_okI cx rok hG (fun a => a.tmps.getD 1 undef = f') (hkeep1 _ _ CC.c1 (by intro p hp d f e; simp [cl1] at hp; rcases hp with rfl | rfl | rfl | rfl | rfl | rfl | rfl | rfl <;> cases e <;> decide) gu1) k6 k1 k3 (by rw [k5]; exact CC.ok1) (by rw [CC.c1]; exact e13) fun ρ2 w2 a2 q1 q2 q3 q4 q5 q6 => ?_
                have q5 : a2.tmps.size = 30 := q5.trans k5
                have q4 : a2.defers = [] := q4.trans k4
                have hx : Ext ρ ⟨.nil, mid, mid⟩ w ρ2 H1 w2 := k2.trans hr00 k1 q2
                -- what is its own
                have ho : Own P ρ w ρ2 H1 w2 := by
                  refine ⟨q1, hx.le, fun z o e => ?_, e11, hx.size, fun z hz => hx.frame z hz fun b o r e => ?_, hx.os, hx.output, hx.tape⟩
                  · rcases Nat.lt_or_ge z mid with hlt | hge
                    · obtain ⟨o', e'⟩ := hx.live z o hlt e
                      have e' : (Tr.nil : Tr AObj).get z = some o' := e'
                      simp at e'
                    · refine ⟨by omega, fun q hq => ?_⟩
                      rcases hx.new z o q hge e hq with h1 | ⟨b, ob, _, h1, _⟩
                      · exact h1
                      · have h1 : (Tr.nil : Tr AObj).get b = some ob := h1
                        simp at h1
                  · have e : (Tr.nil : Tr AObj).get b = some o := e
                    simp at e
                show (Code.seq _ _).wpIn G (n - 1) P _ a2 w2
                refine wpIn_seq ?_
                refine wpIn_seq ?_
                refine wpIn_region ?_
                rw [CC.s2]
                show wpOpsIn G (n - 1) P CC.r2 _ [0, 1, 2] a2 w2
                refine wpOpsIn_cons' ?_
                refine opSet_ok cx rok hG rfl CC.c20 CC.ok2 q1 q3 (v := .pointer (some ⟨mid, 2, none⟩)) (h' := H1) ?_ fun ρ3 w3 u3 s1 s2 s3 => ?_
                · show oFaddr tm1 H1 2 (.tmp 2) = _
                  unfold oFaddr
                  have : ev tm1 (.tmp 2) = some (.pointer (some ⟨mid, 0, none⟩)) := e3
                  rw [this]; rfl
                have ho3 := ho.step s1 s2
                have ht3 : TmRel ρ3 (tm1.set 14 (.pointer (some ⟨mid, 2, none⟩))) (a2.put (some 14) u3).tmps := (q3.mono s2.le).set (by rw [q5]; decide) s3
                refine wpOpsIn_cons' ?_
                refine opSet_ok cx rok hG rfl CC.c21 CC.ok2 ho3.rel ht3 (v := .map (some r)) (h' := H1) ?_ fun ρ4 w4 u4 x1 x2 x3 => ?_
                · show oLoad _ H1 none (.tmp 14) = _
                  unfold oLoad
                  have : ev (tm1.set 14 (.pointer (some ⟨mid, 2, none⟩))) (.tmp 14) = some (.pointer (some ⟨mid, 2, none⟩)) := tset_same
                  rw [this]
                  simp only
                  unfold H.cell plain
                  simp only [e6, if_true]
                  rfl
                have ho4 := ho3.step x1 x2
                have ht4 : TmRel ρ4 ((tm1.set 14 (.pointer (some ⟨mid, 2, none⟩))).set 15 (.map (some r))) ((a2.put (some 14) u3).put (some 15) u4).tmps := (ht3.mono x2.le).set (by rw [put_size, q5]; decide) x3
                have hu4 : u4 = .map (some rb.blk) := by
                  cases x3 with
                  | map _ r4 z =>
                    have := ho4.le _ _ g2
                    rw [this] at z; cases z; rfl
                -- the iterator
                refine wpOpsIn_cons' ?_
                have hsrc4 : w4.heap[rb.blk]? = some (.map ces clk) := by
                  rw [ho4.keep _ (Array.getElem?_eq_some_iff.1 g3).1]; exact g3
                have h15 : ((a2.put (some 14) u3).put (some 15) u4).eval (.tmp 15) = .map (some rb.blk) := by
                  show (((a2.put (some 14) u3).put (some 15) u4).tmps).getD 15 undef = _
                  rw [getD_put_same (by rw [put_size, q5]; decide), hu4]
                have hx2 : (execOp ((a2.put (some 14) u3).put (some 15) u4).eval CC.o2).run P w4 = .ok (.value (.pointer (some ⟨w4.heap.size, 0, none⟩))) (w4.alloc (.mapIter (some rb.blk) clk #[] clk)) := by
                  unfold execOp
                  rw [CC.p2]
                  simp only [h15, Instr.range, Sem.run_bind, run_underlying P w4 CC.mapTy, getObj, Sem.run, hsrc4, Result.andThen, run_newObj]
                  rfl
                refine hand_ok hG CC.a2 CC.g2 (fun cl e => by rw [CC.p2] at e; cases e) hx2 ?_
                rw [CC.d2]
                have hgn : ρ4 (mid - 1) = none := by
                  have h1 : mid - 1 < (⟨.nil, mid, mid⟩ : H).next := by show mid - 1 < mid; omega
                  have h2 : ρ4 (mid - 1) = ρ (mid - 1) := by
                    rw [x2.old _ (by rw [e10]; omega), s2.old _ (by rw [e10]; omega), hx.old _ h1]
                  rw [h2]
                  exact hr.none_next hmidn
                have hgh := ho4.rel.ghost hgn (by rw [e10]; omega) (.mapIter (some rb.blk) clk #[] clk)
                have hle5 : ρ4.le (ρ4.put (mid - 1) ⟨w4.heap.size, 0, 0, 0⟩) := Ren.le_put hgn
                have hget : ∀ z, (H1.tr.set (mid - 1) .ghost).get z = if z = mid - 1 then some .ghost else H1.tr.get z := fun z => Tr.get_set _ _ _ _
                have ho5 : Own P ρ w (ρ4.put (mid - 1) ⟨w4.heap.size, 0, 0, 0⟩) { H1 with tr := H1.tr.set (mid - 1) .ghost } (w4.alloc (.mapIter (some rb.blk) clk #[] clk)) := by
                  refine ⟨hgh, Ren.le_trans ho4.le hle5, fun z o e => ?_, e11, ?_, fun z hz => ?_, ho4.os, ho4.output, ho4.tape⟩
                  · have e : (H1.tr.set (mid - 1) .ghost).get z = some o := e
                    by_cases hz : z = mid - 1
                    · refine ⟨by omega, fun q hq => ?_⟩
                      rw [hz, Ren.put_same] at hq; cases hq
                      exact ho4.size
                    · rw [hget, if_neg hz] at e
                      obtain ⟨b1, b2⟩ := ho4.own z o e
                      exact ⟨b1, fun q hq => b2 q (by rw [Ren.put_ne hz] at hq; exact hq)⟩
                  · have := ho4.size
                    have hsa : (w4.alloc (.mapIter (some rb.blk) clk #[] clk)).heap.size = w4.heap.size + 1 := by simp
                    omega
                  · rw [heap_alloc_old w4 _ (Nat.lt_of_lt_of_le hz ho4.size)]
                    exact ho4.keep z hz
                have ht5 := ((ht4.mono hle5).set (d := 16) (v := .pointer (some ⟨mid - 1, 0, none⟩)) (v' := .pointer (some ⟨w4.heap.size, 0, none⟩)) (by rw [put_size, put_size, q5]; decide) (.ptr _ _ ⟨rfl, _, Ren.put_same _ _ _, rfl⟩))
                have li : LI P ρ w CC.tp i j x y fv f' ⟨w4.heap.size, 0, 0, 0⟩ (((a2.put (some 14) u3).put (some 15) u4).put (some 16) (.pointer (some ⟨w4.heap.size, 0, none⟩))) (w4.alloc (.mapIter (some rb.blk) clk #[] clk)) (ρ4.put (mid - 1) ⟨w4.heap.size, 0, 0, 0⟩) { H1 with tr := H1.tr.set (mid - 1) .ghost } (((tm1.set 14 (.pointer (some ⟨mid, 2, none⟩))).set 15 (.map (some r))).set 16 (.pointer (some ⟨mid - 1, 0, none⟩))) [] :=
                  { own := ho5
                    gt := by show (H1.tr.set (mid - 1) .ghost).get (mid - 1) = _; rw [hget, if_pos rfl]
                    gρ := Ren.put_same _ _ _
                    n4 := by show (H1.tr.set (mid - 1) .ghost).get (mid + 1) = _; rw [hget, if_neg (show ¬ (mid + 1 = mid - 1) by omega)]; exact e7
                    nm := by show (H1.tr.set (mid - 1) .ghost).get (mid + 2) = _; rw [hget, if_neg (show ¬ (mid + 2 = mid - 1) by omega)]; exact e8
                    n5 := by show (H1.tr.set (mid - 1) .ghost).get (mid + 3) = _; rw [hget, if_neg (show ¬ (mid + 3 = mid - 1) by omega)]; exact e9
                    nx := by show mid + 4 ≤ H1.next; rw [e10]; exact Nat.le_refl _
                    tms := ht5
                    t1 := by rw [tsetE 1 16 (by omega), tsetE 1 15 (by omega), tsetE 1 14 (by omega)]; exact e2
                    t4 := by rw [tsetE 4 16 (by omega), tsetE 4 15 (by omega), tsetE 4 14 (by omega)]; exact e4
                    t5 := by rw [tsetE 5 16 (by omega), tsetE 5 15 (by omega), tsetE 5 14 (by omega)]; exact e5
                    t16 := tset_same
                    f1 := by rw [getD_put (show (1 : Nat) ≠ 16 by decide), getD_put (show (1 : Nat) ≠ 15 by decide), getD_put (show (1 : Nat) ≠ 14 by decide)]; exact q6
                    size := by rw [put_size, put_size, put_size]; exact q5
                    defs := by rw [put_defers, put_defers, put_defers]; exact q4 }
                show (Code.block _ _).wpIn G (n - 1) P _ _ _
                refine loop_ok cx rok hG CC hr v3 rfl g3 m3 (fun e he => m4 e he) (T := T) (by rw [t2]; exact m1) (by rw [t1]; exact ka1) (fun t ht => ka2 _ (by rw [← t1]; exact List.mem_map.2 ⟨t, ht, rfl⟩)) t4 (fun t ht => allFit_mem hfit _ (by rw [← t1]; exact List.mem_map.2 ⟨t, ht, rfl⟩)) li (heap_alloc_new w4 _) fun a6 w6 ρ6 H6 tm6 acc6 l6 hp6 => ?_
                show (Code.seq _ _).wpIn G (n - 1) P _ a6 w6
                refine wpIn_seq ?_
                -- what is handed back
                have hload : oLoad tm6 H6 (some 3) (.tmp 5) = some (.agg #[.int i x, .int j y, .map (some (mid + 2))], H6) := load_agg l6.t5 (v := .agg #[.int i x, .int j y, .map (some (mid + 2))]) l6.n5 rfl
                have hstore : oStore (tm6.set 29 (.agg #[.int i x, .int j y, .map (some (mid + 2))])) H6 3 (.tmp 4) (.tmp 29) = some (undef, H6.put (mid + 1) (.cells [.int i x, .int j y, .map (some (mid + 2))] CC.tp 0 true 0)) :=
                  store_agg (v := .agg #[.int i x, .int j y, .map (some (mid + 2))]) (by rw [tsetE 4 29 (by omega)]; exact l6.t4) tset_same l6.n4 rfl (by rw [l6.own.floor]; omega) rfl
                refine region_ok cx rok hG l6.own.rel l6.tms (by rw [l6.size]; exact CC.ok6) (tm' := tm6.set 29 (.agg #[.int i x, .int j y, .map (some (mid + 2))])) (h' := H6.put (mid + 1) (.cells [.int i x, .int j y, .map (some (mid + 2))] CC.tp 0 true 0)) (by
                  rw [CC.c6]
                  exact (aops_cons _ _ _ _ _ _).2 ⟨_, _, aoper_set hload, (aops_cons _ _ _ _ _ _).2 ⟨_, _, aoper_eff hstore, rfl⟩⟩) fun ρ7 w7 a7 y1 y2 y3 y4 y5 => ?_
                have ho7 := l6.own.step y1 y2
                refine wpIn_ret ?_
                show LeavesInM G (n - 1) P fn a7.tmps _ a7.defers .returning w7
                rw [y4, l6.defs]
                have hget7 : ∀ z, (H6.put (mid + 1) (.cells [.int i x, .int j y, .map (some (mid + 2))] CC.tp 0 true 0)).tr.get z = if z = mid + 1 then some (.cells [.int i x, .int j y, .map (some (mid + 2))] CC.tp 0 true 0) else H6.tr.get z := fun z => Tr.get_set H6.tr (mid + 1) z (AObj.cells [.int i x, .int j y, .map (some (mid + 2))] CC.tp 0 true 0)
                obtain ⟨v', z1, z2⟩ := results_run cx y1 y3 fn (vs := [.agg #[.int i x, .int j y, .map (some (mid + 2))]]) (by
                  rw [CC.res]
                  refine (results_cons _ _ _ _ _ _).2 ⟨_, [], ?_, rfl, rfl⟩
                  unfold resAt
                  have h4 : (tm6.set 29 (.agg #[.int i x, .int j y, .map (some (mid + 2))])).get 4 = some (.pointer (some ⟨mid + 1, 0, none⟩)) := by rw [tsetE 4 29 (by omega)]; exact l6.t4
                  simp only [CC.rty, h4, CC.ragg]
                  unfold H.cellsAt plain
                  simp only [hget7, if_true]
                  rfl)
                refine ⟨v', z1, v', rfl, ?_⟩
                obtain ⟨ρ8, r1, r2, r3⟩ := final_ok hr ho7 (acc := acc6) (by show (H6.put _ _).tr.get _ = _; rw [hget7, if_neg (by omega)]; exact l6.nm) (us := us) (hp6.trans (by
                  rw [← t3, List.map_map]
                  have : T.map (fun t => (t.1.key, t.2.2.val)) = T.map ((fun m : ME => (m.key, m.val)) ∘ fun t => t.2.2) := List.map_congr_left fun t ht => by
                    show (t.1.key, t.2.2.val) = (t.2.2.key, t.2.2.val)
                    rw [(t4 t ht).2.2.2.2.1]
                  rw [this])) (fun k u hu => by
                    have hmem : u ∈ T.map (·.2.2) := by rw [t3]; exact List.mem_of_getElem? hu
                    obtain ⟨t, ht, hte⟩ := List.mem_map.1 hmem
                    obtain ⟨_, b2, _, b4, b5, _⟩ := t4 t ht
                    exact ⟨t5 k u hu, by rw [← hte, b5]; exact b2, by rw [← hte]; exact b4⟩) z2
                have hlen : us.length = es.length := by
                  rw [← t3, List.length_map, ← t1, List.length_map]
                rw [hlen] at r1 r2
                exact hK ρ8 w7 v' r1 r2 r3
          · cases hs
        · cases hs
      · cases hs
    · cases hs
  · cases hs
end
end Go.Ae
end

section
/-
  AE: what a function makes anew; a call over a part of the heap.
-/
namespace Go.Ae
section
variable {P : Program}

/-- the start of an evaluation that knows nothing of the heap -/
noncomputable def bareAt (m : Nat) : H := ⟨.nil, m, m⟩
noncomputable def bareM : H := bareAt mid

theorem bareAt_rel {m : Nat} {ρ : Ren} {h : H} {w : World} (hr : Rel P ρ h w) (hb : h.next ≤ m) : Rel P ρ (bareAt m) w :=
  hr.sub (fun b o e => by
    have e : (Tr.nil : Tr AObj).get b = some o := e
    simp at e) hb (Nat.le_refl _) (Nat.le_trans hr.gfl (Nat.le_trans hr.fl hb))

theorem ext_up {ρ : Ren} {h : H} {w : World} (hr : Rel P ρ h w) (k : Nat) : Rel P ρ { h with next := h.next + k } w ∧ Ext ρ h w ρ { h with next := h.next + k } w := by
  refine ⟨hr.sub (fun b o e => e) (Nat.le_add_right _ _) (by have := hr.fl; show h.floor ≤ h.next + k; omega) hr.gfl, ?_⟩
  exact ⟨Ren.le_refl ρ, fun _ _ => rfl, Nat.le_add_right _ _, rfl, fun _ _ => rfl, fun b o _ e => ⟨o, e⟩, fun b o _ hb e _ => by
    have := hr.dead b o e
    omega, Nat.le_refl _, fun _ _ _ => rfl, rfl, rfl, rfl⟩

/-- a function that makes one new row of plain values -/
theorem summ_row {R : Rec} (rok : RecOk P R) {f : FuncId} {vs : List Value} {n c b : Nat} {h1 : H} {cs : List Value} {e fz es : Nat} {ex : Bool} (hc : R.call f vs bareM = some (.slice (some ⟨b, 0, none⟩) n c, h1)) (hb : mid ≤ b) (ho : h1.tr.get b = some (.cells cs e fz ex es)) (hf : List.all cs flatV = true)
    {h : H} (hm : h.next ≤ mid) : CallOk P f vs h (.slice (some ⟨h.next, 0, none⟩) n c) (h.new (.cells cs e fz ex es)).2 := by
  intro F k ρ w vs' K hF hr hv hK
  have hr0 : Rel P ρ bareM w := bareAt_rel hr hm
  refine rok.call _ _ _ _ _ hc F k ρ w vs' K hF hr0 hv fun ρ1 w1 v1 k1 k2 k3 => ?_
  obtain ⟨r, q1, obj, q2, q3⟩ := k1.dom b _ ho
  have hblk : w.heap.size ≤ r.blk := by
    rcases k2.new b _ r hb ho q1 with h2 | ⟨b0, o0, _, h2, _⟩
    · exact h2
    · have h2 : (Tr.nil : Tr AObj).get b0 = some o0 := h2
      simp at h2
  have hkeep : ∀ z, z < w.heap.size → w1.heap[z]? = w.heap[z]? := fun z hz => k2.frame z hz fun b0 o0 _ h2 => by
    have h2 : (Tr.nil : Tr AObj).get b0 = some o0 := h2
    simp at h2
  obtain ⟨u1, u2⟩ := ext_up hr 1
  have hρn : ρ h.next = none := hr.none_next (Nat.le_refl _)
  have hO : ORel P.globals.size (ρ.put h.next r) r (.cells cs e fz ex es) obj := by
    cases q3 with
    | cells y =>
      refine .cells ⟨fun i v hi => ?_, y.size, y.ex, y.en, y.es, y.fz⟩
      obtain ⟨v', a1, a2⟩ := y.at_ i v hi
      have hfl := List.all_eq_true.1 hf v (List.mem_of_getElem? hi)
      exact ⟨v', a1, by rw [flatV_eq hfl a2]; exact flatV_refl hfl _⟩
  obtain ⟨g1, g2⟩ := u1.newAt u2 (b := h.next) hρn (Nat.lt_succ_self _) (Nat.le_refl _) hr.fl (o := .cells cs e fz ex es) (r := r) k2.size hkeep hblk q2 hO k2.os k2.output k2.tape
  refine hK _ w1 v1 g1 g2 ?_
  have hnm : ρ.put h.next r h.next = some r := Ren.put_same _ _ _
  cases k3 with
  | slice _ a' _ _ har hcx =>
    have := har.out (r := r) q1
    rw [this]
    exact .slice _ _ _ _ ⟨rfl, r, hnm, rfl⟩ hcx
  | sliceX _ a' _ c' rr p1 p2 p3 p4 p5 p6 =>
    rw [q1] at p1; cases p1
    have := p2.out (r := r) q1
    rw [this]
    exact .sliceX _ _ _ c' r hnm ⟨rfl, r, hnm, rfl⟩ p3 p4 p5 p6
  | sliceE _ a' _ p => exact .sliceE _ _ _ p

/-! ### a call over a part of the heap -/
/-- a heap out of a list -/
noncomputable def trOf (l : List (Nat × AObj)) : Tr AObj := List.rec (motive := fun _ => Tr AObj) .nil (fun p _ ih => ih.set p.1 p.2) l

theorem trOf_get (l : List (Nat × AObj)) (b : Nat) : (trOf l).get b = (l.find? fun p => p.1 == b).map (·.2) := by
  induction l with
  | nil => simp [trOf]
  | cons p l ih =>
    show (Tr.set (trOf l) p.1 p.2).get b = _
    rw [Tr.get_set]
    by_cases h : b = p.1
    · subst h; simp
    · rw [if_neg h, ih, List.find?_cons_of_neg (by simp; exact fun e => h e.symm)]

/-- the keys go, and others come -/
noncomputable def trLay (t : Tr AObj) (out : List Nat) (inn : List (Nat × AObj)) : Tr AObj :=
  List.rec (motive := fun _ => Tr AObj) (List.rec (motive := fun _ => Tr AObj) t (fun k _ ih => ih.del k) out) (fun p _ ih => ih.set p.1 p.2) inn

theorem trLay_get (t : Tr AObj) (out : List Nat) (inn : List (Nat × AObj)) (b : Nat) : (trLay t out inn).get b = match inn.find? fun p => p.1 == b with | some p => some p.2 | none => if out.contains b then none else t.get b := by
  induction inn with
  | nil =>
    simp only [List.find?_nil]
    induction out with
    | nil => simp [trLay]
    | cons k out ih =>
      show (Tr.del (trLay t out []) k).get b = _
      rw [Tr.get_del, ih]
      by_cases h : b = k
      · subst h; simp
      · simp [h]
  | cons p inn ih =>
    show (Tr.set (trLay t out inn) p.1 p.2).get b = _
    rw [Tr.get_set, ih]
    by_cases h : b = p.1
    · subst h; simp
    · rw [if_neg h, List.find?_cons_of_neg (by simp; exact fun e => h e.symm)]

/-- a call that is known over a part of the heap, seen from the whole: l1: what is there ahead, l2: what of it, and of what is new, is there behind -/
theorem call_part {f : FuncId} {vs : List Value} {l1 l2 : List (Nat × AObj)} {n1 n2 fl : Nat} {v : Value} {hx : H} (hc : CallOk P f vs ⟨trOf l1, n1, fl⟩ v hx) (hx2 : ∀ p ∈ l2, hx.tr.get p.1 = some p.2) (hxn : hx.next = n2)
    {h : H} (hn : h.next = n1) (hf : h.floor = fl) (h1 : ∀ p ∈ l1, h.tr.get p.1 = some p.2) (hfl : ∀ p ∈ l1, fl ≤ p.1) (hfl2 : ∀ p ∈ l2, fl ≤ p.1) (hlo : ∀ b, b < fl → h.tr.get b = none) : CallOk P f vs h v ⟨trLay h.tr (l1.map (·.1)) l2, n2, fl⟩ := by
  intro F k ρ w vs' K hF hr hv hK
  have sub1 : ∀ b o, (trOf l1).get b = some o → h.tr.get b = some o ∧ ∃ p ∈ l1, p.1 = b := fun b o e => by
    rw [trOf_get] at e
    cases hfd : l1.find? (fun p => p.1 == b) with
    | none => rw [hfd] at e; cases e
    | some p =>
      rw [hfd] at e; cases e
      have hm := List.mem_of_find?_eq_some hfd
      have hb : p.1 = b := by have := List.find?_some hfd; simpa using this
      exact ⟨by rw [← hb]; exact h1 p hm, p, hm, hb⟩
  have hr1 : Rel P ρ ⟨trOf l1, n1, fl⟩ w := hr.sub (fun b o e => (sub1 b o e).1) (by rw [hn]; exact Nat.le_refl _) (by have := hr.fl; show fl ≤ n1; omega) (by have := hr.gfl; rw [hf] at this; exact this)
  refine hc F k ρ w vs' K hF hr1 hv fun ρ2 w2 v2 k1 k2 k3 => ?_
  -- of what is there behind, what is asked
  have sub2 : ∀ b o, (trOf l2).get b = some o → hx.tr.get b = some o := fun b o e => by
    rw [trOf_get] at e
    cases hfd : l2.find? (fun p => p.1 == b) with
    | none => rw [hfd] at e; cases e
    | some p =>
      rw [hfd] at e; cases e
      have hm := List.mem_of_find?_eq_some hfd
      have hb : p.1 = b := by have := List.find?_some hfd; simpa using this
      rw [← hb]; exact hx2 p hm
  have hflx : hx.floor = fl := k2.floor
  have g1 : Rel P ρ2 ⟨trOf l2, n2, fl⟩ w2 := k1.sub sub2 (by rw [hxn]; exact Nat.le_refl _) (by have := k1.fl; rw [hflx, hxn] at this; exact this) (by have := k1.gfl; rw [hflx] at this; exact this)
  have low1 : ∀ b, b < fl → (trOf l1).get b = none := fun b hb => by
    cases e : (trOf l1).get b with
    | none => rfl
    | some o =>
      obtain ⟨_, p, hp, hpb⟩ := sub1 b o e
      have := hfl p hp
      omega
  have low2 : ∀ b, b < fl → (trOf l2).get b = none := fun b hb => by
    cases e : (trOf l2).get b with
    | none => rfl
    | some o =>
      rw [trOf_get] at e
      cases hfd : l2.find? (fun p => p.1 == b) with
      | none => rw [hfd] at e; cases e
      | some p =>
        have hm := List.mem_of_find?_eq_some hfd
        have hpb : p.1 = b := by have := List.find?_some hfd; simpa using this
        have := hfl2 p hm
        omega
  have g2 : Ext ρ ⟨trOf l1, n1, fl⟩ w ρ2 ⟨trOf l2, n2, fl⟩ w2 := by
    refine ⟨k2.le, k2.old, by rw [← hxn]; exact k2.next, rfl, fun b hb => ?_, fun b o hb e => k2.live b o hb (sub2 b o e), fun b o r hb e q => k2.new b o r hb (sub2 b o e) q, k2.size, k2.frame, k2.os, k2.output, k2.tape⟩
    show (trOf l2).get b = (trOf l1).get b
    rw [low1 b hb, low2 b hb]
  -- seen from the whole
  let Z : Nat → Prop := fun b => (trOf l1).get b = none ∧ (l1.map (·.1)).contains b = false ∧ (trOf l2).get b = none ∧ ∃ o, h.tr.get b = some o
  have hkeys : ∀ b, (l1.map (·.1)).contains b = true ↔ ∃ o, (trOf l1).get b = some o := fun b => by
    constructor
    · intro hb
      have hb : b ∈ l1.map (·.1) := by simpa using hb
      obtain ⟨p, hp, hpb⟩ := List.mem_map.1 hb
      rw [trOf_get]
      cases hfd : l1.find? (fun p => p.1 == b) with
      | none => have := List.find?_eq_none.1 hfd p hp; simp [hpb] at this
      | some q => exact ⟨_, rfl⟩
    · rintro ⟨o, e⟩
      obtain ⟨_, p, hp, hpb⟩ := sub1 b o e
      have : b ∈ l1.map (·.1) := List.mem_map.2 ⟨p, hp, hpb⟩
      simpa using this
  have hlay : ∀ b, (trLay h.tr (l1.map (·.1)) l2).get b = match (trOf l2).get b with | some o => some o | none => if (l1.map (·.1)).contains b then none else h.tr.get b := fun b => by
    rw [trLay_get, trOf_get]
    cases l2.find? (fun p => p.1 == b) <;> rfl
  have t1 : ∀ b, b < fl → (trOf l1).get b = h.tr.get b := fun b hb => by rw [low1 b hb, hlo b hb]
  have t2 : ∀ b, (fl ≤ b ∧ Z b) → (trOf l1).get b = none ∧ b < n1 ∧ fl ≤ b := fun b hz => ⟨hz.2.1, by
    obtain ⟨o, e⟩ := hz.2.2.2.2
    have := hr.dead b o e
    omega, hz.1⟩
  have t3 : ∀ b, (fl ≤ b ∧ Z b) → (trLay h.tr (l1.map (·.1)) l2).get b = h.tr.get b := fun b hz => by
    obtain ⟨_, z1, z2, z3, z4⟩ := hz
    rw [hlay, z3, z2]; rfl
  have t4 : ∀ b, ¬ (fl ≤ b ∧ Z b) → (trLay h.tr (l1.map (·.1)) l2).get b = (trOf l2).get b := fun b hz => by
    rw [hlay]
    cases e2 : (trOf l2).get b with
    | some o => rfl
    | none =>
      simp only
      cases hcn : (l1.map (·.1)).contains b with
      | true => rfl
      | false =>
        simp only [Bool.false_eq_true, if_false]
        cases e3 : h.tr.get b with
        | none => rfl
        | some o =>
          exfalso
          have h1n : (trOf l1).get b = none := by
            cases e4 : (trOf l1).get b with
            | none => rfl
            | some o' => have := (hkeys b).2 ⟨o', e4⟩; rw [hcn] at this; cases this
          have hge : fl ≤ b := by
            rcases Nat.lt_or_ge b fl with hlt | hge
            · rw [hlo b hlt] at e3; cases e3
            · exact hge
          exact hz ⟨hge, h1n, hcn, e2, o, e3⟩
  obtain ⟨f1, f2⟩ := hr.frameE (h := ⟨trOf l1, n1, fl⟩) (h' := ⟨trOf l2, n2, fl⟩) (hC' := ⟨trLay h.tr (l1.map (·.1)) l2, n2, fl⟩) (fun b o e => (sub1 b o e).1) hn.symm hf.symm t1 g1 g2 (fun b => fl ≤ b ∧ Z b) t2 t3 t4 rfl rfl
  exact hK ρ2 w2 v2 f1 f2 k3
end
end Go.Ae
end

section
/-
  AE: tables of calls.
-/
namespace Go.Ae

/-- a call over a part of the heap: arguments; names ahead; objects ahead; result; names behind; objects behind -/
structure Entry where
  vs : List Value
  n1 : Nat
  l1 : List (Nat × AObj)
  v : Value
  n2 : Nat
  l2 : List (Nat × AObj)

noncomputable def veq (x y : Value) : Bool := veqF 12 x y
noncomputable def veqs (xs ys : List Value) : Bool := veqF.veqL veq xs ys

noncomputable def mesEq (a b : List ME) : Bool :=
  List.rec (motive := fun _ => List ME → Bool) (fun b => match b with | [] => true | _ :: _ => false)
    (fun x _ ih b => match b with | [] => false | y :: ys => veq x.key y.key && veq x.val y.val && Nat.beq x.sid y.sid && ih ys) a b

noncomputable def objEq (a b : AObj) : Bool :=
  match a, b with
  | .cells cs e fz x g, .cells cs' e' fz' x' g' => veqs cs cs' && Nat.beq e e' && Nat.beq fz fz' && (match x, x' with | true, true => true | false, false => true | _, _ => false) && Nat.beq g g'
  | .map es, .map es' => mesEq es es'
  | _, _ => false

noncomputable def allAt (t : Tr AObj) (l : List (Nat × AObj)) : Bool :=
  List.rec (motive := fun _ => Bool) true (fun p _ ih => match t.get p.1 with | some o => objEq o p.2 && ih | none => false) l

noncomputable def aboveL (fl : Nat) (l : List (Nat × AObj)) : Bool := List.rec (motive := fun _ => Bool) true (fun p _ ih => Nat.ble fl p.1 && ih) l
noncomputable def lowNone (t : Tr AObj) (n : Nat) : Bool := Nat.rec (motive := fun _ => Bool) true (fun k ih => match t.get k with | none => ih | some _ => false) n

/-- does an entry tell what the evaluator comes to? -/
noncomputable def chkEntry (R : Rec) (f : FuncId) (fl : Nat) (e : Entry) : Bool :=
  match R.call f e.vs ⟨trOf e.l1, e.n1, fl⟩ with
  | some (v, h) => veq v e.v && allAt h.tr e.l2 && Nat.beq h.next e.n2 && aboveL fl e.l1 && aboveL fl e.l2
  | none => false

noncomputable def findE (n : Nat) (l : List Entry) : Option Entry := List.rec (motive := fun _ => Option Entry) none (fun e _ ih => match Nat.beq e.n1 n with | true => some e | false => ih) l

/-- the summary by a table -/
noncomputable def sTab (tab : List Entry) (fl : Nat) (_ : Rec) (vs : List Value) (h : H) : Option (Value × H) :=
  match findE h.next tab with
  | some e =>
    (match veqs vs e.vs && Nat.beq h.floor fl && allAt h.tr e.l1 && lowNone h.tr fl with
     | true => some (e.v, ⟨trLay h.tr (e.l1.map (·.1)) e.l2, e.n2, fl⟩)
     | false => none)
  | none => none

theorem veq_eq {x y : Value} (h : veq x y = true) : x = y := veqF_eq 12 x y h
theorem veqs_eq {x y : List Value} (h : veqs x y = true) : x = y := veqL_eq (fun _ _ h => veq_eq h) x y h

theorem mesEq_eq : ∀ {a b : List ME}, mesEq a b = true → a = b
  | [], [], _ => rfl
  | [], _ :: _, h => by cases h
  | _ :: _, [], h => by cases h
  | x :: a, y :: b, h => by
    have h : (veq x.key y.key && veq x.val y.val && Nat.beq x.sid y.sid && mesEq a b) = true := h
    simp only [Bool.and_eq_true] at h
    have h1 := veq_eq h.1.1.1
    have h2 := veq_eq h.1.1.2
    have h3 := Nat.eq_of_beq_eq_true h.1.2
    have h4 := mesEq_eq h.2
    obtain ⟨k, v, s⟩ := x
    obtain ⟨k', v', s'⟩ := y
    simp only at h1 h2 h3
    rw [h1, h2, h3, h4]

theorem objEq_eq {a b : AObj} (h : objEq a b = true) : a = b := by
  unfold objEq at h
  split at h
  · simp only [Bool.and_eq_true] at h
    obtain ⟨⟨⟨⟨h1, h2⟩, h3⟩, h4⟩, h5⟩ := h
    rw [veqs_eq h1, Nat.eq_of_beq_eq_true h2, Nat.eq_of_beq_eq_true h3, Nat.eq_of_beq_eq_true h5]
    split at h4
    · rfl
    · rfl
    · cases h4
  · rw [mesEq_eq h]
  · cases h

theorem allAt_spec {t : Tr AObj} : ∀ {l : List (Nat × AObj)}, allAt t l = true → ∀ p ∈ l, t.get p.1 = some p.2
  | [], _, p, h => by cases h
  | q :: l, h, p, hp => by
    have h : (match t.get q.1 with | some o => objEq o q.2 && allAt t l | none => false) = true := h
    split at h
    · rename_i o ho
      rw [Bool.and_eq_true] at h
      rcases List.mem_cons.1 hp with rfl | hp
      · rw [ho, objEq_eq h.1]
      · exact allAt_spec h.2 p hp
    · cases h

theorem aboveL_spec {fl : Nat} : ∀ {l : List (Nat × AObj)}, aboveL fl l = true → ∀ p ∈ l, fl ≤ p.1
  | [], _, p, h => by cases h
  | q :: l, h, p, hp => by
    have h : (Nat.ble fl q.1 && aboveL fl l) = true := h
    rw [Bool.and_eq_true] at h
    rcases List.mem_cons.1 hp with rfl | hp
    · exact Nat.le_of_ble_eq_true h.1
    · exact aboveL_spec h.2 p hp

theorem lowNone_spec {t : Tr AObj} : ∀ {n : Nat}, lowNone t n = true → ∀ b, b < n → t.get b = none
  | 0, _, b, h => by omega
  | n + 1, h, b, hb => by
    have h : (match t.get n with | none => lowNone t n | some _ => false) = true := h
    split at h
    · rename_i hn
      by_cases e : b = n
      · subst e; exact hn
      · exact lowNone_spec h b (by omega)
    · cases h

theorem findE_mem : ∀ {l : List Entry} {n : Nat} {e : Entry}, findE n l = some e → e ∈ l ∧ e.n1 = n
  | [], n, e, h => by cases h
  | x :: l, n, e, h => by
    have h : (match Nat.beq x.n1 n with | true => some x | false => findE n l) = some e := h
    split at h
    · rename_i hb
      cases h
      exact ⟨by simp, Nat.eq_of_beq_eq_true hb⟩
    · obtain ⟨h1, h2⟩ := findE_mem h
      exact ⟨by simp [h1], h2⟩

section
variable {P : Program}

theorem sTab_ok {R0 : Rec} (rok : RecOk P R0) {f : FuncId} {fl : Nat} {tab : List Entry} (hall : ∀ e ∈ tab, chkEntry R0 f fl e = true) {R : Rec} {vs : List Value} {h : H} {v : Value} {h' : H} (hs : sTab tab fl R vs h = some (v, h')) : CallOk P f vs h v h' := by
  unfold sTab at hs
  split at hs
  · rename_i e he
    obtain ⟨hm, hn⟩ := findE_mem he
    split at hs
    · rename_i hc
      cases hs
      simp only [Bool.and_eq_true] at hc
      obtain ⟨⟨⟨h1, h2⟩, h3⟩, h4⟩ := hc
      have hk := hall e hm
      unfold chkEntry at hk
      split at hk
      · rename_i v' hx hcall
        simp only [Bool.and_eq_true] at hk
        obtain ⟨⟨⟨⟨k1, k2⟩, k3⟩, k4⟩, k5⟩ := hk
        have e1 := veqs_eq h1
        subst e1
        have e2 := veq_eq k1
        subst e2
        exact call_part (rok.call _ _ _ _ _ hcall) (allAt_spec k2) (Nat.eq_of_beq_eq_true k3) hn.symm (Nat.eq_of_beq_eq_true h2) (allAt_spec h3) (aboveL_spec k4) (aboveL_spec k5) (lowNone_spec h4)
      · cases hk
    · cases hs
  · cases hs
end
end Go.Ae

namespace Go.Ae
section
variable {P : Program}

/-- a function that hands back a plain value, and writes nothing that was there -/
theorem summ_flat {R : Rec} (rok : RecOk P R) {f : FuncId} {vs : List Value} {v : Value} {h1 : H} {m : Nat} (hc : R.call f vs (bareAt m) = some (v, h1)) (hf : flatV v = true) {h : H} (hm : h.next ≤ m) : CallOk P f vs h v h := by
  intro F k ρ w vs' K hF hr hv hK
  refine rok.call _ _ _ _ _ hc F k ρ w vs' K hF (bareAt_rel hr hm) hv fun ρ1 w1 v1 k1 k2 k3 => ?_
  have hkeep : ∀ z, z < w.heap.size → w1.heap[z]? = w.heap[z]? := fun z hz => k2.frame z hz fun b0 o0 _ h2 => by
    have h2 : (Tr.nil : Tr AObj).get b0 = some o0 := h2
    simp at h2
  refine hK ρ w1 v1 (hr.keep hkeep) ((Ext.refl hr).keep k2.size hkeep k2.os k2.output k2.tape) ?_
  rw [flatV_eq hf k3]; exact flatV_refl hf _

noncomputable def mid2 : Nat := 9223372036854775808

/-- a table of such calls, by a number -/
noncomputable def sNums (val : Nat → Value) (n : Nat) (_ : Rec) (vs : List Value) (h : H) : Option (Value × H) :=
  match vs with
  | [.int .i64 (.ofNat k)] => (match Nat.blt k n && Nat.ble h.next mid2 with | true => some (val k, h) | false => none)
  | _ => none

noncomputable def numB (R : Rec) (f : FuncId) (val : Nat → Value) (k : Nat) : Bool :=
  match R.call f [.int .i64 (.ofNat k)] (bareAt mid2) with
  | some (v, _) => veq v (val k) && flatV v
  | none => false

noncomputable def numsB (R : Rec) (f : FuncId) (val : Nat → Value) (lo : Nat) (cnt : Nat) : Bool :=
  Nat.rec (motive := fun _ => Bool) true (fun k ih => numB R f val (Nat.add lo k) && ih) cnt

theorem numsB_spec {R : Rec} {f : FuncId} {val : Nat → Value} {lo : Nat} : ∀ {cnt : Nat}, numsB R f val lo cnt = true → ∀ k, lo ≤ k → k < lo + cnt → numB R f val k = true
  | 0, _, k, h1, h2 => by omega
  | cnt + 1, h, k, h1, h2 => by
    have h : (numB R f val (lo + cnt) && numsB R f val lo cnt) = true := h
    rw [Bool.and_eq_true] at h
    by_cases e : k = lo + cnt
    · rw [e]; exact h.1
    · exact numsB_spec h.2 k h1 (by omega)

theorem sNums_ok {R0 : Rec} (rok : RecOk P R0) {f : FuncId} {val : Nat → Value} {n : Nat} (hall : ∀ k, k < n → numB R0 f val k = true) {R : Rec} {vs : List Value} {h : H} {v : Value} {h' : H} (hs : sNums val n R vs h = some (v, h')) : CallOk P f vs h v h' := by
  unfold sNums at hs
  split at hs
  · rename_i k
    split at hs
    · rename_i hc
      cases hs
      rw [Bool.and_eq_true] at hc
      have hk := hall k (blt_lt hc.1)
      unfold numB at hk
      split at hk
      · rename_i v' h1 hcall
        rw [Bool.and_eq_true] at hk
        have := veq_eq hk.1
        subst this
        exact summ_flat rok hcall hk.2 (Nat.le_of_ble_eq_true hc.2)
      · cases hk
    · cases hs
  · cases hs

/-- the summary of a function that makes one row -/
noncomputable def sRow (n c : Nat) (cs : List Value) (e fz es : Nat) (_ : Rec) (vs : List Value) (h : H) : Option (Value × H) :=
  match vs with
  | [] => (match Nat.ble h.next mid with | true => some (.slice (some ⟨h.next, 0, none⟩) n c, (h.new (.cells cs e fz false es)).2) | false => none)
  | _ :: _ => none

noncomputable def rowB (R : Rec) (f : FuncId) (n c : Nat) (cs : List Value) (e fz es : Nat) : Bool :=
  match R.call f [] bareM with
  | some (.slice (some a) n' c', h1) => addrEq a ⟨a.block, 0, none⟩ && Nat.beq n' n && Nat.beq c' c && Nat.ble mid a.block && List.all cs flatV && (match h1.tr.get a.block with | some o => objEq o (.cells cs e fz false es) | none => false)
  | _ => false

theorem sRow_ok {R0 : Rec} (rok : RecOk P R0) {f : FuncId} {n c : Nat} {cs : List Value} {e fz es : Nat} (hb : rowB R0 f n c cs e fz es = true) {R : Rec} {vs : List Value} {h : H} {v : Value} {h' : H} (hs : sRow n c cs e fz es R vs h = some (v, h')) : CallOk P f vs h v h' := by
  unfold sRow at hs
  split at hs
  · split at hs
    · rename_i hm
      cases hs
      unfold rowB at hb
      split at hb
      · rename_i a n' c' h1 hcall
        simp only [Bool.and_eq_true] at hb
        obtain ⟨⟨⟨⟨⟨b1, b2⟩, b3⟩, b4⟩, b5⟩, b6⟩ := hb
        have e1 := (addrEq_eq b1).1
        have e2 := Nat.eq_of_beq_eq_true b2
        have e3 := Nat.eq_of_beq_eq_true b3
        subst e2 e3
        rw [e1] at hcall
        split at b6
        · rename_i o ho
          have := objEq_eq b6
          subst this
          exact summ_row rok hcall (Nat.le_of_ble_eq_true b4) ho b5 (Nat.le_of_ble_eq_true hm)
        · cases b6
      · cases hb
    · cases hs
  · cases hs
end
end Go.Ae
end
