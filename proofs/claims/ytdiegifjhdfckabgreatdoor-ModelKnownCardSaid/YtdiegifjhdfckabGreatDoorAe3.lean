/-
  PROVED: 'Rows.ModelKnownCardSaid': marqueelaw32.ModelKnown returns true from every world in which the listed library variables hold what the program's text lays into them (the row's condition 'laid'), and leaves memory as it was; by a verified evaluator of the calculus (Go.Ae), run by the kernel. The card ties the pruned copy of the repository only.
  This text: the evaluator and its soundness, part 3 of 6.
-/
import Derived.Test.YtdiegifjhdfckabGreatDoorAe2
import Derived.Lib.Builder
import Derived.Lib.UnsafeStr
import Derived.RangeFuncLeaves
import Derived.RangeFuncCalls

section
/-
  AE: operations, part 9: maps, the operations.
-/
namespace Go.Ae
section
variable {P : Program} {ρ : Ren} {h : H} {w : World}

theorem Rel.name (hr : Rel P ρ h w) (r : RB) : Rel P (ρ.put h.next r) { h with next := Nat.succ h.next } w ∧ Ext ρ h w (ρ.put h.next r) { h with next := Nat.succ h.next } w := by
  have hle : ρ.le (ρ.put h.next r) := Ren.le_put (hr.none_next (Nat.le_refl _))
  constructor
  · constructor
    · intro b o e
      obtain ⟨r1, h1, obj, h2, h3⟩ := hr.dom b o e
      exact ⟨r1, hle _ _ h1, obj, h2, h3.mono hle⟩
    · intro b b' o o' r1 r2 e e' q q' hb
      have hbn := hr.dead b o e
      have hbn' := hr.dead b' o' e'
      rw [Ren.put_ne (by omega)] at q q'
      exact hr.inj b b' o o' r1 r2 e e' q q' hb
    · intro b r1 e
      show b < Nat.succ h.next
      by_cases hb : b = h.next
      · omega
      · rw [Ren.put_ne hb] at e
        have := hr.fresh b r1 e; omega
    · intro b o e
      show b < Nat.succ h.next
      have := hr.dead b o e; omega
    · intro g hg; exact hle _ _ (hr.glob g hg)
    · show h.floor ≤ Nat.succ h.next
      have := hr.fl; omega
    · exact hr.gfl
  · exact ⟨hle, fun b hb => Ren.put_ne (by omega), Nat.le_succ _, rfl, fun _ _ => rfl, fun b o _ e => ⟨o, e⟩, fun b o r1 hb e _ => absurd (hr.dead b o e) (by omega), Nat.le_refl _, fun _ _ _ => rfl, rfl, rfl, rfl⟩

theorem Rel.mapAt (hr : Rel P ρ h w) {r : Nat} {es : List ME} (hm : mapOf h r = some es) : ∃ rb ces clock, h.tr.get r = some (.map es) ∧ ρ r = some rb ∧ w.heap[rb.blk]? = some (.map ces clock) ∧ MapRel ρ es ces clock := by
  unfold mapOf at hm
  split at hm
  · rename_i es' hb
    cases hm
    obtain ⟨rb, h1, obj, h2, h3⟩ := hr.dom r _ hb
    cases h3 with
    | map y => exact ⟨rb, _, _, hb, h1, h2, y⟩
  · cases hm

theorem born_place {ces : Array MapEntry} {A B A' B' : List MapEntry} {e f : MapEntry} (hn : (ces.toList.map (·.born)).Nodup) (h1 : ces.toList = A ++ e :: B) (h2 : ces.toList = A' ++ f :: B') (hb : f.born = e.born) : A'.length = A.length ∧ f = e := by
  have e1 : (ces.toList.map (·.born))[A.length]? = some e.born := by rw [h1]; simp
  have e2 : (ces.toList.map (·.born))[A'.length]? = some e.born := by rw [h2, ← hb]; simp
  have hlt : A'.length < (ces.toList.map (·.born)).length := by rw [h2]; simp
  have := (List.getElem?_inj hlt hn).1 (e2.trans e1.symm)
  refine ⟨this, ?_⟩
  have f1 := at_place h1
  have f2 := at_place h2
  rw [this, f1] at f2
  cases f2; rfl

theorem putSid_spec {sid : Nat} {v : Value} : ∀ {es es' : List ME}, putSid sid v es = some es' → ∃ l1 e l2, es = l1 ++ e :: l2 ∧ e.sid = sid ∧ es' = l1 ++ { e with val := v } :: l2
  | [], _, h => by cases h
  | e :: es, es', h => by
    unfold putSid at h
    split at h
    · rename_i hs
      cases h
      exact ⟨[], e, es, rfl, Nat.eq_of_beq_eq_true hs, rfl⟩
    · split at h
      · rename_i r hr
        cases h
        obtain ⟨l1, f, l2, rfl, q, rfl⟩ := putSid_spec hr
        exact ⟨e :: l1, f, l2, rfl, q, rfl⟩
      · cases h

theorem MapRel.push {ρ ρ' : Ren} {es : List ME} {ces : Array MapEntry} {clock : Nat} (m : MapRel ρ es ces clock) (hle : ρ.le ρ') {e : ME} {e' : MapEntry} (he : ERel ρ' e e') (hb : e'.born = clock) : MapRel ρ' (e :: es) (ces.push e') (clock + 1) := by
  obtain ⟨l, hp, hl⟩ := m.perm
  refine ⟨⟨e' :: l, ?_, .cons he (hl.mono hle)⟩, ?_, ?_⟩
  · rw [Array.toList_push]
    exact (hp.cons e').trans (List.perm_append_singleton _ _).symm
  · rw [Array.toList_push, List.map_append, List.nodup_append]
    refine ⟨m.nodup, by simp, ?_⟩
    intro a ha b hb2
    simp only [List.map_cons, List.map_nil, List.mem_singleton] at hb2
    obtain ⟨x, hx, rfl⟩ := List.mem_map.1 ha
    have := m.lt x hx
    omega
  · intro x hx
    rw [Array.toList_push, List.mem_append] at hx
    rcases hx with hx | hx
    · have := m.lt x hx; omega
    · simp at hx; subst hx; omega

/-- a new entry of a map -/
theorem addEntry_ok (hr : Rel P ρ h w) {r : Nat} {es : List ME} {ces : Array MapEntry} {clock : Nat} {rb : RB} (hb : h.tr.get r = some (.map es)) (hρ : ρ r = some rb) (hw : w.heap[rb.blk]? = some (.map ces clock)) (m : MapRel ρ es ces clock) (hfl : h.floor ≤ r) {k v k' v' : Value} (hk : VRel ρ k k') (hv : VRel ρ v v') :
    ∃ ρ', Rel P ρ' (h.addEntry r es k v) (putB w rb.blk (.map (ces.push { key := k', val := v', born := clock }) (clock + 1))) ∧ Ext ρ h w ρ' (h.addEntry r es k v) (putB w rb.blk (.map (ces.push { key := k', val := v', born := clock }) (clock + 1))) ∧ ρ' h.next = some ⟨clock, 0, 0, 0⟩ := by
  obtain ⟨h1, h2⟩ := hr.name ⟨clock, 0, 0, 0⟩
  have hlt : rb.blk < w.heap.size := (Array.getElem?_eq_some_iff.1 hw).1
  have hm : MapRel (ρ.put h.next ⟨clock, 0, 0, 0⟩) ({ key := k, val := v, sid := h.next } :: es) (ces.push { key := k', val := v', born := clock }) (clock + 1) :=
    m.push h2.le ⟨hk.mono h2.le, hv.mono h2.le, ⟨_, Ren.put_same _ _ _, rfl⟩⟩ rfl
  obtain ⟨q1, q2⟩ := h1.upd (b := r) (o := .map es) (o' := .map ({ key := k, val := v, sid := h.next } :: es)) (r := rb) hb hfl (h2.le _ _ hρ) (.map hm) (w' := putB w rb.blk (.map (ces.push { key := k', val := v', born := clock }) (clock + 1))) (by simp) (putB_same _ _ _ hlt) (fun c hc => putB_ne _ _ _ _ hc) rfl rfl rfl
  exact ⟨_, q1, h2.trans hr h1 q2, Ren.put_same _ _ _⟩

theorem mapV {x : Value} {r : Nat} (hx : VRel ρ (.map (some r)) x) : ∃ rb, ρ r = some rb ∧ x = .map (some rb.blk) := by
  cases hx with
  | map _ rb q => exact ⟨rb, q, rfl⟩

theorem stays {e : ME} {e' : MapEntry} {k k' : Value} (he : ERel ρ e e') (hk : VRel ρ k k') (hfl : flatV k = true) (hs : Instr.sameBits 10000 e.key k = true) : e'.key = k' ∧ k' = k ∧ e.key = k ∧ (Instr.keyThatStays e'.key k').run P w = .ok k' w := by
  have h1 := sameBits_eq _ _ _ hs
  have h2 := flatV_eq hfl hk
  have h3 : e'.key = k := by
    have := he.key
    rw [h1] at this
    exact flatV_eq hfl this
  refine ⟨h3.trans h2.symm, h2, h1, ?_⟩
  rw [h3, h2]
  unfold Instr.keyThatStays
  rw [h1] at hs
  rw [if_pos hs]
  rfl

theorem mapPut_ok (hr : Rel P ρ h w) {T : TT} (hT : TypesOk P T) {t kt e : TypeId} {i : TI} (hi : T t = some i) (hu : i.und = .map kt e) {c : Cmp} (hc : cmpOf T P.stoodInHeld 12 kt = some c) {r : Nat} {x k v k' v' : Value} (hx : VRel ρ (.map (some r)) x) (hk : VRel ρ k k') (hv : VRel ρ v v') {h' : H} (hf : mapPut c h r k v = some h') :
    ∃ ρ' w', (Instr.mapUpdate t x k' v').run P w = .ok () w' ∧ Rel P ρ' h' w' ∧ Ext ρ h w ρ' h' w' := by
  obtain ⟨info, h1, h2, h3, h4, h5⟩ := hT t i hi
  rw [hu] at h2
  obtain ⟨rb, hρ, rfl⟩ := mapV hx
  unfold mapPut at hf
  split at hf
  · rename_i hcond
    simp only [Bool.and_eq_true] at hcond
    obtain ⟨hfl, hflat⟩ := hcond
    have hfl := Nat.le_of_ble_eq_true hfl
    split at hf
    · rename_i es hm
      obtain ⟨rb', ces, clock, g1, g2, g3, g4⟩ := hr.mapAt hm
      rw [hρ] at g2; cases g2
      have hlt : rb.blk < w.heap.size := (Array.getElem?_eq_some_iff.1 g3).1
      split at hf
      · rename_i hfk
        cases hf
        obtain ⟨q1, q2⟩ := find_ok hT hc g4 hk hfk w
        rcases q2 with ⟨_, q3⟩ | ⟨e0, _, _, _, _, _, hh, _⟩
        · obtain ⟨ρ', w1, w2, w3⟩ := addEntry_ok hr g1 hρ g3 g4 hfl hk hv
          refine ⟨ρ', _, ?_, w1, w2⟩
          simp only [Instr.mapUpdate, Sem.run_bind, run_underlying P w h2, Result.andThen_ok, MapKept.run_getObj_map g3, q1, q3, MapKept.run_setObj_map _ g3]
          rfl
        · cases hh
      · rename_i e0 hfk
        obtain ⟨q1, q2⟩ := find_ok hT hc g4 hk hfk w
        rcases q2 with ⟨hh, _⟩ | ⟨e1, l1, l2, e1', A, B, hh, rfl, p1, p2, p3, p4⟩
        · cases hh
        · cases hh
          split at hf
          · rename_i hsb
            split at hf
            · rename_i es2 hps
              cases hf
              obtain ⟨m1, f, m2, q4, q5, rfl⟩ := putSid_spec hps
              rw [q4] at g4
              obtain ⟨f', A', B', z1, z2, _, z4⟩ := g4.place
              have hborn : f'.born = e1'.born := by
                obtain ⟨r1, a1, a2⟩ := z2.sid
                obtain ⟨r2, a3, a4⟩ := p2.sid
                rw [q5, a3] at a1; cases a1
                omega
              obtain ⟨hA, rfl⟩ := born_place g4.nodup p1 z1 hborn
              obtain ⟨s1, s2, s3, s4⟩ := stays (P := P) (w := w) p2 hk hflat hsb
              have hm2 := z4 { f with val := v } { f' with key := k', val := v' } ⟨by rw [← s1]; exact z2.key, hv, z2.sid⟩ rfl
              rw [hA] at hm2
              obtain ⟨u1, u2⟩ := hr.upd (b := r) (o := _) (o' := .map (m1 ++ { f with val := v } :: m2)) (r := rb) g1 hfl hρ (.map hm2) (w' := putB w rb.blk (.map (ces.modify A.length (fun _ => { f' with key := k', val := v' })) clock)) (by simp) (putB_same _ _ _ hlt) (fun c hc => putB_ne _ _ _ _ hc) rfl rfl rfl
              refine ⟨ρ, _, ?_, u1, u2⟩
              simp only [Instr.mapUpdate, Sem.run_bind, run_underlying P w h2, Result.andThen_ok, MapKept.run_getObj_map g3, q1, p3, at_place p1, Option.map_some, Option.getD_some, s4, MapKept.run_setObj_map _ g3]
              rw [modify_congr p1]
              rfl
            · cases hf
          · cases hf
      · cases hf
    · cases hf
  · cases hf

theorem mapUpd_ok (hr : Rel P ρ h w) {T : TT} (hT : TypesOk P T) {tm : Tr Value} {a : Act} (ht : TmRel ρ tm a.tmps) {t kt e : TypeId} {i : TI} (hi : T t = some i) (hu : i.und = .map kt e) {c : Cmp} (hc : cmpOf T P.stoodInHeld 12 kt = some c)
    {m k v : Operand} (h1 : okOpd P.globals.size m = true) (h2 : okOpd P.globals.size k = true) (h3 : okOpd P.globals.size v = true) {u : Value} {h' : H} (hf : oMapUpd tm h c m k v = some (u, h')) :
    u = undef ∧ ∃ ρ' w', (Instr.mapUpdate t (a.eval m) (a.eval k) (a.eval v)).run P w = .ok () w' ∧ Rel P ρ' h' w' ∧ Ext ρ h w ρ' h' w' := by
  unfold oMapUpd at hf
  split at hf
  · rename_i r k0 v0 e1 e2 e3
    split at hf
    · rename_i h2' hp
      cases hf
      exact ⟨rfl, mapPut_ok hr hT hi hu hc (ev_ok hr ht h1 e1) (ev_ok hr ht h2 e2) (ev_ok hr ht h3 e3) hp⟩
    · cases hf
  · cases hf

theorem mapEntry_ok (hr : Rel P ρ h w) {T : TT} (hT : TypesOk P T) {tm : Tr Value} {a : Act} (ht : TmRel ρ tm a.tmps) {t kt e : TypeId} {i j : TI} (hi : T t = some i) (hu : i.und = .map kt e) (hj : T e = some j) {z : Value} (hz : zeroOf j = some z) {c : Cmp} (hc : cmpOf T P.stoodInHeld 12 kt = some c)
    {m k : Operand} (hm : okOpd P.globals.size m = true) (hk : okOpd P.globals.size k = true) {u : Value} {h' : H} (hf : oMapEntry tm h c z m k = some (u, h')) : GoodV P ρ h w u h' ((Instr.mapEntry t (a.eval m) (a.eval k)).run P w) := by
  obtain ⟨info, h1, h2, h3, h4, h5⟩ := hT t i hi
  obtain ⟨infj, y1, y2, y3, y4, y5⟩ := hT e j hj
  obtain ⟨hz1, hz2⟩ := zeroOf_ok hz
  rw [hu] at h2
  unfold oMapEntry at hf
  split at hf
  · rename_i r k0 e1 e2
    obtain ⟨rb, hρ, hx⟩ := mapV (ev_ok hr ht hm e1)
    have hkk := ev_ok hr ht hk e2
    rw [hx]
    generalize a.eval k = k' at hkk ⊢
    unfold entryV at hf
    split at hf
    · rename_i es hcond hmo
      simp only [Bool.and_eq_true] at hcond
      obtain ⟨hfl, hflat⟩ := hcond
      have hfl := Nat.le_of_ble_eq_true hfl
      obtain ⟨rb', ces, clock, g1, g2, g3, g4⟩ := hr.mapAt hmo
      rw [hρ] at g2; cases g2
      have hlt : rb.blk < w.heap.size := (Array.getElem?_eq_some_iff.1 g3).1
      split at hf
      · rename_i hfk
        cases hf
        obtain ⟨q1, q2⟩ := find_ok hT hc g4 hkk hfk w
        rcases q2 with ⟨_, q3⟩ | ⟨e0, _, _, _, _, _, hh, _⟩
        · obtain ⟨ρ', w1, w2, w3⟩ := addEntry_ok hr g1 hρ g3 g4 hfl hkk (flatV_refl hz2 ρ)
          refine ⟨.tuple #[z, goInt clock], ρ', _, ?_, .tuple _ _ (.cons _ _ _ _ (flatV_refl hz2 ρ') (.cons _ _ _ _ (.stamp _ _ w3) .nil)), w1, w2⟩
          simp only [Instr.mapEntry, Sem.run_bind, run_underlying P w h2, Result.andThen_ok, MapKept.run_getObj_map g3, q1, q3, run_zeroValue P w y1 (y5.trans hz1), MapKept.run_setObj_map _ g3, Sem.run_pure]
          rfl
        · cases hh
      · rename_i e0 hfk
        obtain ⟨q1, q2⟩ := find_ok hT hc g4 hkk hfk w
        rcases q2 with ⟨hh, _⟩ | ⟨e1, l1, l2, e1', A, B, hh, rfl, p1, p2, p3, p4⟩
        · cases hh
        · cases hh
          split at hf
          · rename_i hsb
            cases hf
            obtain ⟨s1, s2, s3, s4⟩ := stays (P := P) (w := w) p2 hkk hflat hsb
            have hm2 := p4 e0 { e1' with key := k' } ⟨by rw [← s1]; exact p2.key, p2.val, p2.sid⟩ rfl
            obtain ⟨u1, u2⟩ := hr.upd (b := r) (o := _) (o' := .map (l1 ++ e0 :: l2)) (r := rb) g1 hfl hρ (.map hm2) (w' := putB w rb.blk (.map (ces.modify A.length (fun _ => { e1' with key := k' })) clock)) (by simp) (putB_same _ _ _ hlt) (fun c hc => putB_ne _ _ _ _ hc) rfl rfl rfl
            have hself : putB w rb.blk (.map (ces.modify A.length (fun _ => { e1' with key := k' })) clock) = w := by
              have : ({ e1' with key := k' } : MapEntry) = e1' := by rw [← s1]
              rw [this]
              have : ces.modify A.length (fun _ => e1') = ces := by
                apply Array.ext'
                rw [Array.toList_modify, p1, modify_at]
              rw [this]
              exact putB_self g3
            obtain ⟨sr, sa, sb⟩ := p2.sid
            refine ⟨.tuple #[e1'.val, goInt e1'.born], ρ, w, ?_, .tuple _ _ (.cons _ _ _ _ p2.val (.cons _ _ _ _ ?_ .nil)), hr, Ext.refl hr⟩
            · simp only [Instr.mapEntry, Sem.run_bind, run_underlying P w h2, Result.andThen_ok, MapKept.run_getObj_map g3, q1, p3, at_place p1, Option.map_some, Option.getD_some, s4, MapKept.run_setObj_map _ g3, Sem.run_pure]
              rw [modify_congr p1]
              exact congrArg _ hself
            · rw [← sb]; exact .stamp _ _ sa
          · cases hf
      · cases hf
    · cases hf
  · cases hf

theorem entryStore_ok (hr : Rel P ρ h w) {tm : Tr Value} {a : Act} (ht : TmRel ρ tm a.tmps) (t : TypeId) {m s v : Operand} (h1 : okOpd P.globals.size m = true) (h2 : okOpd P.globals.size s = true) (h3 : okOpd P.globals.size v = true) {u : Value} {h' : H}
    (hf : oEntryStore tm h m s v = some (u, h')) : u = undef ∧ ∃ ρ' w', (Instr.entryStore t (a.eval m) (a.eval s) (a.eval v)).run P w = .ok () w' ∧ Rel P ρ' h' w' ∧ Ext ρ h w ρ' h' w' := by
  unfold oEntryStore at hf
  split at hf
  · rename_i r sid v0 e1 e2 e3
    obtain ⟨rb, hρ, hx⟩ := mapV (ev_ok hr ht h1 e1)
    have hs := ev_ok hr ht h2 e2
    have hv := ev_ok hr ht h3 e3
    rw [hx]
    generalize a.eval s = s' at hs ⊢
    generalize a.eval v = v' at hv ⊢
    unfold storeSid at hf
    split at hf
    · rename_i es hfl hmo
      have hfl := Nat.le_of_ble_eq_true hfl
      obtain ⟨rb', ces, clock, g1, g2, g3, g4⟩ := hr.mapAt hmo
      rw [hρ] at g2; cases g2
      have hlt : rb.blk < w.heap.size := (Array.getElem?_eq_some_iff.1 g3).1
      split at hf
      · rename_i es2 hps
        cases hf
        refine ⟨rfl, ?_⟩
        obtain ⟨m1, f, m2, q4, q5, rfl⟩ := putSid_spec hps
        rw [q4] at g4
        obtain ⟨f', A, B, z1, z2, _, z4⟩ := g4.place
        cases hs with
        | stamp _ sr sa =>
          obtain ⟨r1, a1, a2⟩ := z2.sid
          rw [q5, sa] at a1; cases a1
          have hm2 := z4 { f with val := v0 } { f' with val := v' } ⟨z2.key, hv, z2.sid⟩ rfl
          obtain ⟨u1, u2⟩ := hr.upd (b := r) (o := _) (o' := .map (m1 ++ { f with val := v0 } :: m2)) (r := rb) g1 hfl hρ (.map hm2) (w' := putB w rb.blk (.map (ces.modify A.length (fun _ => { f' with val := v' })) clock)) (by simp) (putB_same _ _ _ hlt) (fun c hc => putB_ne _ _ _ _ hc) rfl rfl rfl
          refine ⟨ρ, _, ?_, u1, u2⟩
          have hfind : ces.findIdx? (fun e => (e.born : Int) == Int.ofNat sr.blk) = some A.length := by
            have e1 : ces = (A ++ f' :: B).toArray := by rw [← z1]
            rw [e1, List.findIdx?_toArray, List.findIdx?_append]
            have hA : A.findIdx? (fun e => (e.born : Int) == Int.ofNat sr.blk) = none := by
              rw [List.findIdx?_eq_none_iff]
              intro x hx
              rw [beq_eq_false_iff_ne]
              intro hh
              have hxb : x.born = f'.born := by
                have : (x.born : Int) = (sr.blk : Int) := hh
                omega
              obtain ⟨A1, A2, hA12⟩ := List.append_of_mem hx
              have zz : ces.toList = A1 ++ x :: (A2 ++ f' :: B) := by rw [z1, hA12]; simp
              obtain ⟨hl, _⟩ := born_place g4.nodup z1 zz hxb
              rw [hA12] at hl; simp at hl
            rw [hA]
            have : (List.findIdx? (fun e => (e.born : Int) == Int.ofNat sr.blk) (f' :: B)) = some 0 := by
              rw [List.findIdx?_cons, if_pos]
              rw [beq_iff_eq]; show (f'.born : Int) = (sr.blk : Int); omega
            rw [this]; simp
          simp only [Instr.entryStore, Sem.run_bind, MapKept.run_getObj_map g3, Result.andThen_ok, asInt, asIntOf, Sem.run_pure, hfind, MapKept.run_setObj_map _ g3]
          rw [modify_congr z1]
          rfl
      · cases hf
    · cases hf
  · cases hf

theorem mapIn_ok (hr : Rel P ρ h w) {r : Option Nat} {es : List ME} (hm : mapIn h r = some es) {x : Value} (hx : VRel ρ (.map r) x) :
    (es = [] ∧ r = none ∧ x = .map none) ∨ ∃ b ces clock, x = .map (some b) ∧ w.heap[b]? = some (.map ces clock) ∧ MapRel ρ es ces clock := by
  cases r with
  | none =>
    cases hm
    cases hx
    exact .inl ⟨rfl, rfl, rfl⟩
  | some r =>
    obtain ⟨rb, hρ, rfl⟩ := mapV hx
    obtain ⟨rb', ces, clock, g1, g2, g3, g4⟩ := hr.mapAt hm
    rw [hρ] at g2; cases g2
    exact .inr ⟨_, _, _, rfl, g3, g4⟩

theorem lenM_ok (hr : Rel P ρ h w) {T : TT} (hT : TypesOk P T) {tm : Tr Value} {a : Act} (ht : TmRel ρ tm a.tmps) {t kt e : TypeId} {i : TI} (hi : T t = some i) (hu : i.und = .map kt e) {x : Operand} (hx : okOpd P.globals.size x = true) (ty : TypeId) {v : Value} {h' : H}
    (hf : oLenM tm h x = some (v, h')) : PureV P ρ h w v h' ((Builtin.len_ #[t] ty #[a.eval x]).run P w) := by
  obtain ⟨info, h1, h2, h3, h4, h5⟩ := hT t i hi
  rw [hu] at h2
  unfold oLenM at hf
  split at hf
  · rename_i r ev1
    have hp := ev_ok hr ht hx ev1
    split at hf
    · rename_i es hm
      cases hf
      rcases mapIn_ok hr hm hp with ⟨rfl, rfl, hxx⟩ | ⟨b, ces, clock, hxx, hb, m⟩
      · rw [hxx]
        exact ⟨rfl, _, by simp [Builtin.len_, run_underlying P w h2, goInt], .int _ _⟩
      · rw [hxx]
        refine ⟨rfl, goInt ces.size, by simp [Builtin.len_, run_underlying P w h2, MapKept.run_getObj_map hb], ?_⟩
        obtain ⟨l, hp, hl⟩ := m.perm
        have e1 := hl.length
        have e2 := hp.length_eq
        have : ces.size = es.length := by rw [← e1, e2, Array.length_toList]
        rw [this]
        exact .int _ _
    · cases hf
  · cases hf

theorem lookup_ok (hr : Rel P ρ h w) {T : TT} (hT : TypesOk P T) {tm : Tr Value} {a : Act} (ht : TmRel ρ tm a.tmps) {t kt e : TypeId} {i j : TI} (hi : T t = some i) (hu : i.und = .map kt e) (hj : T e = some j) {z : Value} (hz : zeroOf j = some z) {c : Cmp} (hc : cmpOf T P.stoodInHeld 12 kt = some c)
    {m k : Operand} (hm : okOpd P.globals.size m = true) (hk : okOpd P.globals.size k = true) (ok : Bool) {u : Value} {h' : H} (hf : oLookup tm h c z m k ok = some (u, h')) : PureV P ρ h w u h' ((Instr.lookup t (a.eval m) (a.eval k) ok).run P w) := by
  obtain ⟨info, h1, h2, h3, h4, h5⟩ := hT t i hi
  obtain ⟨infj, y1, y2, y3, y4, y5⟩ := hT e j hj
  obtain ⟨hz1, hz2⟩ := zeroOf_ok hz
  rw [hu] at h2
  unfold oLookup at hf
  split at hf
  · rename_i r k0 e1 e2
    have hp := ev_ok hr ht hm e1
    have hkk := ev_ok hr ht hk e2
    generalize a.eval m = m' at hp ⊢
    generalize a.eval k = k' at hkk ⊢
    split at hf
    · rename_i es hmi
      have key : ∀ (ces : Array MapEntry) (clock : Nat), MapRel ρ es ces clock → (∀ (body : Array MapEntry → Sem Value), True) →
          PureV P ρ h w u h' ((do
            Instr.checkKey ces.isEmpty 10000 kt k'
            let (v, ok1) ← match ← Instr.findKey kt k' ces.toList with
              | some (_, v) => pure (v, true)
              | none => pure (← zeroValue e, false)
            pure (if ok then Value.tuple #[v, .bool ok1] else v) : Sem Value).run P w) := fun ces clock mr _ => by
        split at hf
        · rename_i e0 hfk
          cases hf
          obtain ⟨q1, q2⟩ := find_ok hT hc mr hkk hfk w
          rcases q2 with ⟨hh, _⟩ | ⟨e1, l1, l2, e1', A, B, hh, rfl, p1, p2, p3, p4⟩
          · cases hh
          · cases hh
            simp only [Sem.run_bind, q1, Result.andThen_ok, p3, Sem.run_pure]
            cases ok with
            | true => exact ⟨rfl, _, rfl, .tuple _ _ (.cons _ _ _ _ p2.val (.cons _ _ _ _ (.bool _) .nil))⟩
            | false => exact ⟨rfl, _, rfl, p2.val⟩
        · rename_i hfk
          cases hf
          obtain ⟨q1, q2⟩ := find_ok hT hc mr hkk hfk w
          rcases q2 with ⟨_, q3⟩ | ⟨e1, l1, l2, e1', A, B, hh, _⟩
          · simp only [Sem.run_bind, q1, Result.andThen_ok, q3, Sem.run_pure, run_zeroValue P w y1 (y5.trans hz1)]
            cases ok with
            | true => exact ⟨rfl, _, rfl, .tuple _ _ (.cons _ _ _ _ (flatV_refl hz2 ρ) (.cons _ _ _ _ (.bool _) .nil))⟩
            | false => exact ⟨rfl, _, rfl, flatV_refl hz2 ρ⟩
          · cases hh
        · cases hf
      rcases mapIn_ok hr hmi hp with ⟨rfl, rfl, rfl⟩ | ⟨b, ces, clock, rfl, hb, mr⟩
      · have := key #[] 0 ⟨⟨[], List.Perm.refl _, .nil⟩, by simp, by simp⟩ (fun _ => trivial)
        simp only [Instr.lookup, Sem.run_bind, run_underlying P w h2, Result.andThen_ok, Sem.run_pure] at this ⊢
        exact this
      · have := key ces clock mr (fun _ => trivial)
        simp only [Instr.lookup, Sem.run_bind, run_underlying P w h2, Result.andThen_ok, Sem.run_pure, MapKept.run_getObj_map hb] at this ⊢
        exact this
    · cases hf
  · cases hf
end
end Go.Ae
end

section
/-
  AE: operations, part 10: append, copy, clear.
-/
namespace Go.Ae
section
variable {P : Program} {ρ : Ren} {h : H} {w : World}

theorem srcLen_ok {x x' : Value} (hx : VRel ρ x x') {n : Nat} (hn : srcLen x = some n) (w : World) : (Builtin.lenOf x').run P w = .ok n w := by
  unfold srcLen at hn
  split at hn
  · rename_i m c
    split at hn
    · rename_i e
      cases hn
      have := Nat.eq_of_beq_eq_true e; subst this
      cases hx; rfl
    · cases hn
  · cases hn
    cases hx <;> rfl
  · cases hn
    cases hx; rfl
  · cases hn

theorem bytesV_rel (l : List UInt8) : VsRel ρ (l.map byteV) (l.map byteV) := by
  induction l with
  | nil => exact .nil
  | cons x l ih => exact .cons _ _ _ _ (.int _ _) ih

theorem srcCells_ok (hr : Rel P ρ h w) {x x' : Value} (hx : VRel ρ x x') {es n : Nat} (hn : 0 < n) {new : List Value} (hs : srcCells h es n x = some new) :
    new.length = n * es ∧ ∃ new', VsRel ρ new new' ∧ (Builtin.firstCells es n x').run P w = .ok new'.toArray w := by
  unfold srcCells at hs
  split at hs
  · split at hs
    · rename_i e; have := Nat.eq_of_beq_eq_true e; omega
    · cases hs
  · rename_i a len c
    split at hs
    · rename_i hle
      have hle := Nat.le_of_ble_eq_true hle
      have key : ∀ (a' : Addr) (c' : Nat), ARel ρ a a' → new.length = n * es ∧ ∃ new', VsRel ρ new new' ∧ (Builtin.firstCells es n (.slice (some a') len c')).run P w = .ok new'.toArray w := fun a' c' ha => by
        obtain ⟨q1, cs', q2, q3, q4⟩ := hr.cellsAt hs ha
        exact ⟨q1, cs', q2, by simpa [Builtin.firstCells] using q4⟩
      cases hx with
      | slice _ a' _ _ ha _ => exact key a' _ ha
      | sliceX _ a' _ c' r q1 ha q3 q4 q5 => exact key a' _ ha
      | sliceE _ a' _ _ => omega
    · cases hs
  · rename_i s
    split at hs
    · rename_i hc
      cases hs
      simp only [Bool.and_eq_true] at hc
      have h1 := Nat.eq_of_beq_eq_true hc.1
      have h2 := Nat.eq_of_beq_eq_true hc.2
      subst h1 h2
      cases hx
      refine ⟨by rw [List.length_map, Nat.mul_one]; rfl, _, bytesV_rel _, ?_⟩
      simp only [Builtin.firstCells, Sem.run_pure]
      congr 1
      apply Array.ext'
      have : s.extract 0 s.size = s := by simp
      rw [this]
      simp [byteV]
    · cases hs
  · cases hs

/-- cells of a slice that is held already -/
theorem heldCells_ok (hr : Rel P ρ h w) {a : Addr} {x' : Value} {len c es : Nat} (hx : VRel ρ (.slice (some a) len c) x') {old : List Value} (hs : h.cellsAt a (len * es) = some old) :
    ∃ b' c', x' = .slice b' len c' ∧ old.length = len * es ∧ ∃ old', VsRel ρ old old' ∧ (Builtin.firstCells es len x').run P w = .ok old'.toArray w := by
  cases hx with
  | slice _ a' _ _ ha _ =>
    obtain ⟨q1, cs', q2, q3, q4⟩ := hr.cellsAt hs ha
    exact ⟨_, _, rfl, q1, cs', q2, by simpa [Builtin.firstCells] using q4⟩
  | sliceX _ a' _ c' r q1 ha q3 q4 q5 =>
    obtain ⟨q1, cs', q2, q3, q4⟩ := hr.cellsAt hs ha
    exact ⟨_, _, rfl, q1, cs', q2, by simpa [Builtin.firstCells] using q4⟩
  | sliceE _ a' _ _ =>
    have hl : old = [] := by
      unfold H.cellsAt at hs
      split at hs
      · split at hs
        · have := (cut_len hs).1
          rw [Nat.zero_mul] at this
          exact List.eq_nil_of_length_eq_zero this
        · cases hs
      · cases hs
    refine ⟨_, _, rfl, by rw [hl]; simp, [], by rw [hl]; exact .nil, ?_⟩
    simp only [Builtin.firstCells, Nat.zero_mul]
    rfl

theorem grown_lt (w : World) (need old : Nat) (e : TypeId) (h : need < capX) : need ≤ grownCap w need old e ∧ grownCap w need old e < capX := by
  have e1 : grownCap w need old e = need + w.tape w.drawn (.appendCap need old e) % (9223372036854775808 - need) := rfl
  rw [e1]
  rw [capX_big] at h ⊢
  have : w.tape w.drawn (.appendCap need old e) % (9223372036854775808 - need) < 9223372036854775808 - need := Nat.mod_lt _ (by omega)
  omega

def notInt (d : TypeDesc) : Prop := (∃ e, d = .slice e) ∨ d = .string

/-- append, where there is room -/
theorem run_append_room {t u ty e : TypeId} {i : TypeInfo} {d : TypeDesc} (ht : P.underlying t = some (.slice e)) (hi : P.info? e = some i) (hu : P.underlying u = some d) (hd : notInt d) {base : Option Addr} {len cap n : Nat} {x : Value} {new : List Value}
    (hl : (Builtin.lenOf x).run P w = .ok n w) (hroom : len + n ≤ cap) (hnew : (Builtin.firstCells i.size n x).run P w = .ok new.toArray w) :
    (Builtin.append_ #[t, u] ty #[.slice base len cap, x]).run P w =
      ((match base with | some a => storeCells (a.add (len * i.size)) new | none => pure () : Sem Unit).run P w).andThen fun _ w' => .ok (.slice base (len + n) cap) w' := by
  rcases hd with ⟨e', rfl⟩ | rfl <;> cases base <;> simp [Builtin.append_, run_underlying P w ht, run_underlying P w hu, run_sizeOf P w hi, hl, hroom, hnew]

set_option maxHeartbeats 1000000 in
/-- append, where there is none -/
theorem run_append_grown {t u ty e : TypeId} {i : TypeInfo} {z : Value} {d : TypeDesc} (ht : P.underlying t = some (.slice e)) (hi : P.info? e = some i) (hz : i.zero = some z) (hu : P.underlying u = some d) (hd : notInt d) {base : Option Addr} {len cap n : Nat} {x : Value} {new old : List Value}
    (hl : (Builtin.lenOf x).run P w = .ok n w) (hroom : cap < len + n) (hfit : (len + n) * i.bytes ≤ 140737488355328) (hb : len + n < capX)
    (hold : (Builtin.firstCells i.size len (.slice base len cap)).run P w.drew = .ok old.toArray w.drew) (hnew : (Builtin.firstCells i.size n x).run P w.drew = .ok new.toArray w.drew) :
    (Builtin.append_ #[t, u] ty #[.slice base len cap, x]).run P w =
      .ok (.slice (some ⟨w.heap.size, 0, none⟩) (len + n) (grownCap w (len + n) cap e)) (w.drew.alloc (.cells (old ++ new ++ (Builtin.zeroCells z.cells (grownCap w (len + n) cap e - (len + n))).toList).toArray e)) := by
  have h1 : ¬ (len + n ≤ cap) := by omega
  have h63 : ¬ (9223372036854775807 < ((len : Int) + (n : Int))) := by rw [capX_big] at hb; omega
  have h48 : ¬ (281474976710656 < Builtin.nextslicecap (len + n) cap * i.bytes) := by
    have := growslice_fits (need := len + n) (old := cap) (bytes := i.bytes) hroom hfit
    omega
  have hg : (Question.appendCap (len + n) cap e).cut (w.tape w.drawn (.appendCap (len + n) cap e)) = grownCap w (len + n) cap e := rfl
  generalize hgg : grownCap w (len + n) cap e = gc at *
  rcases hd with ⟨e', rfl⟩ | rfl <;>
    simp [Builtin.append_, run_underlying P w ht, run_underlying P w hu, sizeOf, typeInfo, zeroValue, hi, hz, hl, h1, h63, h48, Question.forced, hnew, hold, newRow, hg] <;> (congr 2; apply Array.ext'; simp)

/-- a name is dropped -/
theorem Rel.drop (hr : Rel P ρ h w) {b : Nat} (hfl : h.floor ≤ b) : Rel P ρ { h with tr := h.tr.del b } w ∧ Ext ρ h w ρ { h with tr := h.tr.del b } w := by
  have hget : ∀ x o, (h.tr.del b).get x = some o → h.tr.get x = some o := fun x o e => by
    rw [Tr.get_del] at e
    split at e
    · cases e
    · exact e
  constructor
  · exact ⟨fun x o e => hr.dom x o (hget x o e), fun x y ox oy rx ry ex ey => hr.inj x y ox oy rx ry (hget _ _ ex) (hget _ _ ey), hr.fresh, fun x o e => hr.dead x o (hget x o e), hr.glob, hr.fl, hr.gfl⟩
  · refine ⟨Ren.le_refl ρ, fun _ _ => rfl, Nat.le_refl _, rfl, fun x hx => ?_, fun x o _ e => ⟨o, hget x o e⟩, fun x o r hx e _ => ?_, Nat.le_refl _, fun _ _ _ => rfl, rfl, rfl, rfl⟩
    · show (h.tr.del b).get x = _
      rw [Tr.get_del, if_neg (by omega)]
    · have := hr.dead x o (hget x o e); omega

/-- a block gets another name, and other cells -/
theorem Rel.rename (hr : Rel P ρ h w) {b : Nat} {o o' : AObj} {r r' : RB} (hb : h.tr.get b = some o) (hfl : h.floor ≤ b) (hρ : ρ b = some r) (hblk : r'.blk = r.blk)
    {O' : Obj} {w' : World} (hO : ORel P.globals.size (ρ.put h.next r') r' o' O') (hs : w'.heap.size = w.heap.size) (hat : w'.heap[r.blk]? = some O') (hne : ∀ c, c ≠ r.blk → w'.heap[c]? = w.heap[c]?)
    (h1 : w'.os = w.os) (h2 : w'.output = w.output) (h3 : w'.tape = w.tape) :
    Rel P (ρ.put h.next r') (H.new { h with tr := h.tr.del b } o').2 w' ∧ Ext ρ h w (ρ.put h.next r') (H.new { h with tr := h.tr.del b } o').2 w' := by
  have hle : ρ.le (ρ.put h.next r') := Ren.le_put (hr.none_next (Nat.le_refl _))
  have hbn := hr.dead b o hb
  have hget : ∀ x, (H.new { h with tr := h.tr.del b } o').2.tr.get x = if x = h.next then some o' else if x = b then none else h.tr.get x := fun x => by
    show ((h.tr.del b).set h.next o').get x = _
    rw [Tr.get_set, Tr.get_del]
  have hold : ∀ x ox, x ≠ h.next → (H.new { h with tr := h.tr.del b } o').2.tr.get x = some ox → x ≠ b ∧ h.tr.get x = some ox := fun x ox hx e => by
    rw [hget, if_neg hx] at e
    split at e
    · cases e
    · rename_i hxb; exact ⟨hxb, e⟩
  constructor
  · constructor
    · intro x ox e
      by_cases hx : x = h.next
      · subst hx
        rw [hget, if_pos rfl] at e; cases e
        exact ⟨r', Ren.put_same _ _ _, O', by rw [hblk]; exact hat, hO⟩
      · obtain ⟨hxb, e'⟩ := hold x ox hx e
        obtain ⟨rx, q1, obj, q2, q3⟩ := hr.dom x ox e'
        refine ⟨rx, hle _ _ q1, obj, ?_, q3.mono hle⟩
        rw [hne]
        · exact q2
        · intro heq
          exact hxb (hr.inj x b ox o rx r e' hb q1 hρ heq)
    · intro x y ox oy rx ry ex ey qx qy heq
      by_cases hx : x = h.next
      · by_cases hy : y = h.next
        · rw [hx, hy]
        · exfalso
          obtain ⟨hyb, ey'⟩ := hold y oy hy ey
          subst hx
          rw [Ren.put_same] at qx; cases qx
          rw [Ren.put_ne hy] at qy
          exact hyb (hr.inj y b oy o ry r ey' hb qy hρ (by rw [← heq, hblk]))
      · obtain ⟨hxb, ex'⟩ := hold x ox hx ex
        rw [Ren.put_ne hx] at qx
        by_cases hy : y = h.next
        · exfalso
          subst hy
          rw [Ren.put_same] at qy; cases qy
          exact hxb (hr.inj x b ox o rx r ex' hb qx hρ (by rw [heq, hblk]))
        · obtain ⟨_, ey'⟩ := hold y oy hy ey
          rw [Ren.put_ne hy] at qy
          exact hr.inj x y ox oy rx ry ex' ey' qx qy heq
    · intro x rx e
      show x < Nat.succ h.next
      by_cases hx : x = h.next
      · omega
      · rw [Ren.put_ne hx] at e
        have := hr.fresh x rx e; omega
    · intro x ox e
      show x < Nat.succ h.next
      by_cases hx : x = h.next
      · omega
      · obtain ⟨_, e'⟩ := hold x ox hx e
        have := hr.dead x ox e'; omega
    · intro g hg; exact hle _ _ (hr.glob g hg)
    · show h.floor ≤ Nat.succ h.next
      have := hr.fl; omega
    · exact hr.gfl
  · refine ⟨hle, fun x hx => Ren.put_ne (by omega), Nat.le_succ _, rfl, fun x hx => ?_, fun x ox hx e => ?_, fun x ox rx hx e q => ?_, by omega, fun c _ hn => hne c fun heq => hn b o r hb hfl hρ heq.symm, h1, h2, h3⟩
    · have := hr.fl
      rw [hget, if_neg (by omega), if_neg (by omega)]
    · obtain ⟨_, e'⟩ := hold x ox (by omega) e
      exact ⟨ox, e'⟩
    · by_cases hxn : x = h.next
      · subst hxn
        rw [Ren.put_same] at q; cases q
        exact .inr ⟨b, o, r, hb, hfl, hρ, hblk.symm⟩
      · obtain ⟨_, e'⟩ := hold x ox hxn e
        have := hr.dead x ox e'; omega

/-- a grown row -/
theorem good_grown (fz : Nat) (hr : Rel P ρ h w) {cs cs' : List Value} (hv : VsRel ρ cs cs') (elem : TypeId) {es : Nat} (hes : 0 < es) {need gc : Nat} {z : Array Value} (hz : z.size = es) (hlen : cs'.length = need * es) (h1 : need ≤ gc) (h2 : gc < capX) :
    GoodV P ρ h w (.slice (some ⟨h.next, 0, none⟩) need capX) (h.new (.cells cs elem fz false es)).2 (.ok (.slice (some ⟨w.heap.size, 0, none⟩) need gc) (w.alloc (.cells (cs' ++ (Builtin.zeroCells z (gc - need)).toList).toArray elem))) := by
  have hrest : (Builtin.zeroCells z (gc - need)).toList.length = (gc - need) * es := by
    simp [Builtin.zeroCells, hz]
  have hsum : need * es + (gc - need) * es = gc * es := by rw [← Nat.add_mul]; congr 1; omega
  obtain ⟨ρ', q1, q2, q3, q4⟩ := newCellsF fz hr (Builtin.zeroCells z (gc - need)).toList hv elem false (fun hh => by cases hh) (gc * es) es (by rw [hlen, hrest]; omega)
  refine ⟨_, ρ', _, rfl, .sliceX _ _ _ _ _ q3 q4 h1 h2 hes ?_, q1, q2⟩
  simp

theorem Rel.drew (hr : Rel P ρ h w) : Rel P ρ h w.drew ∧ Ext ρ h w ρ h w.drew := hr.of_heap rfl rfl rfl rfl

theorem append_len {ρ : Ren} {a a' b b' : List Value} (ha : VsRel ρ a a') (hb : VsRel ρ b b') {l n es : Nat} (h1 : a.length = l * es) (h2 : b.length = n * es) : (a' ++ b').length = (l + n) * es := by
  rw [List.length_append, ha.length, hb.length, h1, h2, Nat.add_mul]

theorem appendV_ok (hr : Rel P ρ h w) {t u ty e : TypeId} {i : TypeInfo} {z : Value} {d : TypeDesc} (ht : P.underlying t = some (.slice e)) (hi : P.info? e = some i) (hz : i.zero = some z) (hzs : z.cells.size = i.size) (hu : P.underlying u = some d) (hd : notInt d) {s x s' x' : Value} (hs : VRel ρ s s') (hx : VRel ρ x x')
    {v : Value} {h' : H} (hf : appendV h e i.size i.bytes s x = some (v, h')) : GoodV P ρ h w v h' ((Builtin.append_ #[t, u] ty #[s', x']).run P w) := by
  unfold appendV at hf
  split at hf
  · rename_i base len cap n hsl
    have hlen := srcLen_ok (P := P) hx hsl
    split at hf
    · rename_i hn0
      have := Nat.eq_of_beq_eq_true hn0; subst this
      split at hf
      · rename_i hlc
        cases hf
        have hlc := Nat.le_of_ble_eq_true hlc
        have hnew : (Builtin.firstCells i.size 0 x').run P w = .ok ([] : List Value).toArray w := by
          unfold srcLen at hsl
          split at hsl
          · cases hx; rfl
          · cases hx <;> (simp only [Builtin.firstCells, Nat.zero_mul]; rfl)
          · cases hx
            simp only [Builtin.firstCells]
            rename_i s
            have : s.extract 0 0 = ByteArray.empty := by simp
            rw [this]
            have h0 : (Array.map (fun b : UInt8 => Value.int IntKind.u8 b.toNat) ByteArray.empty.data) = #[] := by apply Array.eq_empty_of_size_eq_zero; rw [Array.size_map]; rfl
            rw [h0]; rfl
          · cases hsl
        have fin : ∀ (b' : Option Addr) (c' : Nat), s' = .slice b' len c' → len ≤ c' → GoodV P ρ h w (.slice base len cap) h ((Builtin.append_ #[t, u] ty #[s', x']).run P w) := fun b' c' hs' hle => by
          refine ⟨s', ρ, w, ?_, hs, hr, Ext.refl hr⟩
          rw [hs', run_append_room ht hi hu hd (hlen w) (by omega) hnew]
          cases b' <;> simp [storeCells]
        cases hs with
        | sliceN => exact fin _ _ rfl hlc
        | slice _ a' _ _ ha hc => exact fin _ _ rfl hlc
        | sliceX _ a' _ c' r q1 ha q3 q4 q5 => exact fin _ _ rfl q3
        | sliceE => exact fin _ _ rfl (Nat.le_refl _)
      · cases hf
    · rename_i hn0
      have hn : 0 < n := by
        rcases Nat.eq_zero_or_pos n with rfl | h0
        · exact absurd rfl hn0
        · exact h0
      split at hf
      · cases hf
      · rename_i new hnew
        split at hf
        · cases hf
        · rename_i hesall
          simp only [Bool.or_eq_true, Bool.not_eq_true', not_or, Bool.not_eq_false] at hesall
          have hes : 0 < i.size := by
            rcases Nat.eq_zero_or_pos i.size with h0 | h0
            · rw [h0] at hesall; exact absurd rfl hesall.1
            · exact h0
          split at hf
          · cases hf
          · rename_i hroom
            have hroom : (len + n) * (i.bytes + 1) < 1099511627776 := by
              rcases Nat.lt_or_ge ((len + n) * (i.bytes + 1)) 1099511627776 with h1 | h1
              · exact h1
              · exact absurd (Nat.ble_eq_true_of_le h1) hroom
            rw [Nat.mul_add, Nat.mul_one] at hroom
            have hfit : (len + n) * i.bytes ≤ 140737488355328 := by omega
            have hbig : len + n < capX := by rw [capX_big]; omega
            obtain ⟨hd1, hd2⟩ := hr.drew
            have grow : ∀ (fz : Nat) (old old' : List Value) (b' : Option Addr) (c' : Nat) (h2 : H), Rel P ρ h2 w → Ext ρ h w ρ h2 w → VsRel ρ old old' → old.length = len * i.size → s' = .slice b' len c' → c' < len + n →
                (Builtin.firstCells i.size len (.slice b' len c')).run P w.drew = .ok old'.toArray w.drew →
                ∀ (app : List Value), app = old ++ new → GoodV P ρ h w (.slice (some ⟨h2.next, 0, none⟩) (len + n) capX) (h2.new (.cells app e fz false i.size)).2 ((Builtin.append_ #[t, u] ty #[s', x']).run P w) := by
              intro fz old old' b' c' h2 hr2 hx2 hv hl hs' hc' hrun app happ
              obtain ⟨q1, new', q2, q3⟩ := srcCells_ok hd1 hx hn hnew
              rw [hs', run_append_grown ht hi hz hu hd (hlen w) hc' hfit hbig hrun q3]
              obtain ⟨g1, g2⟩ := grown_lt w (len + n) c' e hbig
              obtain ⟨e1, e2⟩ := hr2.drew
              have hall := hv.append q2
              subst happ
              obtain ⟨v', ρ', w', k1, k2, k3, k4⟩ := good_grown fz (w := w.drew) e1 hall e hes (z := z.cells) hzs (append_len hv q2 hl q1) g1 g2
              exact ⟨v', ρ', w', k1, k2, k3, hx2.trans hr hr2 (e2.trans hr2 e1 k4)⟩
            split at hf
            · -- a nil slice
              split at hf
              · rename_i hc0
                simp only [Bool.and_eq_true] at hc0
                have h1 := Nat.eq_of_beq_eq_true hc0.1
                have h2 := Nat.eq_of_beq_eq_true hc0.2
                subst h1 h2
                cases hf
                cases hs
                have := grow 0 [] [] none 0 h hr (Ext.refl hr) .nil (by simp) rfl (by omega) (run_firstCells_none _ _ _ _ _) new rfl
                rw [Nat.zero_add] at this
                exact this
              · cases hf
            · rename_i a
              split at hf
              · cases hf
              · rename_i old hold
                split at hf
                · -- a capacity that is not known
                  rename_i hcx
                  have := Nat.eq_of_beq_eq_true hcx; subst this
                  split at hf
                  · rename_i cs e2 fz xx g hb
                    split at hf
                    · rename_i hcond
                      cases hf
                      simp only [Bool.and_eq_true] at hcond
                      obtain ⟨⟨⟨⟨c1, c2⟩, c3⟩, c4⟩, c5⟩ := hcond
                      have c1 := Nat.eq_of_beq_eq_true c1
                      rw [lenR_eq] at c1
                      have c2 := Nat.le_of_ble_eq_true c2
                      have c3 := Nat.eq_of_beq_eq_true c3
                      have c4 := Nat.le_of_ble_eq_true c4
                      have c5 := Nat.eq_of_beq_eq_true c5
                      subst c3 c5
                      have c1 : cs.length = a.off + len * i.size := c1
                      have c4 : fz ≤ a.off + len * i.size := c4
                      rw [appR_eq]
                      obtain ⟨b', c', q1, q2, old', q3, q4⟩ := heldCells_ok hr hs hold
                      have q4' := (heldCells_ok hd1 hs hold)
                      by_cases hroom' : len + n ≤ c'
                      · -- in place
                        rw [q1] at hs
                        obtain ⟨p1, new', p2, p3⟩ := srcCells_ok hr hx hn hnew
                        cases hs with
                        | slice _ a' _ _ ha hc => exact absurd hc (by rw [capX_big]; omega)
                        | sliceE => omega
                        | sliceX _ a' _ _ r r1 ha r3 r4 r5 r6 =>
                          obtain ⟨rr, c, fr, y1, y2, y3⟩ := hr.cellsOf hb
                          rw [r1] at y1; cases y1
                          have hes2 := y3.es
                          have hen := y3.en
                          have hlt : r.blk < w.heap.size := (Array.getElem?_eq_some_iff.1 y2).1
                          have ha' := ha.out r1
                          have hmul : (len + n) * i.size ≤ c' * i.size := Nat.mul_le_mul_right _ hroom'
                          rw [Nat.add_mul] at hmul
                          have hnl : new'.length = n * i.size := by rw [p2.length, p1]
                          have hend : r.sh + a.off + c' * i.size ≤ c.size := by rw [← hes2, r6]; exact hen
                          have hadd : a'.add (len * i.size) = ⟨r.blk, r.sh + a.off + len * i.size, none⟩ := by
                            rw [add_eq _ _ ha.spot, ha']
                          have hst := run_storeCells_free (P := P) r.blk (r.sh + a.off + len * i.size) e2 fr new' 0 c w y2 (by rw [hnl]; omega)
                            (fun v hm => by
                              obtain ⟨k, hk⟩ := List.getElem?_of_mem hm
                              have hil : k < new.length := by have := (List.getElem?_eq_some_iff.1 hk).1; rw [hnl] at this; omega
                              obtain ⟨v', z1, z2⟩ := p2.at k new[k] (by simp [hil])
                              rw [hk] at z1; cases z1
                              rw [z2.oneCell]; exact allOne_spec hesall.2 _ (List.getElem_mem hil))
                            (fun j ha hb => by
                              have := y3.free (j - r.sh) (by omega)
                              rw [show r.sh + (j - r.sh) = j from by omega] at this
                              exact this)
                          rw [Nat.add_zero] at hst
                          refine ⟨.slice (some a') (len + n) c', ρ.put h.next ⟨r.blk, r.sh + a.off, r.en, i.size⟩, putB w r.blk (.cells (c.toList.take (r.sh + a.off + len * i.size) ++ new' ++ c.toList.drop (r.sh + a.off + len * i.size + new'.length)).toArray e2 fr), ?_, ?_, ?_⟩
                          · rw [q1, run_append_room ht hi hu hd (hlen w) hroom' p3]
                            simp only [hadd, hst, Result.andThen_ok]
                          · refine .sliceX _ _ _ _ ⟨r.blk, r.sh + a.off, r.en, i.size⟩ (Ren.put_same _ _ _) ⟨rfl, _, Ren.put_same _ _ _, by rw [ha']; rfl⟩ hroom' r4 hes ?_
                            show r.sh + a.off + 0 + c' * i.size = r.en
                            rw [← r6, hes2]; omega
                          · have hle : ρ.le (ρ.put h.next ⟨r.blk, r.sh + a.off, r.en, i.size⟩) := Ren.le_put (hr.none_next (Nat.le_refl _))
                            have hcut := hold
                            unfold H.cellsAt at hcut
                            rw [hb] at hcut
                            have hpl : plain a = true := by
                              by_cases hpp : plain a = true
                              · exact hpp
                              · rw [if_neg hpp] at hcut; cases hcut
                            rw [if_pos hpl] at hcut
                            have hcut : cut cs a.off (len * i.size) = some old := hcut
                            have htake : (c.toList.take (r.sh + a.off + len * i.size)).length = r.sh + a.off + len * i.size := by rw [List.length_take, Array.length_toList]; omega
                            have hsz : (c.toList.take (r.sh + a.off + len * i.size) ++ new' ++ c.toList.drop (r.sh + a.off + len * i.size + new'.length)).length = c.size := by
                              simp only [List.length_append, htake, List.length_drop, Array.length_toList, hnl]; omega
                            refine hr.rename hb c2 r1 (r' := ⟨r.blk, r.sh + a.off, r.en, i.size⟩) rfl (.cells ?_) (by simp) (putB_same _ _ _ hlt) (fun c hc => putB_ne _ _ _ _ hc) rfl rfl rfl
                            refine ⟨fun k v hk => ?_, ?_, fun hh => by (cases hh), ?_, rfl, ?_⟩
                            · show ∃ v', (List.toArray _)[r.sh + a.off + k]? = some v' ∧ _
                              rw [List.getElem?_toArray, List.append_assoc]
                              by_cases hkl : k < old.length
                              · rw [List.getElem?_append_left hkl, cut_nth hcut k (by omega)] at hk
                                obtain ⟨v', z1, z2⟩ := y3.at_ _ _ hk
                                refine ⟨v', ?_, z2.mono hle⟩
                                rw [List.getElem?_append_left (by rw [htake]; omega), List.getElem?_take_of_lt (by omega), Array.getElem?_toList, Nat.add_assoc]
                                exact z1
                              · rw [List.getElem?_append_right (by omega)] at hk
                                obtain ⟨v', z1, z2⟩ := p2.at _ _ hk
                                refine ⟨v', ?_, z2.mono hle⟩
                                have hkn := (List.getElem?_eq_some_iff.1 z1).1
                                rw [List.getElem?_append_right (by rw [htake]; omega), htake, List.getElem?_append_left (by omega), ← z1]
                                have hidx : r.sh + a.off + k - (r.sh + a.off + len * i.size) = k - old.length := by omega
                                rw [hidx]
                            · show r.sh + a.off + (old ++ new).length ≤ _
                              rw [List.size_toArray, hsz, List.length_append, q2, p1]; omega
                            · show r.en ≤ _
                              rw [List.size_toArray, hsz]; exact hen
                            · rcases y3.fz with hz1 | hz1
                              · exact .inl hz1
                              · right
                                show fr.2 ≤ r.sh + a.off + old.length
                                omega
                      · obtain ⟨b2, c2', w1, w2, old2, w3, w4⟩ := q4'
                        rw [q1] at w1; cases w1
                        obtain ⟨g1, g2⟩ := hr.drop c2
                        rw [q1] at w4
                        exact grow old.length old old2 b' c' _ g1 g2 w3 q2 q1 (by omega) w4 _ rfl
                    · cases hf
                  · cases hf
                · rename_i hcx
                  split at hf
                  · rename_i hroom'
                    have hroom' := Nat.le_of_ble_eq_true hroom'
                    split at hf
                    · rename_i h2 hwr
                      cases hf
                      obtain ⟨p1, new', p2, p3⟩ := srcCells_ok hr hx hn hnew
                      cases hs with
                      | slice _ a' _ _ ha hc =>
                        have hm : ARel ρ ⟨a.block, a.off + Nat.mul len i.size, none⟩ (a'.add (len * i.size)) := ha.moved _
                        obtain ⟨w', k1, k2, k3⟩ := hr.write hwr hm p2
                        refine ⟨.slice (some a') (len + n) cap, ρ, w', ?_, .slice _ _ _ _ ha hc, k2, k3⟩
                        rw [run_append_room ht hi hu hd (hlen w) hroom' p3]
                        simp only [k1, Result.andThen_ok]
                      | sliceX => exact absurd rfl hcx
                      | sliceE _ _ _ hor =>
                        rcases hor with rfl | rfl
                        · exact absurd rfl hcx
                        · omega
                    · cases hf
                  · rename_i hroom'
                    cases hf
                    rw [appR_eq]
                    have hlt : cap < len + n := by
                      rcases Nat.lt_or_ge cap (len + n) with h1 | h1
                      · exact h1
                      · exact absurd (Nat.ble_eq_true_of_le h1) hroom'
                    obtain ⟨b', c', q1, q2, old', q3, q4⟩ := heldCells_ok hd1 hs hold
                    have hc' : c' < len + n := by
                      rw [q1] at hs
                      cases hs with
                      | slice => exact hlt
                      | sliceX => exact absurd rfl hcx
                      | sliceE => omega
                    rw [q1] at q4
                    exact grow 0 old old' b' c' h hr (Ext.refl hr) q3 q2 q1 hc' q4 _ rfl
  · cases hf

theorem append_ok (hr : Rel P ρ h w) {T : TT} (hT : TypesOk P T) {tm : Tr Value} {a : Act} (ht : TmRel ρ tm a.tmps) {t u ty e : TypeId} {i j k : TI} (hi : T t = some i) (hiu : i.und = .slice e) (hj : T e = some j) {z : Value} (hz : zeroOf j = some z) (hzs : z.cells.size = j.size) (hk : T u = some k) (hd : notInt k.und)
    {x y : Operand} (hx : okOpd P.globals.size x = true) (hy : okOpd P.globals.size y = true) {v : Value} {h' : H} (hf : oAppend tm h e j.size j.bytes x y = some (v, h')) : GoodV P ρ h w v h' ((Builtin.append_ #[t, u] ty #[a.eval x, a.eval y]).run P w) := by
  obtain ⟨info, h1, h2, h3, h4, h5⟩ := hT t i hi
  obtain ⟨infj, g1, g2, g3, g4, g5⟩ := hT e j hj
  obtain ⟨infk, k1, k2, k3, k4, k5⟩ := hT u k hk
  rw [hiu] at h2
  unfold oAppend at hf
  split at hf
  · rename_i s0 x0 e1 e2
    rw [← g3, ← g4] at hf
    exact appendV_ok hr h2 g1 (g5.trans (zeroOf_ok hz).1) (by rw [hzs, g3]) k2 hd (ev_ok hr ht hx e1) (ev_ok hr ht hy e2) hf
  · cases hf

/-! copy -/
theorem headCells_ok (hr : Rel P ρ h w) {x x' : Value} (hx : VRel ρ x x') {es n m : Nat} (hm : srcLen x = some m) (hnm : n ≤ m) (hn : 0 < n) {new : List Value} (hs : srcCells h es n (headOf n x) = some new) :
    ∃ new', VsRel ρ new new' ∧ (Builtin.firstCells es n x').run P w = .ok new'.toArray w := by
  cases x with
  | string s =>
    cases hx
    cases hm
    unfold headOf srcCells at hs
    simp only at hs
    split at hs
    · rename_i hc
      cases hs
      refine ⟨_, bytesV_rel _, ?_⟩
      simp only [Builtin.firstCells, Sem.run_pure]
      congr 1
      apply Array.ext'
      simp only [ByteArray.data_extract, Array.toList_map, Array.toList_extract, List.extract_eq_take_drop, Nat.sub_zero, List.drop_zero]
      rfl
    · cases hs
  | _ => exact (srcCells_ok hr hx hn hs).2

theorem copy_ok (hr : Rel P ρ h w) {T : TT} (hT : TypesOk P T) {tm : Tr Value} {a : Act} (ht : TmRel ρ tm a.tmps) {t e : TypeId} {i j : TI} (hi : T t = some i) (hiu : i.und = .slice e) (hj : T e = some j) (ts : Array TypeId) (hts : ts[0]? = some t) (ty : TypeId)
    {x y : Operand} (hx : okOpd P.globals.size x = true) (hy : okOpd P.globals.size y = true) {v : Value} {h' : H} (hf : oCopy tm h j.size x y = some (v, h')) : GoodV P ρ h w v h' ((Builtin.copy_ ts ty #[a.eval x, a.eval y]).run P w) := by
  obtain ⟨info, h1, h2, h3, h4, h5⟩ := hT t i hi
  obtain ⟨infj, g1, g2, g3, g4, g5⟩ := hT e j hj
  rw [hiu] at h2
  unfold oCopy at hf
  split at hf
  · rename_i base len c x0 e1 e2
    have hs := ev_ok hr ht hx e1
    have hxx := ev_ok hr ht hy e2
    generalize a.eval x = s' at hs ⊢
    generalize a.eval y = y' at hxx ⊢
    split at hf
    · rename_i n hn
      have hlen := srcLen_ok (P := P) hxx hn
      have shape : ∃ b' c', s' = .slice b' len c' ∧ (base = none → b' = none) ∧ (∀ ad, base = some ad → 0 < len → ∃ ad', b' = some ad' ∧ ARel ρ ad ad') := by
        cases hs with
        | sliceN => exact ⟨_, _, rfl, fun _ => rfl, fun ad e => by cases e⟩
        | slice ad ad' _ _ ha hc => exact ⟨_, _, rfl, fun e => (by cases e), fun x e _ => by cases e; exact ⟨_, rfl, ha⟩⟩
        | sliceX ad ad' _ c' r q1 ha q3 q4 q5 => exact ⟨_, _, rfl, fun e => (by cases e), fun x e _ => by cases e; exact ⟨_, rfl, ha⟩⟩
        | sliceE => exact ⟨_, _, rfl, fun e => (by cases e), fun x e h0 => by omega⟩
      obtain ⟨b', c', rfl, hb1, hb2⟩ := shape
      have run : ∀ (new' : List Value) (w' : World), (Builtin.firstCells j.size (Nat.min n len) y').run P w = .ok new'.toArray w → ((match b' with | some a => storeCells a new' | none => pure () : Sem Unit).run P w = .ok () w') →
          (Builtin.copy_ ts ty #[.slice b' len c', y']).run P w = .ok (goInt (Nat.min n len)) w' := fun new' w' r1 r2 => by
        rw [← g3] at r1
        cases b' with
        | none => simp [Builtin.copy_, hts, run_underlying P w h2, run_sizeOf P w g1, hlen w, r1]; simpa using r2
        | some ad => simp [Builtin.copy_, hts, run_underlying P w h2, run_sizeOf P w g1, hlen w, r1, r2]
      unfold copyV at hf
      split at hf
      · rename_i h0
        have h0 := Nat.eq_of_beq_eq_true h0
        cases hf
        have hnew : (Builtin.firstCells j.size (Nat.min n len) y').run P w = .ok ([] : List Value).toArray w := by
          rw [h0]
          unfold srcLen at hn
          split at hn
          · cases hxx; rfl
          · cases hxx <;> (simp only [Builtin.firstCells, Nat.zero_mul]; rfl)
          · cases hxx
            simp only [Builtin.firstCells]
            rename_i s
            have : s.extract 0 0 = ByteArray.empty := by simp
            rw [this]
            have h0 : (Array.map (fun b : UInt8 => Value.int IntKind.u8 b.toNat) ByteArray.empty.data) = #[] := by apply Array.eq_empty_of_size_eq_zero; rw [Array.size_map]; rfl
            rw [h0]; rfl
          · cases hn
        refine ⟨goInt 0, ρ, w, ?_, .int _ _, hr, Ext.refl hr⟩
        have := run [] w hnew (by cases b' <;> simp [storeCells])
        rw [h0] at this
        exact this
      · rename_i h0
        have hpos : 0 < Nat.min n len := by
          rcases Nat.eq_zero_or_pos (Nat.min n len) with h1 | h1
          · rw [h1] at h0; exact absurd rfl h0
          · exact h1
        have hm1 : Nat.min n len ≤ n := Nat.min_le_left _ _
        have hm2 : Nat.min n len ≤ len := Nat.min_le_right _ _
        split at hf
        · rename_i cs hcs
          cases hf
          obtain ⟨new', q1, q2⟩ := headCells_ok hr hxx hn hm1 hpos hcs
          have hb : b' = none := hb1 rfl
          subst hb
          exact ⟨_, ρ, w, run new' w q2 (by simp), .int _ _, hr, Ext.refl hr⟩
        · rename_i cs ad hcs
          obtain ⟨new', q1, q2⟩ := headCells_ok hr hxx hn hm1 hpos hcs
          obtain ⟨ad', rfl, ha⟩ := hb2 _ rfl (by omega)
          split at hf
          · rename_i h2' hw
            cases hf
            obtain ⟨w', k1, k2, k3⟩ := hr.write hw ha q1
            exact ⟨_, ρ, w', run new' w' q2 k1, .int _ _, k2, k3⟩
          · cases hf
        · cases hf
    · cases hf
  · cases hf

/-! clear -/
theorem clearS_ok (hr : Rel P ρ h w) {T : TT} (hT : TypesOk P T) {tm : Tr Value} {a : Act} (ht : TmRel ρ tm a.tmps) {t e : TypeId} {i j : TI} (hi : T t = some i) (hiu : i.und = .slice e) (hj : T e = some j) {z : Value} (hz : zeroOf j = some z) (ty : TypeId)
    {x : Operand} (hx : okOpd P.globals.size x = true) {v : Value} {h' : H} (hf : oClearS tm h z.cells.toList x = some (v, h')) : GoodV P ρ h w v h' ((Builtin.clear_ #[t] ty #[a.eval x]).run P w) := by
  obtain ⟨info, h1, h2, h3, h4, h5⟩ := hT t i hi
  obtain ⟨infj, g1, g2, g3, g4, g5⟩ := hT e j hj
  obtain ⟨hz1, hz2⟩ := zeroOf_ok hz
  rw [hiu] at h2
  unfold oClearS at hf
  split at hf
  · rename_i n c e1
    have hs := ev_ok hr ht hx e1
    cases hf
    generalize a.eval x = s' at hs ⊢
    cases hs
    exact ⟨.tuple #[], ρ, w, by simp [Builtin.clear_, run_underlying P w h2], .tuple _ _ .nil, hr, Ext.refl hr⟩
  · rename_i ad c e1
    have hs := ev_ok hr ht hx e1
    cases hf
    generalize a.eval x = s' at hs ⊢
    cases hs <;> exact ⟨.tuple #[], ρ, w, by simp [Builtin.clear_, run_underlying P w h2], .tuple _ _ .nil, hr, Ext.refl hr⟩
  · rename_i ad n c e1
    have hs := ev_ok hr ht hx e1
    split at hf
    · rename_i h2' hw
      cases hf
      generalize a.eval x = s' at hs ⊢
      have hzr : VsRel ρ z.cells.toList z.cells.toList := (flatV_refl hz2 ρ).cells
      have fin : ∀ (ad' : Addr) (c' : Nat), ARel ρ ad ad' → GoodV P ρ h w (.tuple #[]) h' ((Builtin.clear_ #[t] ty #[.slice (some ad') (n + 1) c']).run P w) := fun ad' c' ha => by
        obtain ⟨w', k1, k2, k3⟩ := hr.write hw ha (rep_rel hzr (n + 1))
        refine ⟨.tuple #[], ρ, w', ?_, .tuple _ _ .nil, k2, k3⟩
        have hc : (Builtin.zeroCells z.cells (n + 1)).toList = (List.replicate (n + 1) z.cells.toList).flatten := by
          have := flatten_replicate z.cells.toList (n + 1)
          rw [← this]
          simp [Builtin.zeroCells]
        simp [Builtin.clear_, run_underlying P w h2, run_zeroValue P w g1 (g5.trans hz1), hc, k1]
      cases hs with
      | slice _ ad' _ _ ha hc => exact fin ad' _ ha
      | sliceX _ ad' _ c' r q1 ha q3 q4 q5 => exact fin ad' _ ha
    · cases hf
  · cases hf
end
end Go.Ae
end

section
/-
  AE: operations, part 11: strings and bytes, unsafe pointers.
-/
namespace Go.Ae
section
variable {P : Program} {ρ : Ren} {h : H} {w : World}

theorem bytesIn_spec : ∀ {l : List Value} {bs : List UInt8}, bytesIn l = some bs → ∀ {l' : List Value}, VsRel ρ l l' → l'.length = bs.length ∧ ∀ (j : Nat) (b : UInt8), bs[j]? = some b → ∃ n : Nat, l'[j]? = some (.int .u8 (.ofNat n)) ∧ UInt8.ofNat n = b
  | [], bs, h, l', hv => by cases h; cases hv; exact ⟨rfl, fun j b e => by simp at e⟩
  | v :: vs, bs, h, l', hv => by
    unfold bytesIn at h
    split at h
    · rename_i he; cases he
    · rename_i n ws he
      cases he
      split at h
      · rename_i r hr
        cases h
        cases hv with
        | cons _ v' _ vs' a b =>
          cases a
          obtain ⟨h1, h2⟩ := bytesIn_spec hr b
          refine ⟨by simp [h1], fun j x e => ?_⟩
          cases j with
          | zero => simp at e; exact ⟨n, by simp, e⟩
          | succ j => simp at e; simpa using h2 j x e
      · cases h
    · cases h

theorem run_bytesLoop : ∀ (l' : List Value) (bs : List UInt8) (acc : ByteArray), l'.length = bs.length → (∀ (j : Nat) (b : UInt8), bs[j]? = some b → ∃ n : Nat, l'[j]? = some (.int .u8 (.ofNat n)) ∧ UInt8.ofNat n = b) →
    (forIn l' acc (fun c s => (match c with
      | .int .u8 n => pure (ForInStep.yield (s.push (UInt8.ofNat n.toNat)))
      | _ => stuck "bytesToString: byte expected" : Sem (ForInStep ByteArray)))).run P w = .ok ⟨acc.data ++ bs.toArray⟩ w
  | [], [], acc, _, _ => by simp
  | [], _ :: _, _, h, _ => by simp at h
  | _ :: _, [], _, h, _ => by simp at h
  | v :: l', b :: bs, acc, h, hb => by
    obtain ⟨n, e1, e2⟩ := hb 0 b (by simp)
    simp at e1; subst e1
    have ih := run_bytesLoop l' bs (acc.push b) (by simpa using h) (fun j x e => by simpa using hb (j + 1) x (by simpa using e))
    simp only [List.forIn_cons, Sem.run_bind, Sem.run_pure, Result.andThen_ok, Int.toNat_natCast, e2]
    rw [ih]
    congr 1
    apply ByteArray.ext
    simp [ByteArray.push]

theorem strOfBytes_ok (hr : Rel P ρ h w) {T : TT} (hT : TypesOk P T) {tm : Tr Value} {a : Act} (ht : TmRel ρ tm a.tmps) {s d e : TypeId} {i j k : TI} (hi : T s = some i) (hiu : i.und = .slice e) (hj : T d = some j) (hju : j.und = .string) (hk : T e = some k) (hku : k.und = .int .u8)
    {x : Operand} (hx : okOpd P.globals.size x = true) {v : Value} {h' : H} (hf : oStrOfBytes tm h x = some (v, h')) : PureV P ρ h w v h' ((convert s d (a.eval x)).run P w) := by
  obtain ⟨info, h1, h2, h3, h4, h5⟩ := hT s i hi
  obtain ⟨infj, g1, g2, g3, g4, g5⟩ := hT d j hj
  obtain ⟨infk, k1, k2, k3, k4, k5⟩ := hT e k hk
  rw [hiu] at h2
  rw [hju] at g2
  rw [hku] at k2
  unfold oStrOfBytes at hf
  split at hf
  · rename_i n c e1
    have hp := ev_ok hr ht hx e1
    cases hf
    generalize a.eval x = x' at hp ⊢
    cases hp
    exact ⟨rfl, .string .empty, by simp [convert, run_underlying P w h2, run_underlying P w g2, run_underlying P w k2, Conv.bytesToString], .string _⟩
  · rename_i ad n c e1
    have hp := ev_ok hr ht hx e1
    generalize a.eval x = x' at hp ⊢
    split at hf
    · rename_i cs hcs
      split at hf
      · rename_i bs hbs
        cases hf
        have fin : ∀ (ad' : Addr) (c' : Nat) (l' : List Value), (loadCells ad' n).run P w = .ok l'.toArray w → VsRel ρ cs l' → PureV P ρ h w (.string ⟨bs.toArray⟩) h ((convert s d (.slice (some ad') n c')).run P w) := fun ad' c' l' hl hv => by
          obtain ⟨q1, q2⟩ := bytesIn_spec hbs hv
          refine ⟨rfl, .string ⟨bs.toArray⟩, ?_, .string _⟩
          have hloop := run_bytesLoop (P := P) (w := w) l' bs .empty q1 q2
          have hz : (⟨ByteArray.empty.data ++ bs.toArray⟩ : ByteArray) = ⟨bs.toArray⟩ := by
            apply ByteArray.ext; simp
          rw [hz] at hloop
          simp only [convert, Sem.run_bind, run_underlying P w h2, run_underlying P w g2, run_underlying P w k2, Conv.bytesToString, Result.andThen_ok, hl]
          rw [← Array.forIn_toList]
          refine (congrArg (fun r => Result.andThen r fun s w' => Sem.run P (pure (Value.string s)) w') hloop).trans ?_
          rfl
        have zero : ∀ (ad' : Addr) , n = 0 → (loadCells ad' n).run P w = .ok ([] : List Value).toArray w := fun ad' e => by subst e; rfl
        cases hp with
        | slice _ ad' _ _ ha hc =>
          obtain ⟨q1, cs', q2, q3, q4⟩ := hr.cellsAt hcs ha
          exact fin ad' _ cs' q4 q2
        | sliceX _ ad' _ c' r q1 ha q3 q4 q5 =>
          obtain ⟨p1, cs', p2, p3, p4⟩ := hr.cellsAt hcs ha
          exact fin ad' _ cs' p4 p2
        | sliceE _ ad' _ hor =>
          have hl : cs = [] := by
            unfold H.cellsAt at hcs
            split at hcs
            · split at hcs
              · exact List.eq_nil_of_length_eq_zero (cut_len hcs).1
              · cases hcs
            · cases hcs
          subst hl
          exact fin ad' _ [] rfl .nil
      · cases hf
    · cases hf
  · cases hf

theorem run_loadB : ∀ (bs : List UInt8) (a : Addr) (acc : ByteArray), (∀ (j : Nat) (b : UInt8), bs[j]? = some b → ∃ n : Nat, w.cell? (a.add j) = some (.int .u8 (.ofNat n)) ∧ UInt8.ofNat n = b) →
    (loadBytes a acc bs.length).run P w = .ok ⟨acc.data ++ bs.toArray⟩ w
  | [], a, acc, _ => by simp [loadBytes]
  | x :: l, a, acc, h => by
    obtain ⟨n, h0, hn⟩ := h 0 x rfl
    have h0 : w.cell? a = some (.int .u8 (.ofNat n)) := by simpa [Addr.add] using h0
    have ih := run_loadB l (a.add 1) (acc.push x) (fun j y hy => by
      have := h (j + 1) y (by simpa using hy)
      have e : (a.add 1).add j = a.add (j + 1) := by
        unfold Addr.add
        by_cases hj : j = 0
        · subst hj; simp
        · simp [hj]; omega
      rw [e]; exact this)
    have hx : ((Int.ofNat n).toNat).toUInt8 = x := hn
    simp only [List.length_cons, loadBytes, Sem.run_bind, run_load, h0, Result.andThen_ok, hx]
    rw [ih]
    congr 1
    apply ByteArray.ext
    simp [ByteArray.push]

theorem freeze_at {c : Array Value} {e : TypeId} {fr : Nat × Nat} {g : Nat} (hg : w.heap[g]? = some (.cells c e fr)) (o n : Nat) (hn : n ≠ 0) :
    w.freeze ⟨g, o, none⟩ n = putB w g (.cells c e (if fr.1 == fr.2 then (o, o + n) else (min fr.1 o, max fr.2 (o + n)))) := by
  obtain ⟨hlt, he⟩ := Array.getElem?_eq_some_iff.1 hg
  obtain ⟨lo, hi⟩ := fr
  unfold World.freeze putB
  rw [if_neg hn]
  congr 1
  apply Array.ext
  · simp
  · intro j h1 h2
    rw [Array.getElem_modify, Array.getElem_setIfInBounds (by simpa using h2)]
    by_cases hj : g = j
    · subst hj; simp [he]
    · simp [hj]

theorem alloc_put (w : World) (o O : Obj) : putB (w.alloc o) w.heap.size O = w.alloc O := by
  unfold putB World.alloc
  congr 1
  apply Array.ext
  · simp
  · intro j h1 h2
    rw [Array.getElem_setIfInBounds (by simpa using h2)]
    simp only [Array.size_push, Array.size_setIfInBounds] at h1
    by_cases hj : w.heap.size = j
    · subst hj; simp
    · rw [if_neg hj, Array.getElem_push_lt (by omega), Array.getElem_push_lt (by omega)]

theorem bytesOfStr_ok (hr : Rel P ρ h w) {T : TT} (hT : TypesOk P T) {tm : Tr Value} {a : Act} (ht : TmRel ρ tm a.tmps) {s d e : TypeId} {i j k : TI} (hi : T s = some i) (hiu : i.und = .string) (hj : T d = some j) (hju : j.und = .slice e) (hk : T e = some k) (hku : k.und = .int .u8)
    {x : Operand} (hx : okOpd P.globals.size x = true) {v : Value} {h' : H} (hf : oBytesOfStr tm h e x = some (v, h')) : GoodV P ρ h w v h' ((convert s d (a.eval x)).run P w) := by
  obtain ⟨info, h1, h2, h3, h4, h5⟩ := hT s i hi
  obtain ⟨infj, g1, g2, g3, g4, g5⟩ := hT d j hj
  obtain ⟨infk, k1, k2, k3, k4, k5⟩ := hT e k hk
  rw [hiu] at h2
  rw [hju] at g2
  rw [hku] at k2
  unfold oBytesOfStr at hf
  split at hf
  · rename_i s0 e1
    have hp := ev_ok hr ht hx e1
    generalize a.eval x = x' at hp ⊢
    cases hp
    split at hf
    · rename_i hsz
      cases hf
      have hsz := Nat.le_of_ble_eq_true hsz
      obtain ⟨hd1, hd2⟩ := hr.drew
      obtain ⟨q1, q2⟩ := grown_lt w s0.size 0 e (by rw [capX_big]; omega)
      have hgc : (Question.appendCap s0.size 0 e).cut (w.tape w.drawn (.appendCap s0.size 0 e)) = grownCap w s0.size 0 e := rfl
      generalize hgg : grownCap w s0.size 0 e = gc at *
      obtain ⟨c, hcd⟩ : ∃ c : Array Value, c = (s0.data.map fun b => Value.int .u8 b.toNat) ++ Array.replicate (gc - s0.size) (.int .u8 0) := ⟨_, rfl⟩
      have hcs : c.size = gc := by
        have : s0.data.size = s0.size := rfl
        rw [hcd]; simp [this]; omega
      have hrun : (convert s d (.string s0)).run P w = .ok (.slice (some ⟨w.heap.size, 0, none⟩) s0.size gc) (w.drew.alloc (.cells c e (gc, gc + 1))) := by
        have h3 : (markStringish ⟨w.heap.size, 0, none⟩).run P (w.drew.alloc (.cells c e)) = .ok () (w.drew.alloc (.cells c e (gc, gc + 1))) := by
          have hsh : (w.drew.alloc (.cells c e)).shape? w.heap.size = some (e, gc) := by
            have : (w.drew.alloc (.cells c e)).heap[w.heap.size]? = some (.cells c e) := heap_alloc_new w.drew _
            unfold World.shape?; rw [this]; simp [hcs]
          have hat : (w.drew.alloc (.cells c e)).heap[w.heap.size]? = some (.cells c e (0, 0)) := heap_alloc_new w.drew _
          have hfr := freeze_at hat gc 1 (by omega)
          have hpu := alloc_put w.drew (.cells c e) (.cells c e (gc, gc + 1))
          simp only [markStringish, Sem.run_bind, run_shape, hsh, Result.andThen_ok]
          have : (freeze { block := w.heap.size, off := gc } 1).run P (w.drew.alloc (.cells c e)) = .ok () ((w.drew.alloc (.cells c e)).freeze ⟨w.heap.size, gc, none⟩ 1) := rfl
          rw [this, hfr]
          simp only [beq_self_eq_true, if_true]
          exact congrArg _ hpu
        simp only [convert, Sem.run_bind, run_underlying P w h2, run_underlying P w g2, run_underlying P w k2, Result.andThen_ok, Conv.stringToBytes]
        rw [run_choose]
        simp only [Question.forced, Bool.false_eq_true, if_false, hgc, Result.andThen_ok, run_newRow]
        rw [← hcd]
        refine (congrArg (fun r => Result.andThen r fun a w' => Sem.run P (pure (Value.slice (some ⟨w.heap.size, 0, none⟩) s0.size gc)) w') h3).trans ?_
        rfl
      rw [hrun]
      have hle : ρ.le (ρ.put h.next ⟨w.drew.heap.size, 0, gc, 1⟩) := Ren.le_put (hr.none_next (Nat.le_refl _))
      obtain ⟨u1, u2⟩ := hd1.new (.cells (s0.data.toList.map byteV) e capX false 1) (.cells c e (gc, gc + 1)) gc 1 (.cells ⟨fun i v hi => by
          refine ⟨v, ?_, ?_⟩
          · show c[0 + i]? = some v
            have hil : i < (s0.data.toList.map byteV).length := (List.getElem?_eq_some_iff.1 hi).1
            simp only [List.length_map, Array.length_toList] at hil
            rw [Nat.zero_add, hcd, Array.getElem?_append_left (by simpa using hil)]
            rw [← hi, List.getElem?_map, Array.getElem?_map, Array.getElem?_toList]
            rfl
          · obtain ⟨b, _, rfl⟩ := List.mem_map.1 (List.mem_of_getElem? hi)
            exact .int _ _,
        by
          show 0 + _ ≤ c.size
          rw [hcs, List.length_map, Array.length_toList]
          have : s0.data.size = s0.size := rfl
          omega, fun hh => (by cases hh), by rw [hcs]; exact Nat.le_refl _, rfl, .inr (by show gc + 1 ≤ 0 + capX; omega)⟩)
      refine ⟨_, _, _, rfl, .sliceX _ _ _ _ _ (Ren.put_same _ _ _) ⟨rfl, _, Ren.put_same _ _ _, rfl⟩ q1 q2 (by simp) (by simp), u1, hd2.trans hr hd1 u2⟩
    · cases hf
  · cases hf

theorem usd_ok (hr : Rel P ρ h w) {tm : Tr Value} {a : Act} (ht : TmRel ρ tm a.tmps) (ts : Array TypeId) (ty : TypeId) {x : Operand} (hx : okOpd P.globals.size x = true) {v : Value} {h' : H} (hf : oUsd tm h x = some (v, h')) :
    PureV P ρ h w v h' ((Builtin.unsafeSliceData_ ts ty #[a.eval x]).run P w) := by
  unfold oUsd at hf
  split at hf
  · rename_i n c e1
    have hp := ev_ok hr ht hx e1
    cases hf
    generalize a.eval x = x' at hp ⊢
    cases hp
    exact ⟨rfl, _, rfl, .ptrN⟩
  · rename_i ad n c e1
    have hp := ev_ok hr ht hx e1
    generalize a.eval x = x' at hp ⊢
    split at hf
    · rename_i hc
      cases hf
      simp only [Bool.and_eq_true] at hc
      obtain ⟨⟨c1, c2⟩, c3⟩ := hc
      rw [blt_eq] at c2
      have c2 := of_decide_eq_true c2
      have c3 := Nat.le_of_ble_eq_true c3
      cases hp with
      | slice _ ad' _ _ ha hc => exact ⟨rfl, _, Lib.run_unsafeSliceData_row w ts ty ad' n c (by omega), .ptr _ _ ha⟩
      | sliceX _ ad' _ c' r q1 ha q3 q4 q5 => exact ⟨rfl, _, Lib.run_unsafeSliceData_row w ts ty ad' n c' (by omega), .ptr _ _ ha⟩
      | sliceE => omega
    · cases hf
  · cases hf

theorem liesAt_bytesAt {e : TypeId} (hc : P.cellsOf e = 1) (count off n : Nat) (hn : off + n ≤ count) : liesAt P P.depth e count off e n = true := by
  have hd : P.depth = (2 * (P.types.size + Made.depth) + 1) + 1 := rfl
  rw [hd]
  simp only [liesAt, Bool.or_eq_true]
  left
  rw [hd]
  simp [rowAt, hc, hn, sameLayout, Nat.mod_one]

theorem ustr_ok (hr : Rel P ρ h w) {T : TT} (hT : TypesOk P T) {tm : Tr Value} {a : Act} (ht : TmRel ρ tm a.tmps) {t e : TypeId} {i j : TI} (hi : T t = some i) (hiu : i.und = .pointer e) (hj : T e = some j) (hjs : j.size = 1) (ts : Array TypeId) (hts : ts[0]? = some t) (ty : TypeId)
    {x n : Operand} (hx : okOpd P.globals.size x = true) (hn : okOpd P.globals.size n = true) {v : Value} {h' : H} (hf : oUstr tm h e x n = some (v, h')) : GoodV P ρ h w v h' ((Builtin.unsafeString_ ts ty #[a.eval x, a.eval n]).run P w) := by
  obtain ⟨info, h1, h2, h3, h4, h5⟩ := hT t i hi
  obtain ⟨infj, g1, g2, g3, g4, g5⟩ := hT e j hj
  rw [hiu] at h2
  have hc1 : P.cellsOf e = 1 := by simp [Program.cellsOf, g1, g3, hjs]
  have hmax : IntKind.i64.max = 9223372036854775807 := rfl
  unfold oUstr at hf
  split at hf
  · rename_i p n0 e1 e2
    have hp := ev_ok hr ht hx e1
    have hq := ev_ok hr ht hn e2
    generalize a.eval x = x' at hp ⊢
    generalize a.eval n = n' at hq ⊢
    split at hf
    · rename_i q1
      obtain ⟨k, rfl⟩ := asIdx_some q1
      cases hq
      cases hf
      have key : ∀ p' : Option Addr, (Builtin.unsafeString_ ts ty #[.pointer p', .int k (Int.ofNat 0)]).run P w = .ok (.string .empty) w := fun p' => by
        cases p' with
        | none =>
          have hdef : Builtin.unsafeString_ ts ty #[.pointer none, .int k (Int.ofNat 0)] =
            (do
              let n ← asInt (.int k (Int.ofNat 0))
              let some pt := ts[0]? | stuck "unsafe.String: no argument types"
              if n < 0 then runtimePanic (.error "unsafe.String: len out of range")
              if n > IntKind.i64.max then unsupported (.unsafePointer "String: a length above the largest int")
              if n = 0 then pure (.string .empty)
              else runtimePanic (.error "unsafe.String: ptr is nil and len is not zero")) := rfl
          rw [hdef]
          simp [asInt, asIntOf, hmax, hts]
        | some b =>
          have hdef : Builtin.unsafeString_ ts ty #[.pointer (some b), .int k (Int.ofNat 0)] =
            (do
              let n ← asInt (.int k (Int.ofNat 0))
              let some pt := ts[0]? | stuck "unsafe.String: no argument types"
              if n < 0 then runtimePanic (.error "unsafe.String: len out of range")
              if n > IntKind.i64.max then unsupported (.unsafePointer "String: a length above the largest int")
              if n = 0 then pure (.string .empty)
              else if ← variablesAt b (← elemOf pt) n.toNat then do
                let s ← loadBytes b .empty n.toNat
                freeze b n.toNat
                pure (.string s)
              else unsupported (.unsafePointer "String: not so many bytes at ptr")) := rfl
          rw [hdef]
          simp [asInt, asIntOf, hmax, hts]
      cases hp with
      | ptrN => exact ⟨_, ρ, w, key none, .string _, hr, Ext.refl hr⟩
      | ptr _ b' _ => exact ⟨_, ρ, w, key (some b'), .string _, hr, Ext.refl hr⟩
    · rename_i m ad q1
      obtain ⟨k, rfl⟩ := asIdx_some q1
      cases hq
      cases hp with
      | ptr _ ad' ha =>
        unfold ustrAt at hf
        split at hf
        · rename_i cs e' fz xx g hcond hb
          simp only [Bool.and_eq_true] at hcond
          obtain ⟨⟨c1, c2⟩, c3⟩ := hcond
          have c2 := Nat.le_of_ble_eq_true c2
          have c3 := Nat.le_of_ble_eq_true c3
          split at hf
          · rename_i hee
            have := Nat.eq_of_beq_eq_true hee; subst this
            split at hf
            · rename_i l hcut
              split at hf
              · rename_i bs hbs
                cases hf
                have hcells : h.cellsAt ad (m + 1) = some l := by
                  unfold H.cellsAt
                  rw [if_pos c1, hb]
                  exact hcut
                obtain ⟨r, c, fr, y1, y2, y3⟩ := hr.cellsOf hb
                obtain ⟨p1, l', p2, p3, p4⟩ := hr.cellsAt hcells ha
                obtain ⟨p5, p6⟩ := bytesIn_spec hbs p2
                have hbl : bs.length = m + 1 := by rw [← p5, p2.length, p1]
                have hlt : r.blk < w.heap.size := (Array.getElem?_eq_some_iff.1 y2).1
                have ha' := ha.out y1
                subst ha'
                have hlb : (loadBytes ⟨r.blk, r.sh + ad.off, none⟩ .empty (m + 1)).run P w = .ok ⟨bs.toArray⟩ w := by
                  have := run_loadB (P := P) (w := w) bs ⟨r.blk, r.sh + ad.off, none⟩ .empty (fun j b e => by
                    obtain ⟨n, z1, z2⟩ := p6 j b e
                    exact ⟨n, p3 j _ z1, z2⟩)
                  rw [hbl] at this
                  rw [this]
                  congr 1
                  apply ByteArray.ext; simp
                have hle := cut_len hcut
                have hsz := y3.size
                have hlies : liesAt P P.depth e' (c.size / P.cellsOf e') (r.sh + ad.off) e' (m + 1) = true := liesAt_bytesAt hc1 _ _ _ (by rw [hc1, Nat.div_one]; omega)
                have hshape : w.shape? r.blk = some (e', c.size) := by simp [World.shape?, y2]
                have hrun : (Builtin.unsafeString_ ts ty #[.pointer (some ⟨r.blk, r.sh + ad.off, none⟩), .int k (Int.ofNat (m + 1))]).run P w = .ok (.string ⟨bs.toArray⟩) (w.freeze ⟨r.blk, r.sh + ad.off, none⟩ (m + 1)) := by
                  have hdef : Builtin.unsafeString_ ts ty #[.pointer (some ⟨r.blk, r.sh + ad.off, none⟩), .int k (Int.ofNat (m + 1))] =
                    (do
                      let n ← asInt (.int k (Int.ofNat (m + 1)))
                      let some pt := ts[0]? | stuck "unsafe.String: no argument types"
                      if n < 0 then runtimePanic (.error "unsafe.String: len out of range")
                      if n > IntKind.i64.max then unsupported (.unsafePointer "String: a length above the largest int")
                      if n = 0 then pure (.string .empty)
                      else if ← variablesAt ⟨r.blk, r.sh + ad.off, none⟩ (← elemOf pt) n.toNat then do
                        let s ← loadBytes ⟨r.blk, r.sh + ad.off, none⟩ .empty n.toNat
                        freeze ⟨r.blk, r.sh + ad.off, none⟩ n.toNat
                        pure (.string s)
                      else unsupported (.unsafePointer "String: not so many bytes at ptr")) := rfl
                  rw [hdef]
                  have e1 : ¬ (9223372036854775807 : Int) < (Int.ofNat (m + 1)) := by simp only [Int.ofNat_eq_natCast]; omega
                  have e2 : ¬ (Int.ofNat (m + 1)) < 0 := by simp only [Int.ofNat_eq_natCast]; omega
                  have e3 : ¬ (Int.ofNat (m + 1)) = 0 := by simp only [Int.ofNat_eq_natCast]; omega
                  have e4 : (Int.ofNat (m + 1)).toNat = m + 1 := rfl
                  generalize Int.ofNat (m + 1) = mi at e1 e2 e3 e4 ⊢
                  simp [asInt, asIntOf, hmax, hts, e1, e2, e3, e4, variablesAt, hshape, elemOf, run_underlying P w h2, hlies, hlb]
                rw [hrun, freeze_at y2 _ _ (by omega)]
                obtain ⟨u1, u2⟩ := hr.upd hb c2 y1 (o' := .cells cs e' (Nat.max fz (Nat.add ad.off (m + 1))) xx g) (O' := .cells c e' (if fr.1 == fr.2 then (r.sh + ad.off, r.sh + ad.off + (m + 1)) else (min fr.1 (r.sh + ad.off), max fr.2 (r.sh + ad.off + (m + 1)))))
                  (w' := putB w r.blk (.cells c e' (if fr.1 == fr.2 then (r.sh + ad.off, r.sh + ad.off + (m + 1)) else (min fr.1 (r.sh + ad.off), max fr.2 (r.sh + ad.off + (m + 1))))))
                  (.cells ⟨y3.at_, y3.size, y3.ex, y3.en, y3.es, by
                    have hm1 : fz ≤ Nat.max fz (Nat.add ad.off (m + 1)) := Nat.le_max_left _ _
                    have hm2 : ad.off + (m + 1) ≤ Nat.max fz (Nat.add ad.off (m + 1)) := Nat.le_max_right _ _
                    generalize Nat.max fz (Nat.add ad.off (m + 1)) = fz2 at hm1 hm2 ⊢
                    right
                    split
                    · show r.sh + ad.off + (m + 1) ≤ r.sh + fz2; omega
                    · rename_i hne
                      show max fr.2 (r.sh + ad.off + (m + 1)) ≤ r.sh + fz2
                      rcases y3.fz with hz | hz
                      · exact absurd (by simpa using hz) hne
                      · omega⟩) (by simp) (putB_same _ _ _ hlt) (fun c hc => putB_ne _ _ _ _ hc) rfl rfl rfl
                exact ⟨_, ρ, _, rfl, .string _, u1, u2⟩
              · cases hf
            · cases hf
          · cases hf
        · cases hf
    · cases hf
  · cases hf

/-! unsafe.Pointer -/
theorem toUns_ok (hr : Rel P ρ h w) {T : TT} (hT : TypesOk P T) {tm : Tr Value} {a : Act} (ht : TmRel ρ tm a.tmps) {s d e : TypeId} {i j k : TI} (hi : T s = some i) (hiu : i.und = .pointer e) (hj : T d = some j) (hju : j.und = .unsafePointer) (hk : T e = some k) (hks : k.size ≠ 0)
    {x : Operand} (hx : okOpd P.globals.size x = true) {v : Value} {h' : H} (hf : oToUns tm h x = some (v, h')) : PureV P ρ h w v h' ((convert s d (a.eval x)).run P w) := by
  obtain ⟨info, h1, h2, h3, h4, h5⟩ := hT s i hi
  obtain ⟨infj, g1, g2, g3, g4, g5⟩ := hT d j hj
  obtain ⟨infk, k1, k2, k3, k4, k5⟩ := hT e k hk
  rw [hiu] at h2
  rw [hju] at g2
  unfold oToUns at hf
  split at hf
  · rename_i e1
    have hp := ev_ok hr ht hx e1
    cases hf
    generalize a.eval x = x' at hp ⊢
    cases hp
    exact ⟨rfl, _, by simp [convert, run_underlying P w h2, run_underlying P w g2, Conv.unsafePointer], .ptrN⟩
  · rename_i ad e1
    have hp := ev_ok hr ht hx e1
    generalize a.eval x = x' at hp ⊢
    split at hf
    · rename_i u hc
      cases hf
      cases hp with
      | ptr _ ad' ha =>
        obtain ⟨u', q1, q2⟩ := hr.cell hc ha
        unfold World.cell? at q1
        split at q1
        · rename_i c e2 fr hb
          rw [ha.spot] at q1
          simp only [Option.isSome_none, Bool.false_eq_true, if_false] at q1
          have hlt := (Array.getElem?_eq_some_iff.1 q1).1
          exact ⟨rfl, _, Lib.run_to_unsafe w ad' h2 g2 k1 (by rw [k3]; exact hks) (e := e2) (cells := c.size) (by simp [World.shape?, hb]) hlt, .ptr _ _ ha⟩
        · cases q1
    · cases hf
  · cases hf

theorem liesAt_self {e : TypeId} (hc : P.cellsOf e ≠ 0) (n : Nat) (hn : n = P.cellsOf e) : liesAt P P.depth e (n / P.cellsOf e) 0 e 1 = true := by
  have hd : P.depth = (2 * (P.types.size + Made.depth) + 1) + 1 := rfl
  subst hn
  rw [Nat.div_self (by omega), hd]
  simp only [liesAt, Bool.or_eq_true]
  left
  rw [hd]
  simp [rowAt, hc, sameLayout]

theorem fromUns_ok (hr : Rel P ρ h w) {T : TT} (hT : TypesOk P T) {tm : Tr Value} {a : Act} (ht : TmRel ρ tm a.tmps) {s d e : TypeId} {i j k : TI} (hi : T s = some i) (hiu : i.und = .unsafePointer) (hj : T d = some j) (hju : j.und = .pointer e) (hk : T e = some k) (hks : k.size ≠ 0)
    {x : Operand} (hx : okOpd P.globals.size x = true) {v : Value} {h' : H} (hf : oFromUns tm h e k.size x = some (v, h')) : PureV P ρ h w v h' ((convert s d (a.eval x)).run P w) := by
  obtain ⟨info, h1, h2, h3, h4, h5⟩ := hT s i hi
  obtain ⟨infj, g1, g2, g3, g4, g5⟩ := hT d j hj
  obtain ⟨infk, k1, k2, k3, k4, k5⟩ := hT e k hk
  rw [hiu] at h2
  rw [hju] at g2
  unfold oFromUns at hf
  split at hf
  · rename_i e1
    have hp := ev_ok hr ht hx e1
    cases hf
    generalize a.eval x = x' at hp ⊢
    cases hp
    exact ⟨rfl, _, by simp [convert, run_underlying P w h2, run_underlying P w g2, Conv.unsafePointer], .ptrN⟩
  · rename_i ad e1
    have hp := ev_ok hr ht hx e1
    generalize a.eval x = x' at hp ⊢
    split at hf
    · rename_i cs e2 fz g hb
      split at hf
      · rename_i hc
        cases hf
        simp only [Bool.and_eq_true] at hc
        obtain ⟨⟨⟨c1, c2⟩, c3⟩, c4⟩ := hc
        have c2 := Nat.eq_of_beq_eq_true c2
        have c3 := Nat.eq_of_beq_eq_true c3
        have c4 := Nat.eq_of_beq_eq_true c4
        rw [lenR_eq] at c4
        subst c3
        cases hp with
        | ptr _ ad' ha =>
          obtain ⟨r, c, fr, y1, y2, y3⟩ := hr.cellsOf hb
          obtain ⟨hex1, hex2⟩ := y3.ex rfl
          have ha' := ha.out y1
          have hcs : P.cellsOf e2 = c.size := by simp [Program.cellsOf, k1, k3, hex1, c4]
          have hlies := liesAt_self (P := P) (e := e2) (by rw [hcs, hex1, c4]; exact hks) c.size hcs.symm
          refine ⟨rfl, _, Lib.run_from_unsafe w ad' h2 g2 k1 (e := e2) (cells := c.size) ?_ ?_, .ptr _ _ ha⟩
          · rw [ha']; simp [World.shape?, y2]
          · rw [ha', hex2, c2]; exact hlies
      · cases hf
    · cases hf
  · cases hf

/-! ranging over a string -/
theorem rangeStr_ok (hr : Rel P ρ h w) {T : TT} (hT : TypesOk P T) {tm : Tr Value} {a : Act} (ht : TmRel ρ tm a.tmps) {s : TypeId} {i : TI} (hi : T s = some i) (hiu : i.und = .string) {x : Operand} (hx : okOpd P.globals.size x = true) {v : Value} {h' : H} (hf : oRangeStr tm h x = some (v, h')) :
    GoodV P ρ h w v h' ((Instr.range s (a.eval x)).run P w) := by
  obtain ⟨info, h1, h2, h3, h4, h5⟩ := hT s i hi
  rw [hiu] at h2
  unfold oRangeStr at hf
  split at hf
  · rename_i s0 e1
    have hp := ev_ok hr ht hx e1
    cases hf
    generalize a.eval x = x' at hp ⊢
    cases hp
    obtain ⟨u1, u2⟩ := hr.new (.siter s0 0) (.stringIter s0 0) 0 0 (.siter rfl)
    refine ⟨.pointer (some ⟨w.heap.size, 0, none⟩), _, w.alloc (.stringIter s0 0), ?_, .ptr _ _ ⟨rfl, _, Ren.put_same _ _ _, rfl⟩, u1, u2⟩
    simp [Instr.range, run_underlying P w h2]
  · cases hf

theorem nextStr_ok (hr : Rel P ρ h w) {tm : Tr Value} {a : Act} (ht : TmRel ρ tm a.tmps) (ty : TypeId) {x : Operand} (hx : okOpd P.globals.size x = true) {v : Value} {h' : H} (hf : oNextStr tm h x = some (v, h')) :
    GoodV P ρ h w v h' ((Instr.next (a.eval x) true ty).run P w) := by
  unfold oNextStr at hf
  split at hf
  · rename_i ad e1
    have hp := ev_ok hr ht hx e1
    generalize a.eval x = x' at hp ⊢
    split at hf
    · rename_i hc
      simp only [Bool.and_eq_true] at hc
      have c2 := Nat.eq_of_beq_eq_true hc.2
      cases hp with
      | ptr _ ad' ha =>
        unfold nextV at hf
        split at hf
        · rename_i s0 pos hb
          obtain ⟨r, y1, obj, y2, y3⟩ := hr.dom _ _ hb
          have ha' := ha.out y1
          cases y3 with
          | siter hsh =>
            rw [hsh, c2] at ha'
            subst ha'
            have hget : (getObj r.blk).run P w = .ok (.stringIter s0 pos) w := by simp [getObj, Sem.run, y2]
            have hlt : r.blk < w.heap.size := (Array.getElem?_eq_some_iff.1 y2).1
            split at hf
            · rename_i hlt1 hfl
              cases hf
              have hfl := Nat.le_of_ble_eq_true hfl
              have hlt2 : pos < s0.size := by rw [blt_eq] at hlt1; exact of_decide_eq_true hlt1
              obtain ⟨u1, u2⟩ := hr.upd hb hfl y1 (o' := .siter s0 (Nat.add pos (Utf8.decode s0 pos).2)) (O' := .stringIter s0 (Nat.add pos (Utf8.decode s0 pos).2)) (w' := putB w r.blk (.stringIter s0 (Nat.add pos (Utf8.decode s0 pos).2))) (.siter hsh) (by simp) (putB_same _ _ _ hlt) (fun c hc => putB_ne _ _ _ _ hc) rfl rfl rfl
              refine ⟨.tuple #[.bool true, goInt pos, .int .i32 (Utf8.decode s0 pos).1], ρ, _, ?_, .tuple _ _ (.cons _ _ _ _ (.bool _) (.cons _ _ _ _ (.int _ _) (.cons _ _ _ _ (.int _ _) .nil))), u1, u2⟩
              have hset : ∀ o : Obj, (setObj r.blk o).run P w = .ok () (putB w r.blk o) := fun o => by simp [setObj, Sem.run, y2, putB]
              simp only [Instr.next, Sem.run_bind, hget, Result.andThen_ok, hlt2, if_true, hset, Sem.run_pure]
              rfl
            · rename_i hlt1
              cases hf
              have hlt2 : ¬ pos < s0.size := by rw [blt_eq] at hlt1; exact of_decide_eq_false hlt1
              refine ⟨.tuple #[.bool false], ρ, w, ?_, .tuple _ _ (.cons _ _ _ _ (.bool _) .nil), hr, Ext.refl hr⟩
              simp only [Instr.next, Sem.run_bind, hget, Result.andThen_ok, hlt2, if_false, Sem.run_pure]
            · cases hf
        · cases hf
    · cases hf
  · cases hf
end
end Go.Ae
end

section
/-
  AE: every operation that calls no function.
-/
namespace Go.Ae

def GoodN (P : Program) (ρ : Ren) (h : H) (w : World) (v : Value) (h' : H) (res : Result Next) : Prop :=
  ∃ v' ρ' w', (res = .ok (.value v') w' ∨ (res = .ok .skip w' ∧ v' = undef)) ∧ VRel ρ' v v' ∧ Rel P ρ' h' w' ∧ Ext ρ h w ρ' h' w'

section
variable {P : Program} {ρ : Ren} {h : H} {w : World}

theorem GoodV.next {s : Sem Value} {v : Value} {h' : H} (hg : GoodV P ρ h w v h' (s.run P w)) : GoodN P ρ h w v h' ((do pure (Next.value (← s)) : Sem Next).run P w) := by
  obtain ⟨v', ρ', w', h1, h2, h3, h4⟩ := hg
  exact ⟨v', ρ', w', .inl (by simp [h1]), h2, h3, h4⟩

theorem PureV.next (hr : Rel P ρ h w) {s : Sem Value} {v : Value} {h' : H} (hg : PureV P ρ h w v h' (s.run P w)) : GoodN P ρ h w v h' ((do pure (Next.value (← s)) : Sem Next).run P w) := (hg.good hr).next

theorem unitNext {s : Sem Unit} {v : Value} {h' : H} (hg : v = undef ∧ ∃ ρ' w', s.run P w = .ok () w' ∧ Rel P ρ' h' w' ∧ Ext ρ h w ρ' h' w') : GoodN P ρ h w v h' ((do s; pure Next.skip : Sem Next).run P w) := by
  obtain ⟨rfl, ρ', w', h1, h3, h4⟩ := hg
  exact ⟨undef, ρ', w', .inr ⟨by simp [h1], rfl⟩, .tuple _ _ .nil, h3, h4⟩

theorem flatNext (hr : Rel P ρ h w) {tm : Tr Value} {a : Act} (ht : TmRel ρ tm a.tmps) {o : Oper} (ho : ∀ x ∈ o.op.operands.toList, okOpd P.globals.size x = true) (hs : ∀ cs b, o.op ≠ .select cs b) {v : Value} {h' : H}
    (hf : retV (flatRun P tm o) h = some (v, h')) : GoodN P ρ h w v h' ((execOp a.eval o).run P w) := by
  obtain ⟨h0, hf'⟩ := retV_some hf
  subst h0
  obtain ⟨h1, h2⟩ := flatRun_ok hr ht ho hs hf'
  exact ⟨v, ρ, w, .inl h1, h2, hr, Ext.refl hr⟩

theorem app_bind {α : Type} {o : Option α} {f : α → Option OpF} {R : Rec} {tm : Tr Value} {h : H} {r : Value × H} (e : ((o.bind f).getD noOp) R tm h = some r) : ∃ i, o = some i ∧ ((f i).getD noOp) R tm h = some r := by
  cases o with
  | none => cases e
  | some i => exact ⟨i, rfl, e⟩
theorem app_map {α : Type} {o : Option α} {f : α → OpF} {R : Rec} {tm : Tr Value} {h : H} {r : Value × H} (e : ((o.map f).getD noOp) R tm h = some r) : ∃ i, o = some i ∧ f i R tm h = some r := by
  cases o with
  | none => cases e
  | some i => exact ⟨i, rfl, e⟩
theorem app_none {R : Rec} {tm : Tr Value} {h : H} {r : Value × H} (e : ((none : Option OpF).getD noOp) R tm h = some r) : False := by cases e
theorem app_cond {b : Bool} {f : OpF} {R : Rec} {tm : Tr Value} {h : H} {r : Value × H} (e : ((cond b (some f) none).getD noOp) R tm h = some r) : b = true ∧ f R tm h = some r := by
  cases b with
  | true => exact ⟨rfl, e⟩
  | false => cases e
theorem app_condN {b : Bool} {f : OpF} {R : Rec} {tm : Tr Value} {h : H} {r : Value × H} (e : ((cond b none (some f)).getD noOp) R tm h = some r) : b = false ∧ f R tm h = some r := by
  cases b with
  | false => exact ⟨rfl, e⟩
  | true => cases e

structure CtxOk (P : Program) (X : Ctx) : Prop where
  prog : X.P = P
  types : TypesOk P X.T
  stood : X.stood = P.stoodInHeld
  depth : 12 ≤ P.depth

/-- no function is called -/
def callsNone (o : Oper) : Prop := ∀ c, o.op = .call c → ∃ b, c.callee = .builtin b

theorem opts_ok {l : Option Operand} {xs : List Operand} (hok : ∀ x ∈ xs, okOpd P.globals.size x = true) (hl : ∀ y, l = some y → y ∈ xs) : ∀ y, l = some y → okOpd P.globals.size y = true := fun y e => hok y (hl y e)

set_option maxHeartbeats 1000000 in
theorem opF_ok {X : Ctx} (cx : CtxOk P X) (hr : Rel P ρ h w) {tm : Tr Value} {a : Act} (ht : TmRel ρ tm a.tmps) {o : Oper} (hok : ∀ x ∈ o.op.operands.toList, okOpd P.globals.size x = true) (hcn : ∀ c, o.op ≠ .call c) {R : Rec} {v : Value} {h' : H}
    (hf : opF X o R tm h = some (v, h')) : GoodN P ρ h w v h' ((execOp a.eval o).run P w) := by
  obtain ⟨hP, hT, hst, hdep⟩ := cx
  unfold opF at hf
  have hs : ∀ cs b, o.op ≠ .select cs b := fun cs b e => by rw [e] at hf; cases hf
  have hflat := fun {v h'} => flatNext hr ht hok hs (v := v) (h' := h')
  rw [hP, hst] at hf
  cases ho : o.op with
  | move x =>
    rw [ho] at hf hok
    obtain ⟨rfl, hv⟩ := retV_some (show retV (ev tm x) h = some (v, h') from hf)
    have : (execOp a.eval o).run P w = .ok (.value (a.eval x)) w := by unfold execOp; rw [ho]; rfl
    exact ⟨_, ρ, w, .inl this, ev_ok hr ht (hok x (by simp [Op.operands])) hv, hr, Ext.refl hr⟩
  | assign x =>
    rw [ho] at hf hok
    obtain ⟨rfl, hv⟩ := retV_some (show retV (ev tm x) h = some (v, h') from hf)
    have : (execOp a.eval o).run P w = .ok (.value (a.eval x)) w := by unfold execOp; rw [ho]; rfl
    exact ⟨_, ρ, w, .inl this, ev_ok hr ht (hok x (by simp [Op.operands])) hv, hr, Ext.refl hr⟩
  | pick c x y =>
    rw [ho] at hf hok
    have hf : oPick tm h c x y = some (v, h') := hf
    have hc := hok c (by simp [Op.operands])
    have hx := hok x (by simp [Op.operands])
    have hy := hok y (by simp [Op.operands])
    have hdef : execOp a.eval o = (do pure (Next.value (if ← asBool (a.eval c) then a.eval x else a.eval y))) := by unfold execOp; rw [ho]
    rw [hdef]
    unfold oPick at hf
    split at hf
    · rename_i e
      obtain ⟨rfl, hv⟩ := retV_some hf
      have hcv := ev_ok hr ht hc e
      generalize a.eval c = cv at hcv ⊢
      cases hcv
      exact ⟨_, ρ, w, .inl (by simp [asBool]), ev_ok hr ht hx hv, hr, Ext.refl hr⟩
    · rename_i e
      obtain ⟨rfl, hv⟩ := retV_some hf
      have hcv := ev_ok hr ht hc e
      generalize a.eval c = cv at hcv ⊢
      cases hcv
      exact ⟨_, ρ, w, .inl (by simp [asBool]), ev_ok hr ht hy hv, hr, Ext.refl hr⟩
    · cases hf
  | alloc e =>
    rw [ho] at hf
    obtain ⟨i, hi, hf⟩ := app_bind hf
    obtain ⟨z, hz, hf⟩ := app_map hf
    have hdef : execOp a.eval o = (do pure (Next.value (← Instr.alloc e true (.tuple #[])))) := by unfold execOp; rw [ho]
    rw [hdef]
    exact (alloc_ok hr hT hi hz hf).next
  | box e x =>
    rw [ho] at hf hok
    have hdef : execOp a.eval o = (do pure (Next.value (← Instr.box e (a.eval x)))) := by unfold execOp; rw [ho]
    rw [hdef]
    exact (box_ok hr ht (hok x (by simp [Op.operands])) (show oBox tm h e x = some (v, h') from hf)).next
  | build t parts =>
    rw [ho] at hf hok
    have hdef : execOp a.eval o = (do pure (Next.value (← Instr.build t (parts.map fun (i, x) => (i, a.eval x))))) := by unfold execOp; rw [ho]
    rw [hdef]
    have hpk : ∀ p ∈ parts.toList, okOpd P.globals.size p.2 = true := fun p hp => hok p.2 (by simp only [Op.operands, List.toList_toArray]; exact List.mem_map.2 ⟨p, hp, rfl⟩)
    obtain ⟨i, hi, hf⟩ := app_bind hf
    obtain ⟨z, hz, hf⟩ := app_bind hf
    split at hf
    · rename_i fs hu
      obtain ⟨pl, hpl, hf⟩ := app_bind hf
      obtain ⟨ps, hps, hf⟩ := app_map hf
      exact (build_ok hr hT ht hi hz (.inl ⟨fs, pl, hu, hpl, hps⟩) hpk hf).next hr
    · rename_i n e hu
      obtain ⟨j, hj, hf⟩ := app_bind hf
      obtain ⟨ps, hps, hf⟩ := app_map hf
      exact (build_ok hr hT ht hi hz (.inr ⟨n, e, j, hu, hj, hps⟩) hpk hf).next hr
    · cases hf
  | buildSlice t len parts =>
    rw [ho] at hf hok
    have hdef : execOp a.eval o = (do pure (Next.value (← Instr.buildSlice t len (parts.map fun (i, x) => (i, a.eval x))))) := by unfold execOp; rw [ho]
    rw [hdef]
    have hpk : ∀ p ∈ parts.toList, okOpd P.globals.size p.2 = true := fun p hp => hok p.2 (by simp only [Op.operands, List.toList_toArray]; exact List.mem_map.2 ⟨p, hp, rfl⟩)
    obtain ⟨i, hi, hf⟩ := app_bind hf
    split at hf
    · rename_i e hu
      obtain ⟨j, hj, hf⟩ := app_bind hf
      split at hf
      · cases hf
      · rename_i hc
        simp only [Bool.or_eq_true, decide_eq_true_eq, not_or] at hc
        obtain ⟨z, hz, hf⟩ := app_bind hf
        obtain ⟨ps, hps, hf⟩ := app_map hf
        exact (bslice_ok hr hT ht hi hu hj (by omega) (by omega) hz hps hpk hf).next
    · cases hf
  | load t x =>
    rw [ho] at hf hok
    have hdef : execOp a.eval o = (do pure (Next.value (← Instr.loadAt t (a.eval x)))) := by unfold execOp; rw [ho]
    rw [hdef]
    obtain ⟨i, hi, hf⟩ := app_map hf
    obtain ⟨h1, v', h2, h3⟩ := load_ok hr hT ht hi (hok x (by simp [Op.operands])) hf
    exact PureV.next hr ⟨h1, v', h2, h3⟩
  | store t x y =>
    rw [ho] at hf hok
    have hdef : execOp a.eval o = (do Instr.storeAt t (a.eval x) (a.eval y); pure Next.skip) := by unfold execOp; rw [ho]
    rw [hdef]
    obtain ⟨i, hi, hf⟩ := app_map hf
    obtain ⟨h1, w', h2, h3, h4⟩ := store_ok hr hT ht hi (hok x (by simp [Op.operands])) (hok y (by simp [Op.operands])) hf
    exact unitNext ⟨h1, ρ, w', h2, h3, h4⟩
  | nilCheck x =>
    rw [ho] at hf hok
    obtain ⟨rfl, h2, h3⟩ := nilck_ok hr ht (hok x (by simp [Op.operands])) (show oNilck tm h x = some (v, h') from hf)
    exact ⟨_, ρ, w, .inl (h3 o ho), h2, hr, Ext.refl hr⟩
  | binOp op t x y yt =>
    rw [ho] at hf
    obtain ⟨i, hi, hf⟩ := app_bind hf
    have hx := hok x (by rw [ho]; simp [Op.operands])
    have hy := hok y (by rw [ho]; simp [Op.operands])
    have hdef : execOp a.eval o = (do pure (Next.value (← (do eqGuard op t x y (a.eval x) (a.eval y); binOp op t (a.eval x) (a.eval y))))) := by unfold execOp; rw [ho]
    split at hf
    · exact hflat hf
    · exact hflat hf
    · obtain ⟨k, hk, hf⟩ := app_map hf
      rw [hdef]
      obtain ⟨h1, h2, h3⟩ := oEq_ok hr hT hdep ht hk hx hy (op := .eql) (neg := false) rfl hf
      exact PureV.next hr ⟨h1, v, h3, h2⟩
    · obtain ⟨k, hk, hf⟩ := app_map hf
      rw [hdef]
      obtain ⟨h1, h2, h3⟩ := oEq_ok hr hT hdep ht hk hx hy (op := .neq) (neg := true) rfl hf
      exact PureV.next hr ⟨h1, v, h3, h2⟩
    · split at hf
      · obtain ⟨h1, h2, h3⟩ := oIbin_ok hr ht ho hok (show oIbin P tm h op x y o = some (v, h') from hf)
        subst h1
        exact ⟨v, ρ, w, .inl h2, h3, hr, Ext.refl hr⟩
      · exact hflat hf
  | unOp op t x => rw [ho] at hf; exact hflat hf
  | convert s d x =>
    rw [ho] at hf
    have hx := hok x (by rw [ho]; simp [Op.operands])
    obtain ⟨i, hi, hf⟩ := app_bind hf
    obtain ⟨j, hj, hf⟩ := app_bind hf
    have hdef : execOp a.eval o = (do pure (Next.value (← convert s d (a.eval x)))) := by unfold execOp; rw [ho]
    split at hf
    · rename_i e h1 h2
      obtain ⟨k, hk, hf⟩ := app_bind hf
      split at hf
      · rename_i hku; rw [hdef]; exact (bytesOfStr_ok hr hT ht hi h1 hj h2 hk hku hx hf).next
      · cases hf
    · rename_i e h1 h2
      obtain ⟨k, hk, hf⟩ := app_bind hf
      split at hf
      · rename_i hku; rw [hdef]; exact (strOfBytes_ok hr hT ht hi h1 hj h2 hk hku hx hf).next hr
      · cases hf
    · rename_i e h1 h2
      obtain ⟨k, hk, hf⟩ := app_bind hf
      obtain ⟨hc, hf⟩ := app_condN hf
      rw [hdef]
      exact (toUns_ok hr hT ht hi h1 hj h2 hk (fun e => by rw [e] at hc; cases hc) hx hf).next hr
    · rename_i e h1 h2
      obtain ⟨k, hk, hf⟩ := app_bind hf
      obtain ⟨hc, hf⟩ := app_condN hf
      rw [hdef]
      exact (fromUns_ok hr hT ht hi h1 hj h2 hk (fun e => by rw [e] at hc; cases hc) hx hf).next hr
    · cases hf
    · rename_i k1 k2 h1 h2
      rw [hdef]
      exact (conv_ok hr hT ht hi hj h2 hx hf).next hr
    · exact hflat hf
  | makeInterface t x =>
    rw [ho] at hf
    have hx := hok x (by rw [ho]; simp [Op.operands])
    have hdef : execOp a.eval o = (do pure (Next.value (← Instr.makeInterface t (a.eval x)))) := by unfold execOp; rw [ho]
    rw [hdef]
    obtain ⟨i, hi, hf⟩ := app_bind hf
    split at hf
    · cases hf
    · rename_i hu
      exact (mkIface_ok hr hT ht hi (fun ms e => hu ms e) hx hf).next hr
  | makeFunc fn xs ys =>
    rw [ho] at hf hok
    have hdef : execOp a.eval o = (do pure (Next.value (← Instr.makeFunc fn (xs.map a.eval) (ys.map a.eval)))) := by unfold execOp; rw [ho]
    rw [hdef]
    exact (mkFunc_ok hr ht (fun x hx => hok x (by simp [Op.operands]; exact .inl (by simpa using hx))) (fun x hx => hok x (by simp [Op.operands]; exact .inr (by simpa using hx))) (show oMkFunc tm h fn xs.toList ys.toList = some (v, h') from hf)).next hr
  | makeMap t r =>
    rw [ho] at hf
    cases r with
    | none =>
      have hdef : execOp a.eval o = (do pure (Next.value (← Instr.makeMap t none))) := by unfold execOp; rw [ho]; rfl
      rw [hdef]
      exact (mkMap_ok hr t hf).next
    | some x => cases hf
  | makeSlice t x y =>
    rw [ho] at hf
    have hx := hok x (by rw [ho]; simp [Op.operands])
    have hy := hok y (by rw [ho]; simp [Op.operands])
    have hdef : execOp a.eval o = (do pure (Next.value (← Instr.makeSlice t (a.eval x) (a.eval y)))) := by unfold execOp; rw [ho]
    rw [hdef]
    obtain ⟨i, hi, hf⟩ := app_bind hf
    split at hf
    · rename_i e hu
      obtain ⟨j, hj, hf⟩ := app_bind hf
      obtain ⟨z, hz, hf⟩ := app_map hf
      exact (mkSlice_ok hr hT ht hi hu hj hz hx hy hf).next
    · cases hf
  | slice t x lo hi mx =>
    rw [ho] at hf
    have hx := hok x (by rw [ho]; simp [Op.operands])
    have hlo : ∀ y, lo = some y → okOpd P.globals.size y = true := fun y e => hok y (by rw [ho, e]; simp [Op.operands])
    have hhi : ∀ y, hi = some y → okOpd P.globals.size y = true := fun y e => hok y (by rw [ho, e]; simp [Op.operands])
    have hmx : ∀ y, mx = some y → okOpd P.globals.size y = true := fun y e => hok y (by rw [ho, e]; simp [Op.operands])
    have hdef : execOp a.eval o = (do pure (Next.value (← Instr.sliceAt t (a.eval x) (lo.map a.eval) (hi.map a.eval) (mx.map a.eval)))) := by unfold execOp; rw [ho]
    obtain ⟨i, hi', hf⟩ := app_bind hf
    split at hf
    · exact hflat hf
    · rename_i e hu
      obtain ⟨j, hj, hf⟩ := app_map hf
      rw [hdef]
      exact (sliceS_ok hr hT ht hi' hu hj hx hlo hhi hmx hf).next hr
    · rename_i n e hu
      obtain ⟨j, hj, hf⟩ := app_bind hf
      obtain ⟨hn, hf⟩ := app_cond hf
      rw [blt_eq] at hn
      rw [hdef]
      exact ((sliceA_ok hr hT ht hj (of_decide_eq_true hn) hx hlo hhi hmx hf).1 t i hi' hu).next hr
    · rename_i arr hu
      obtain ⟨k, hk, hf⟩ := app_bind hf
      split at hf
      · rename_i n e hku
        obtain ⟨j, hj, hf⟩ := app_bind hf
        obtain ⟨hn, hf⟩ := app_cond hf
        rw [blt_eq] at hn
        rw [hdef]
        exact ((sliceA_ok hr hT ht hj (of_decide_eq_true hn) hx hlo hhi hmx hf).2 t arr i k hi' hu hk hku).next hr
      · cases hf
    · cases hf
  | fieldAddr s x f =>
    rw [ho] at hf
    have hx := hok x (by rw [ho]; simp [Op.operands])
    have hdef : execOp a.eval o = (do pure (Next.value (← Instr.fieldAt s (a.eval x) f))) := by unfold execOp; rw [ho]
    rw [hdef]
    obtain ⟨i, hi, hf⟩ := app_bind hf
    split at hf
    · rename_i fs hu
      obtain ⟨g, hg, hf⟩ := app_bind hf
      obtain ⟨j, hj, hf⟩ := app_bind hf
      split at hf
      · cases hf
      · rename_i hsz
        exact (faddr_ok hr hT ht hi hu hg hj hsz hx hf).next hr
    · cases hf
  | field t x f =>
    rw [ho] at hf
    have hx := hok x (by rw [ho]; simp [Op.operands])
    have hdef : execOp a.eval o = (do pure (Next.value (← Instr.field t (a.eval x) f))) := by unfold execOp; rw [ho]
    rw [hdef]
    obtain ⟨i, hi, hf⟩ := app_bind hf
    split at hf
    · rename_i fs hu
      obtain ⟨g, hg, hf⟩ := app_bind hf
      obtain ⟨j, hj, hf⟩ := app_map hf
      exact (part_ok hr hT ht hi hu hg hj hx hf).next hr
    · cases hf
  | indexAddr t x y =>
    rw [ho] at hf
    have hx := hok x (by rw [ho]; simp [Op.operands])
    have hy := hok y (by rw [ho]; simp [Op.operands])
    have hdef : execOp a.eval o = (do pure (Next.value (← Instr.indexAt t (a.eval x) (a.eval y)))) := by unfold execOp; rw [ho]
    rw [hdef]
    obtain ⟨i, hi, hf⟩ := app_bind hf
    split at hf
    · rename_i n e hu
      obtain ⟨j, hj, hf⟩ := app_map hf
      exact (iaddrA_ok hr hT ht hi hu hj hx hy hf).next hr
    · rename_i e hu
      obtain ⟨j, hj, hf⟩ := app_map hf
      exact (iaddrS_ok hr hT ht hi hu hj hx hy hf).next hr
    · cases hf
  | index t x y =>
    rw [ho] at hf
    have hx := hok x (by rw [ho]; simp [Op.operands])
    have hy := hok y (by rw [ho]; simp [Op.operands])
    have hdef : execOp a.eval o = (do pure (Next.value (← Instr.index t (a.eval x) (a.eval y)))) := by unfold execOp; rw [ho]
    obtain ⟨i, hi, hf⟩ := app_bind hf
    split at hf
    · rename_i n e hu
      obtain ⟨j, hj, hf⟩ := app_map hf
      rw [hdef]
      exact (indexA_ok hr hT ht hi hu hj hx hy hf).next hr
    · exact hflat hf
    · cases hf
  | lookup t m k ok =>
    rw [ho] at hf
    have hm := hok m (by rw [ho]; simp [Op.operands])
    have hk := hok k (by rw [ho]; simp [Op.operands])
    have hdef : execOp a.eval o = (do pure (Next.value (← Instr.lookup t (a.eval m) (a.eval k) ok))) := by unfold execOp; rw [ho]
    rw [hdef]
    obtain ⟨i, hi, hf⟩ := app_bind hf
    split at hf
    · rename_i kt e hu
      obtain ⟨j, hj, hf⟩ := app_bind hf
      obtain ⟨z, hz, hf⟩ := app_bind hf
      obtain ⟨c, hc, hf⟩ := app_map hf
      exact (lookup_ok hr hT ht hi hu hj hz hc hm hk ok hf).next hr
    · cases hf
  | mapUpdate t m k x =>
    rw [ho] at hf
    have h1 := hok m (by rw [ho]; simp [Op.operands])
    have h2 := hok k (by rw [ho]; simp [Op.operands])
    have h3 := hok x (by rw [ho]; simp [Op.operands])
    have hdef : execOp a.eval o = (do Instr.mapUpdate t (a.eval m) (a.eval k) (a.eval x); pure Next.skip) := by unfold execOp; rw [ho]
    rw [hdef]
    obtain ⟨i, hi, hf⟩ := app_bind hf
    split at hf
    · rename_i kt e hu
      obtain ⟨c, hc, hf⟩ := app_map hf
      exact unitNext (mapUpd_ok hr hT ht hi hu hc h1 h2 h3 hf)
    · cases hf
  | insert t m k x =>
    rw [ho] at hf
    have h1 := hok m (by rw [ho]; simp [Op.operands])
    have h2 := hok k (by rw [ho]; simp [Op.operands])
    have h3 := hok x (by rw [ho]; simp [Op.operands])
    have hdef : execOp a.eval o = (do Instr.mapUpdate t (a.eval m) (a.eval k) (a.eval x); pure Next.skip) := by unfold execOp; rw [ho]
    rw [hdef]
    obtain ⟨i, hi, hf⟩ := app_bind hf
    split at hf
    · rename_i kt e hu
      obtain ⟨c, hc, hf⟩ := app_map hf
      exact unitNext (mapUpd_ok hr hT ht hi hu hc h1 h2 h3 hf)
    · cases hf
  | mapEntry t m k =>
    rw [ho] at hf
    have hm := hok m (by rw [ho]; simp [Op.operands])
    have hk := hok k (by rw [ho]; simp [Op.operands])
    have hdef : execOp a.eval o = (do pure (Next.value (← Instr.mapEntry t (a.eval m) (a.eval k)))) := by unfold execOp; rw [ho]
    rw [hdef]
    obtain ⟨i, hi, hf⟩ := app_bind hf
    split at hf
    · rename_i kt e hu
      obtain ⟨j, hj, hf⟩ := app_bind hf
      obtain ⟨z, hz, hf⟩ := app_bind hf
      obtain ⟨c, hc, hf⟩ := app_map hf
      exact (mapEntry_ok hr hT ht hi hu hj hz hc hm hk hf).next
    · cases hf
  | entryStore t m s x =>
    rw [ho] at hf
    have h1 := hok m (by rw [ho]; simp [Op.operands])
    have h2 := hok s (by rw [ho]; simp [Op.operands])
    have h3 := hok x (by rw [ho]; simp [Op.operands])
    have hdef : execOp a.eval o = (do Instr.entryStore t (a.eval m) (a.eval s) (a.eval x); pure Next.skip) := by unfold execOp; rw [ho]
    rw [hdef]
    exact unitNext (entryStore_ok hr ht t h1 h2 h3 hf)
  | range t x =>
    rw [ho] at hf
    have hx := hok x (by rw [ho]; simp [Op.operands])
    have hdef : execOp a.eval o = (do pure (Next.value (← Instr.range t (a.eval x)))) := by unfold execOp; rw [ho]
    rw [hdef]
    obtain ⟨i, hi, hf⟩ := app_bind hf
    split at hf
    · rename_i hu
      exact (rangeStr_ok hr hT ht hi hu hx hf).next
    · cases hf
  | next x b =>
    rw [ho] at hf
    have hx := hok x (by rw [ho]; simp [Op.operands])
    cases b with
    | true =>
      have hdef : execOp a.eval o = (do pure (Next.value (← Instr.next (a.eval x) true o.type))) := by unfold execOp; rw [ho]
      rw [hdef]
      exact (nextStr_ok hr ht o.type hx hf).next
    | false => cases hf
  | typeAssert x t u ok => rw [ho] at hf; exact hflat hf
  | extract x i =>
    rw [ho] at hf
    have hx := hok x (by rw [ho]; simp [Op.operands])
    have hdef : execOp a.eval o = (do pure (Next.value (← Instr.extract (a.eval x) i))) := by unfold execOp; rw [ho]
    rw [hdef]
    exact (extract_ok hr ht hx hf).next hr
  | call c => exact absurd ho (hcn c)
  | ready g => rw [ho] at hf; cases hf
  | waits g => rw [ho] at hf; cases hf
  | sliceToArrayPointer d x => rw [ho] at hf; cases hf
  | makeChan t x => rw [ho] at hf; cases hf
  | entry x => rw [ho] at hf; cases hf
  | go c => rw [ho] at hf; cases hf
  | defer c => rw [ho] at hf; cases hf
  | panic x => rw [ho] at hf; cases hf
  | send c x => rw [ho] at hf; cases hf
  | recv t c b => rw [ho] at hf; cases hf
  | select cs b => rw [ho] at hf; cases hf
end
end Go.Ae
end

section
/-
  AE: calls of builtins.
-/
namespace Go.Ae
section
variable {P : Program} {ρ : Ren} {h : H} {w : World}

theorem arr1 {α : Type} {xs : Array α} {x : α} (h : xs.toList = [x]) : xs = #[x] := by rw [← Array.toArray_toList (xs := xs), h]
theorem arr2 {α : Type} {xs : Array α} {x y : α} (h : xs.toList = [x, y]) : xs = #[x, y] := by rw [← Array.toArray_toList (xs := xs), h]

set_option maxHeartbeats 1000000 in
theorem builtin_ok {X : Ctx} (cx : CtxOk P X) (hr : Rel P ρ h w) {tm : Tr Value} {a : Act} (ht : TmRel ρ tm a.tmps) {o : Oper} (hok : ∀ x ∈ o.op.operands.toList, okOpd P.globals.size x = true) {c : Call} (ho : o.op = .call c) {b : Builtin} (hb : c.callee = .builtin b) {R : Rec} {v : Value} {h' : H}
    (hf : opF X o R tm h = some (v, h')) : GoodN P ρ h w v h' ((execOp a.eval o).run P w) := by
  obtain ⟨hP, hT, hst, hdep⟩ := cx
  unfold opF at hf
  have hs : ∀ cs b, o.op ≠ .select cs b := fun cs b e => by rw [e] at ho; cases ho
  have hflat := fun {v h'} => flatNext hr ht hok hs (v := v) (h' := h')
  rw [hP] at hf
  have hexec : (execOp a.eval o).run P w = (builtin b c.argTypes o.type (c.args.map fun | .const _ => true | _ => false) (c.args.map a.eval)).run P w := by
    unfold execOp; rw [ho]
    simp only [resolve, hb, Sem.run_bind, Sem.run_pure, Result.andThen_ok, invoke]
    rfl
  have harg : ∀ x ∈ c.args.toList, okOpd P.globals.size x = true := fun x hx => hok x (by rw [ho]; simp [Op.operands, Call.operands, hb]; simpa using hx)
  rw [ho] at hf
  simp only [hb] at hf
  split at hf
  · -- len
    rename_i x t hx ht'
    have hx := arr1 hx
    have ht' := arr1 ht'
    obtain ⟨i, hi, hf⟩ := app_bind hf
    have hxo := harg x (by rw [hx]; simp)
    have hdef : (execOp a.eval o).run P w = (do pure (Next.value (← Builtin.len_ #[t] o.type #[a.eval x])) : Sem Next).run P w := by
      rw [hexec, hx, ht']; simp only [List.map_toArray, List.map_cons, List.map_nil]; rfl
    split at hf
    · rename_i e hu
      rw [hdef]; exact (lenS_ok hr hT ht hi hu hxo o.type hf).next hr
    · rename_i hu
      rw [hdef]; exact (lenT_ok hr hT ht hi hu hxo o.type hf).next hr
    · rename_i kt e hu
      rw [hdef]; exact (lenM_ok hr hT ht hi hu hxo o.type hf).next hr
    · rename_i n e hu
      rw [hdef]
      cases hf
      obtain ⟨info, h1, h2, h3, h4, h5⟩ := hT t i hi
      rw [hu] at h2
      refine PureV.next hr ⟨rfl, _, ?_, .int _ _⟩
      simp [Builtin.len_, run_underlying P w h2, goInt]
    · rename_i arr hu
      obtain ⟨k, hk, hf⟩ := app_bind hf
      split at hf
      · rename_i n e hku
        rw [hdef]
        cases hf
        obtain ⟨info, h1, h2, h3, h4, h5⟩ := hT t i hi
        obtain ⟨infk, k1, k2, k3, k4, k5⟩ := hT arr k hk
        rw [hu] at h2
        rw [hku] at k2
        refine PureV.next hr ⟨rfl, _, ?_, .int _ _⟩
        simp [Builtin.len_, run_underlying P w h2, run_underlying P w k2, goInt]
      · cases hf
    · cases hf
  · -- append
    rename_i x y t u hx ht'
    have hx := arr2 hx
    have ht' := arr2 ht'
    obtain ⟨i, hi, hf⟩ := app_bind hf
    obtain ⟨k, hk, hf⟩ := app_bind hf
    have hxo := harg x (by rw [hx]; simp)
    have hyo := harg y (by rw [hx]; simp)
    have hdef : (execOp a.eval o).run P w = (do pure (Next.value (← Builtin.append_ #[t, u] o.type #[a.eval x, a.eval y])) : Sem Next).run P w := by
      rw [hexec, hx, ht']; simp only [List.map_toArray, List.map_cons, List.map_nil]; rfl
    rw [hdef]
    split at hf
    · rename_i e e2 hu hku
      obtain ⟨j, hj, hf⟩ := app_bind hf
      obtain ⟨z, hz, hf⟩ := app_bind hf
      obtain ⟨hc, hf⟩ := app_cond hf
      exact (append_ok hr hT ht hi hu hj hz (Nat.eq_of_beq_eq_true hc) hk (.inl ⟨e2, hku⟩) hxo hyo hf).next
    · rename_i e hu hku
      obtain ⟨j, hj, hf⟩ := app_bind hf
      obtain ⟨z, hz, hf⟩ := app_bind hf
      obtain ⟨hc, hf⟩ := app_cond hf
      exact (append_ok hr hT ht hi hu hj hz (Nat.eq_of_beq_eq_true hc) hk (.inr hku) hxo hyo hf).next
    · cases hf
  · -- copy
    rename_i x y t l hx ht'
    have hx := arr2 hx
    obtain ⟨i, hi, hf⟩ := app_bind hf
    have hxo := harg x (by rw [hx]; simp)
    have hyo := harg y (by rw [hx]; simp)
    have hdef : (execOp a.eval o).run P w = (do pure (Next.value (← Builtin.copy_ c.argTypes o.type #[a.eval x, a.eval y])) : Sem Next).run P w := by
      rw [hexec, hx]; simp only [List.map_toArray, List.map_cons, List.map_nil]; rfl
    have hts : c.argTypes[0]? = some t := by rw [← Array.getElem?_toList, ht']; rfl
    rw [hdef]
    split at hf
    · rename_i e hu
      obtain ⟨j, hj, hf⟩ := app_map hf
      exact (copy_ok hr hT ht hi hu hj c.argTypes hts o.type hxo hyo hf).next
    · cases hf
  · -- clear
    rename_i x t hx ht'
    have hx := arr1 hx
    have ht' := arr1 ht'
    obtain ⟨i, hi, hf⟩ := app_bind hf
    have hxo := harg x (by rw [hx]; simp)
    have hdef : (execOp a.eval o).run P w = (do pure (Next.value (← Builtin.clear_ #[t] o.type #[a.eval x])) : Sem Next).run P w := by
      rw [hexec, hx, ht']; simp only [List.map_toArray, List.map_cons, List.map_nil]; rfl
    rw [hdef]
    split at hf
    · rename_i e hu
      obtain ⟨j, hj, hf⟩ := app_bind hf
      obtain ⟨z, hz, hf⟩ := app_map hf
      exact (clearS_ok hr hT ht hi hu hj hz o.type hxo hf).next
    · cases hf
  · exact hflat hf
  · exact hflat hf
  · -- unsafe.SliceData
    rename_i x hx
    have hx := arr1 hx
    have hxo := harg x (by rw [hx]; simp)
    have hdef : (execOp a.eval o).run P w = (do pure (Next.value (← Builtin.unsafeSliceData_ c.argTypes o.type #[a.eval x])) : Sem Next).run P w := by
      rw [hexec, hx]; simp only [List.map_toArray, List.map_cons, List.map_nil]; rfl
    rw [hdef]
    exact (usd_ok hr ht c.argTypes o.type hxo hf).next hr
  · -- unsafe.String
    rename_i x n t l hx ht'
    have hx := arr2 hx
    obtain ⟨i, hi, hf⟩ := app_bind hf
    have hxo := harg x (by rw [hx]; simp)
    have hno := harg n (by rw [hx]; simp)
    have hdef : (execOp a.eval o).run P w = (do pure (Next.value (← Builtin.unsafeString_ c.argTypes o.type #[a.eval x, a.eval n])) : Sem Next).run P w := by
      rw [hexec, hx]; simp only [List.map_toArray, List.map_cons, List.map_nil]; rfl
    have hts : c.argTypes[0]? = some t := by rw [← Array.getElem?_toList, ht']; rfl
    rw [hdef]
    split at hf
    · rename_i e hu
      obtain ⟨j, hj, hf⟩ := app_bind hf
      obtain ⟨hc, hf⟩ := app_cond hf
      exact (ustr_ok hr hT ht hi hu hj (Nat.eq_of_beq_eq_true hc) c.argTypes hts o.type hxo hno hf).next
    · cases hf
  · cases hf
end
end Go.Ae
end

section
/-
  AE: forms of the contracts; loops.
-/
namespace Go.Ae

/-- a loop, from its body on -/
def wpLoop (F : Fence) (n : Nat) (P : Program) (c : Code) (Q : Exit → Act → World → Prop) (a : Act) (w : World) : Prop :=
  ∀ (b : Frame) (k : List Item) (cs : List Frame), b.roundOf = F.round → F.fn b.fn → F.room (cs.length + 1 + n) →
    ∃ e a' w', Q e a' w' ∧ ArrivesIn (Machine.fenced P F) P (lone (b.atR a (.code c :: .inLoop c :: k)) cs w) b k cs e a' w'

def wpS (F : Fence) (n : Nat) (P : Program) (c : Code) (Q : Exit → Act → World → Prop) (a : Act) (w : World) : Prop :=
  match c with
  | .loop b => wpLoop F n P b Q a w
  | c => c.wpIn F n P Q a w

section
variable {F : Fence} {n : Nat} {P : Program} {Q : Exit → Act → World → Prop} {a : Act} {w : World}

theorem wpLoop.wpIn {c : Code} (h : wpLoop F n P c Q a w) : (Code.loop c).wpIn F n P Q a w := by
  intro b k cs hro hb hr
  obtain ⟨e, a', w', hq, harr⟩ := h b k cs hro hb hr
  exact ⟨e, a', w', hq, .of_steps (.one (fenced_calm hb hr rfl) stepR_loop) harr⟩

theorem wpS.wpIn {c : Code} (h : wpS F n P c Q a w) : c.wpIn F n P Q a w := by
  unfold wpS at h
  split at h
  · exact wpLoop.wpIn h
  · exact h

theorem wpLoop_step {c : Code} (h : c.wpIn F n P (Exit.then (wpLoop F n P c Q) Q) a w) : wpLoop F n P c Q a w := by
  intro b k cs hro hb hr
  obtain ⟨e, a₁, w₁, hq, harr⟩ := h b (.inLoop c :: k) cs hro hb hr
  cases e with
  | normal =>
    obtain ⟨e₂, a₂, w₂, hq₂, harr₂⟩ := hq b k cs hro hb hr
    exact ⟨e₂, a₂, w₂, hq₂, .of_steps (StepsIn.trans harr (.one (fenced_calm hb hr rfl) stepR_inLoop)) harr₂⟩
  | exit id => exact ⟨_, a₁, w₁, hq, .pass (x := .inLoop c) rfl (fun _ _ => .inl (by simp)) harr⟩
  | goto l => exact ⟨_, a₁, w₁, hq, .pass (x := .inLoop c) rfl (fun _ _ => .inl (by simp)) harr⟩
  | ret => exact ⟨_, a₁, w₁, hq, .pass (x := .inLoop c) rfl (fun _ _ => .inl (by simp)) harr⟩
  | panic ch => exact ⟨_, a₁, w₁, hq, .pass (x := .inLoop c) rfl (fun _ _ => .inl (by simp)) harr⟩
  | outgrown => exact ⟨_, a₁, w₁, hq, .pass (x := .inLoop c) rfl (fun _ _ => .inl (by simp)) harr⟩
end

inductive MarksRel (ρ : Ren) : List Nat → List Deferred → Prop where
  | nil : MarksRel ρ [] []
  | cons {m ms r ds} : ρ m = some r → MarksRel ρ ms ds → MarksRel ρ (m :: ms) ({ target := .collected r.blk, args := #[] } :: ds)

theorem MarksRel.mono {ρ ρ' : Ren} (h : ρ.le ρ') : ∀ {ms ds}, MarksRel ρ ms ds → MarksRel ρ' ms ds
  | _, _, .nil => .nil
  | _, _, .cons a b => .cons (h _ _ a) (b.mono h)

def RoundRel (ρ : Ren) (F : Fence) : Option Nat → Prop
  | none => F.round = none
  | some l => ∃ r, ρ l = some r ∧ F.round = some r.blk

structure FrRel (ρ : Ren) (F : Fence) (fr : Fr) (a : Act) : Prop where
  tm : TmRel ρ fr.tm a.tmps
  marks : MarksRel ρ fr.marks a.defers
  round : RoundRel ρ F fr.round

def exitOf : Ex → Exit
  | .normal => .normal
  | .exit id => .exit id
  | .ret => .ret

def CodeOk (P : Program) (c : Code) (fr : Fr) (h : H) (ex : Ex) (fr' : Fr) (h' : H) : Prop :=
  ∀ (F : Fence) (n : Nat) (ρ : Ren) (a : Act) (w : World) (Q : Exit → Act → World → Prop), FOk F → Rel P ρ h w → FrRel ρ F fr a → okCode P.globals.size a.tmps.size c = true →
    (∀ ρ' a' w', Rel P ρ' h' w' → Ext ρ h w ρ' h' w' → FrRel ρ' F fr' a' → a'.tmps.size = a.tmps.size → Q (exitOf ex) a' w') → wpS F n P c Q a w

/-- what the machine does behind the start of a call -/
def NextOk (F : Fence) (n : Nat) (P : Program) (K : Value → World → Prop) : Result Next → Prop
  | .ok (.value v) w' => K v w'
  | .ok (.enter f args) w' => CallsIn F (n - 1) P f args w' fun e w'' => ∃ v, e = .returned v ∧ K v w''
  | .ok (.round l f tmps assign body) w' => RoundIn F (n - 1) P l f tmps assign body w' fun e w'' => ∃ v, e = .returned v ∧ K v w''
  | _ => False

def CallOk (P : Program) (f : FuncId) (vs : List Value) (h : H) (v : Value) (h' : H) : Prop :=
  ∀ (F : Fence) (n : Nat) (ρ : Ren) (w : World) (vs' : Array Value) (K : Value → World → Prop), FOk F → Rel P ρ h w → VsRel ρ vs vs'.toList →
    (∀ ρ' w' v', Rel P ρ' h' w' → Ext ρ h w ρ' h' w' → VRel ρ' v v' → K v' w') → NextOk F n P K ((callFunc f vs').run P w)

structure RecOk (P : Program) (R : Rec) : Prop where
  code : ∀ c fr h ex fr' h', R.code c fr h = some (ex, fr', h') → CodeOk P c fr h ex fr' h'
  call : ∀ f vs h v h', R.call f vs h = some (v, h') → CallOk P f vs h v h'
end Go.Ae
end

section
/-
  AE: rounds; every operation.
-/
namespace Go.Ae
section
variable {P : Program}

theorem NextOk.upon {F : Fence} (hF : FOk F) {n : Nat} {o : Oper} {a : Act} {next : Act → World → Prop} {Q : Exit → Act → World → Prop} {K : Value → World → Prop} {res : Result Next} (h : NextOk F n P K res) (hK : ∀ v w', K v w' → next (a.put o.dst v) w') : o.uponIn F n P a next Q res := by
  have hd : F.depth.isSome = true → 1 ≤ n := fun e => by rw [hF.depth] at e; cases e
  cases res with
  | ok x w' =>
    cases x <;> first
      | exact hK _ _ h
      | exact ⟨hd, CallsIn.mono h fun e w'' ⟨v, he, hk⟩ => by subst he; exact hK _ _ hk⟩
      | exact ⟨hd, RoundIn.mono h fun e w'' ⟨v, he, hk⟩ => by subst he; exact hK _ _ hk⟩
      | exact h.elim
  | halt x w' => exact h.elim

theorem GoodN.upon {ρ : Ren} {h : H} {w : World} {v : Value} {h' : H} {res : Result Next} (hg : GoodN P ρ h w v h' res) {F : Fence} {n : Nat} {o : Oper} {a : Act} {next : Act → World → Prop} {Q : Exit → Act → World → Prop} (hK : ∀ ρ' w' v', Rel P ρ' h' w' → Ext ρ h w ρ' h' w' → VRel ρ' v v' → next (a.put o.dst v') w') : o.uponIn F n P a next Q res := by
  obtain ⟨v', ρ', w', h1 | ⟨h1, h2⟩, h3, h4, h5⟩ := hg
  · subst h1; exact hK ρ' w' v' h4 h5 h3
  · subst h1 h2; exact hK ρ' w' undef h4 h5 h3

theorem paramsIn_ok {ρ : Ren} : ∀ (ps : List Tmp) (args : List Value) (args' : List Value) (tm tm' : Tr Value) (tmps : Array Value), VsRel ρ args args' → TmRel ρ tm tmps → (∀ p ∈ ps, p < tmps.size) → paramsIn ps args tm = some tm' →
    ps.length = args'.length ∧ TmRel ρ tm' ((ps.zip args').foldl (fun tmps (p : Tmp × Value) => tmps.setIfInBounds p.1 p.2) tmps) ∧ ((ps.zip args').foldl (fun tmps (p : Tmp × Value) => tmps.setIfInBounds p.1 p.2) tmps).size = tmps.size
  | [], _, _, tm, tm', tmps, .nil, ht, _, h => by cases h; exact ⟨rfl, ht, rfl⟩
  | p :: ps, _, _, tm, tm', tmps, .cons v v' vs vs' x y, ht, hp, h => by
    have h : paramsIn ps vs (tm.set p v) = some tm' := h
    obtain ⟨h1, h2, h3⟩ := paramsIn_ok ps vs vs' (tm.set p v) tm' (tmps.setIfInBounds p v') y (ht.set (hp p (by simp)) x) (fun q hq => by rw [Array.size_setIfInBounds]; exact hp q (by simp [hq])) h
    refine ⟨by simp [h1], by simpa using h2, ?_⟩
    simpa using h3
  | [], _, _, _, _, _, .cons .., _, _, h => by cases h
  | _ :: _, _, _, _, _, _, .nil, _, _, h => by cases h

theorem Rel.loopAt {ρ : Ren} {h : H} {w : World} (hr : Rel P ρ h w) {l : Nat} {r : ALoop} (hl : h.tr.get l = some (.loop r)) {r0 : RB} (hρ : ρ l = some r0) : ∃ l', w.heap[r0.blk]? = some (.loop l') ∧ LoopRel P.globals.size ρ r l' := by
  obtain ⟨r1, h1, obj, h2, h3⟩ := hr.dom l _ hl
  rw [hρ] at h1; cases h1
  cases h3 with
  | loop y => exact ⟨_, h2, y⟩

theorem run_getLoop {w : World} {l : Nat} {l' : Loop} (h : w.heap[l]? = some (.loop l')) : (Instr.getLoop l).run P w = .ok l' w := by
  simp [Instr.getLoop, getObj, Sem.run, h]
theorem run_setLoop {w : World} {l : Nat} {l' : Loop} (h : w.heap[l]? = some (.loop l')) (o : Obj) : (setObj l o).run P w = .ok () (putB w l o) := by
  simp [setObj, Sem.run, h, putB]

theorem FOk.inRound {F : Fence} (hF : FOk F) (l : Nat) : FOk (F.inRound l) := ⟨hF.fn, hF.depth⟩
end
end Go.Ae
end
