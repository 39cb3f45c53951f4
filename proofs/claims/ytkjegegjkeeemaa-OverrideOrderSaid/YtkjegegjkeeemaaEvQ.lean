/- Append: the operation. -/
import Derived.Test.YtkjegegjkeeemaaEvO
set_option linter.all false
namespace Go.Proofs.Ytkjegegjkeeemaa.Ev
open Go

variable {P : Program} {β : Bt} {w : World} {h : List AO} {t : Tr} {a : Act} {o : Oper} {R : Type} {K : AV → List AO → Option R} {res : R}

/-- 'append' as the program calls it comes to this. -/
def AppDid (P : Program) (β : Bt) (w : World) (t' ty : TypeId) (x' y' : Value) (v : AV) (h' : List AO) : Prop :=
  ∃ β' w' v', (Builtin.append_ #[t', t'] ty #[x', y']).run P w = .ok v' w' ∧ VR β' w' v v' ∧ HR P β' w' h' ∧ Ext β w β' w'

theorem capOk_iff {n k bytes : Nat} (hc : capOk n k bytes = true) : (n + k) * bytes ≤ 140737488355328 := by
  simpa [capOk, Nat.ble_eq] using hc

theorem appendK_sound (hk : HR P β w h) {lay : AO → Nat × List AO} (hlay : LayOK h lay) {t' ty e : TypeId} {i : TypeInfo} {z : Value} (ht : P.underlying t' = some (.slice e)) (hi : P.info? e = some i) (hz : i.zero = some z)
    (hzs : z.cells.size = i.size) (hs0 : 0 < i.size) (hb0 : 0 < i.bytes) {agg : Bool} {x : AV} {x' : Value} (hx : VR β w x x') {k : Nat} {gy : Nat → AV} (hk0 : 0 < k) {b f c : Nat} (hy : Elems β w i.size k gy (fun q => w.cell? ⟨b, f + q, none⟩))
    (he : appendK e agg i.size i.bytes h x k gy lay K = some res) : ∃ v h', K v h' = some res ∧ AppDid P β w t' ty x' (.slice (some ⟨b, f, none⟩) k c) v h' := by
  obtain ⟨news, n1, n2, n3, n4⟩ := hy.list
  have hnews : ∀ j u, news[j]? = some u → w.cell? ((⟨b, f, none⟩ : Addr).add j) = some u := fun j u hj => by rw [Addr.add_lit]; exact n2 j u hj
  have small : ∀ n, (n + k) * i.bytes ≤ 140737488355328 → n + k ≤ 140737488355328 := fun n hn => Nat.le_trans (Nat.le_mul_of_pos_right _ hb0) hn
  have capGe : ∀ n old, n + k ≤ grownCap w (n + k) old e := fun n old => grownCap_ge w (n + k) old e
  have capMax : ∀ n old, (n + k) * i.bytes ≤ 140737488355328 → grownCap w (n + k) old e ≤ maxLen := fun n old hn => grownCap_le_maxLen w (n + k) old e (by have := small n hn; simp only [maxLen]; omega)
  have nil : ∀ (m : Nat) (h' : List AO) (β' : Bt), x' = .slice none 0 0 → capOk 0 k i.bytes = true → SetAt β β' h h' m (.tok e k) (.tok (some (w.heap.size, grownCap w k 0 e)) k i.size e) →
      (∀ y, β.own[m]? = some y → y.le (.tok (some (w.heap.size, grownCap w k 0 e)) k i.size e)) →
      AppDid P β w t' ty x' (.slice (some ⟨b, f, none⟩) k c) (.arr i.size k (joinG 0 (fun _ => .undef) k gy) (some m)) h' := by
    intro m h' β' hx' hc st hle
    have hc := capOk_iff hc
    rw [Nat.zero_add] at hc
    have hsm := Nat.le_trans (Nat.le_mul_of_pos_right k hb0) hc
    have hr := run_append_nil (P := P) w t' ty e i z ht hi hz ⟨b, f, none⟩ k c news n1 hnews hk0 (by omega) (by omega)
    have := grow_done (n := 0) (k := k) (l := []) (g := fun _ => .undef) hk hs0 hk0 (by simp) (fun i hi => absurd hi (Nat.not_lt_zero _)) n1 n3 (zs := Builtin.zeroCells z.cells (grownCap w k 0 e - k)) (cap := grownCap w k 0 e)
      (obj := .cells (news.toArray ++ Builtin.zeroCells z.cells (grownCap w k 0 e - k)) e) (e := e) (w' := w.drew.alloc (.cells (news.toArray ++ Builtin.zeroCells z.cells (grownCap w k 0 e - k)) e)) (by simp) (by rw [size_zero, hzs, Nat.zero_add]) (by have := capGe 0 0; rwa [Nat.zero_add] at this ⊢)
      (by have := capMax 0 0 (by rw [Nat.zero_add]; exact hc); rwa [Nat.zero_add] at this) ⟨rfl, rfl, rfl, rfl⟩ (by rw [Nat.zero_add]; exact st) (by rw [Nat.zero_add]; exact hle)
    rw [Nat.zero_add] at this
    rw [hx']
    exact ⟨β', _, _, hr, this.2.2, this.1, this.2.1⟩
  unfold appendK at he
  split at he
  · -- nil, a new token
    simp only [VR] at hx
    cases hc : capOk 0 k i.bytes with
    | false => rw [hc] at he; cases he
    | true =>
      rw [hc, cond_true] at he
      refine ⟨_, _, he, ?_⟩
      obtain ⟨β', st, hf⟩ := LayTo.setAt hk (hlay (.tok e k)) (.tok (some (w.heap.size, grownCap w k 0 e)) k i.size e)
      exact nil _ _ β' hx hc st (fun y hy => by rw [hf y hy]; trivial)
  · -- nil, its token
    rename_i tk
    simp only [VR] at hx
    split at he
    · rename_i e' hm
      split at he
      · rename_i hee
        have hee := Nat.eq_of_beq_eq_true hee
        subst hee
        cases hc : capOk 0 k i.bytes with
        | false => rw [hc] at he; cases he
        | true =>
          rw [hc, cond_true] at he
          refine ⟨_, _, he, ?_⟩
          obtain ⟨y, hy', hoy⟩ := hk.get hm
          obtain ⟨cur, s, rfl, _⟩ := hoy
          exact nil _ _ _ hx hc (setAt_set hk hy' _ _) (fun y hy => by rw [hy'] at hy; cases hy; exact .inl hk0)
      · cases he
    · cases he
  · -- a row with its token
    rename_i s' n get tk
    split at he
    · rename_i hss
      have hss := Nat.eq_of_beq_eq_true hss
      subst hss
      split at he
      · rename_i e' m hm
        cases hc : (Nat.beq e' e && Nat.beq m n && Nat.blt 0 n && capOk n k i.bytes) with
        | false => rw [hc] at he; cases he
        | true =>
          rw [hc, cond_true] at he
          simp only [Bool.and_eq_true, Nat.beq_eq, Nat.blt_eq] at hc
          obtain ⟨⟨⟨rfl, rfl⟩, hn0⟩, hc⟩ := hc
          have hc := capOk_iff hc
          refine ⟨_, _, he, ?_⟩
          simp only [VR] at hx
          obtain ⟨hsr, htok⟩ := hx
          obtain ⟨cur, len, s', e'', q1, q2, q3⟩ := htok tk rfl
          obtain ⟨cur', s'', q4, q5⟩ := hk.obj tk _ _ hm q1
          cases q4
          obtain ⟨g, cap, rfl, q6, q7⟩ := q3 hn0 rfl
          subst q7
          obtain ⟨cells, r1, r2, r3, r4, _⟩ := q5
          obtain ⟨base, cap', e1, e2, e3⟩ := SR.elems hsr
          obtain ⟨b', f', e4, e5⟩ := e3 hn0
          rw [q6] at e1
          cases e1
          cases e4
          rw [q6]
          by_cases hroom : m + k ≤ cap
          · obtain ⟨β', a1, a2, a3⟩ := room_done hk hs0 hk0 q1 r1 r4 r3 e5 n1 n3 hroom
            have hle : (m + k) * i.size ≤ cap * i.size := Nat.mul_le_mul_right _ hroom
            rw [Nat.add_mul] at hle
            have hr := run_append_room (P := P) w t' ty e' i ht hi g m cap cells r1 ⟨b, f, none⟩ k c news n1 hnews n4 hroom (by rw [n1, r4]; omega)
            exact ⟨β', _, _, hr, a3, a1, a2⟩
          · obtain ⟨l, l1, l2, l3, _⟩ := e5.list
            have hr := run_append_grow (P := P) w t' ty e' i z ht hi hz ⟨g, 0, none⟩ m cap l l1 (fun j u hj => by rw [Addr.add_lit]; exact l2 j u hj) ⟨b, f, none⟩ k c news n1 hnews (by omega) (by have := small m hc; omega) (growslice_fits (by omega) hc)
            have := grow_done hk hs0 hk0 l1 l3 n1 n3 (zs := Builtin.zeroCells z.cells (grownCap w (m + k) cap e' - (m + k))) (cap := grownCap w (m + k) cap e') (e := e')
              (w' := w.drew.alloc (.cells (l.toArray ++ news.toArray ++ Builtin.zeroCells z.cells (grownCap w (m + k) cap e' - (m + k))) e')) rfl (by rw [size_zero, hzs]) (capGe m cap) (capMax m cap hc) ⟨rfl, rfl, rfl, rfl⟩ (setAt_set hk q1 _ _)
              (fun y hy => by rw [q1] at hy; cases hy; exact .inl (by omega))
            exact ⟨_, _, _, hr, this.2.2, this.1, this.2.1⟩
      · cases he
    · cases he
  · -- a row of the call's own, full
    rename_i m off n cap
    split at he
    · rename_i cs ty' hm
      split at he
      · rename_i vs hvs
        split at he
        · rename_i hcc
          simp only [Bool.and_eq_true, Nat.ble_eq, Nat.beq_eq] at hcc
          obtain ⟨⟨c1, rfl⟩, c3⟩ := hcc
          cases hc : capOk cap k i.bytes with
          | false => rw [hc] at he; cases he
          | true =>
            rw [hc, cond_true] at he
            have hc := capOk_iff hc
            refine ⟨_, _, he, ?_⟩
            simp only [VR] at hx
            obtain ⟨g, hb, e2⟩ := hx
            obtain ⟨b', cs', e3, e4, e5⟩ := hk.obj m _ _ hm hb
            cases e3
            have hE := chunks_sound (VRs.drop off e5) (by simp; omega) hvs c3
            obtain ⟨l, l1, l2, l3, _⟩ := hE.list
            have hcell : ∀ j u, l[j]? = some u → w.cell? ((⟨g, off, none⟩ : Addr).add j) = some u := fun j u hj => by
              have := l2 j u hj
              simp only [List.getElem?_drop] at this
              rw [Addr.add_lit]
              simp only [World.cell?, e4]
              simpa using this
            have hr := run_append_grow (P := P) w t' ty e i z ht hi hz ⟨g, off, none⟩ cap cap l l1 hcell ⟨b, f, none⟩ k c news n1 hnews (by omega) (by have := small cap hc; omega) (growslice_fits (by omega) hc)
            obtain ⟨β', st, hf⟩ := LayTo.setAt hk (hlay (.tok e (cap + k))) (.tok (some (w.heap.size, grownCap w (cap + k) cap e)) (cap + k) i.size e)
            have := grow_done hk hs0 hk0 l1 l3 n1 n3 (zs := Builtin.zeroCells z.cells (grownCap w (cap + k) cap e - (cap + k))) (cap := grownCap w (cap + k) cap e) (e := e)
              (w' := w.drew.alloc (.cells (l.toArray ++ news.toArray ++ Builtin.zeroCells z.cells (grownCap w (cap + k) cap e - (cap + k))) e)) rfl (by rw [size_zero, hzs]) (capGe cap cap) (capMax cap cap hc) ⟨rfl, rfl, rfl, rfl⟩ st
              (fun y hy => by rw [hf y hy]; trivial)
            rw [e2]
            exact ⟨_, _, _, hr, this.2.2, this.1, this.2.1⟩
        · cases he
      · cases he
    · cases he
  · cases he

theorem s_app (hk : HR P β w h) (ht : TR β w t a.tmps) {lay : AO → Nat × List AO} (hlay : LayOK h lay) {ok : Nat → Bool} {e : TypeId} {agg : Bool} {s bytes : Nat} {x y : Opd}
    (hok : okOp P a.tmps.size o.op (.app e agg s bytes x y) = true) (he : ev_app ok t h lay K e agg s bytes x y = some res) : ∃ v h', K v h' = some res ∧ Did P a o β w v h' := by
  simp only [okOp] at hok
  split at hok
  · rename_i args argTypes hop
    split at hok
    · rename_i x' y' t' t'' hargs htys
      simp only [Bool.and_eq_true, Nat.beq_eq] at hok
      obtain ⟨⟨⟨rfl, h1⟩, h2⟩, h3⟩ := hok
      have ea : args = #[x', y'] := Array.toList_inj.1 (by simpa using hargs)
      have et : argTypes = #[t'', t''] := Array.toList_inj.1 (by simpa using htys)
      subst ea et
      split at h3
      · rename_i e1 e2 hu _
        simp only [Bool.and_eq_true, Nat.beq_eq] at h3
        obtain ⟨⟨rfl, _⟩, h3⟩ := h3
        split at h3
        · rename_i i hi
          simp only [Bool.and_eq_true, Nat.beq_eq, Nat.blt_eq] at h3
          obtain ⟨⟨⟨⟨⟨rfl, rfl⟩, _⟩, hs0⟩, hb0⟩, h3⟩ := h3
          split at h3
          · rename_i z hz
            have hzs : z.cells.size = i.size := by simpa using h3
            have hx := opd_sound ht h1
            have hy := opd_sound ht h2
            have fin : ∀ (v : AV) (h' : List AO), AppDid P β w t'' o.type (a.eval x') (a.eval y') v h' → Did P a o β w v h' := by
              rintro v h' ⟨β', w', v', q1, q2, q3, q4⟩
              refine ⟨β', w', v', .inl ?_, q2, q3, q4⟩
              simp only [execOp, hop, resolve, Sem.run_bind, Sem.run_pure, Result.andThen_ok, invoke, builtin, List.map_toArray, List.map_cons, List.map_nil, q1]
            unfold ev_app at he
            split at he
            · split at he
              · rename_i k gy hay
                obtain ⟨base, c, e4, e5⟩ := appArg_sound hk hy hay
                cases hk0 : Nat.beq k 0 with
                | false =>
                  rw [hk0, cond_false] at he
                  have hk0 : 0 < k := by
                    rcases Nat.eq_zero_or_pos k with rfl | h
                    · simp at hk0
                    · exact h
                  obtain ⟨b, f, rfl, e6⟩ := e5 hk0
                  obtain ⟨v, h', q1, q2⟩ := appendK_sound (ty := o.type) (c := c) hk hlay hu hi hz hzs hs0 hb0 hx hk0 e6 he
                  exact ⟨v, h', q1, fin v h' (by rw [e4]; exact q2)⟩
                | true =>
                  rw [hk0, cond_true] at he
                  have hk0 := Nat.eq_of_beq_eq_true hk0
                  subst hk0
                  have nothing : ∀ (bs : Option Addr) (n cap : Nat), a.eval x' = .slice bs n cap → n ≤ cap → K (opnd t x) h = some res → ∃ v h', K v h' = some res ∧ Did P a o β w v h' := by
                    intro bs n cap ex hle hK
                    refine ⟨_, _, hK, fin _ _ ⟨β, w, a.eval x', ?_, hx, hk, Ext.refl β w⟩⟩
                    rw [ex, e4]
                    cases bs <;> cases base <;> simp [Builtin.append_, run_underlying hu, sizeOf, typeInfo, hi, Builtin.lenOf, Builtin.firstCells, hle, storeCells, loadCells, loadCellsFrom]
                  split at he
                  · rename_i tk ex
                    rw [ex] at hx; simp only [VR] at hx
                    exact nothing _ 0 0 hx (Nat.le_refl _) he
                  · rename_i s' n g tk ex
                    have hx' := hx
                    rw [ex] at hx'; simp only [VR] at hx'
                    obtain ⟨bs, cap, e7, e8, _⟩ := SR.elems hx'.1
                    exact nothing _ _ _ e7 e8 he
                  · rename_i m off n cap ex
                    have hx' := hx
                    rw [ex] at hx'; simp only [VR] at hx'
                    obtain ⟨g, _, e7⟩ := hx'
                    split at he
                    · rename_i hle
                      exact nothing _ _ _ e7 (by simpa [Nat.ble_eq] using hle) he
                    · cases he
                  · cases he
              · cases he
            · cases he
          · cases h3
        · cases h3
      · cases h3
    · cases hok
  · cases hok
end Go.Proofs.Ytkjegegjkeeemaa.Ev
