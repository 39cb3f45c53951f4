/- More operations: maps, equality of structs, append. -/
import Derived.Test.YtkjegegjkeeemaaEvI
import Derived.Deep.Upon
set_option linter.all false
namespace Go.Proofs.Ytkjegegjkeeemaa.Ev
open Go

variable {P : Program} {β : Bt} {w : World} {h : List AO} {t : Tr} {a : Act} {o : Oper} {R : Type} {K : AV → List AO → Option R} {res : R}

theorem plainKey_iff {kt : TypeId} {str : Bool} (h : plainKey P kt str = true) : (str = true ∧ P.underlying kt = some .string) ∨ (str = false ∧ ∃ k, P.underlying kt = some (.int k)) := by
  unfold plainKey at h
  split at h
  · rename_i k hk; exact .inr ⟨by simpa using h, k, hk⟩
  · rename_i hk; exact .inl ⟨h, hk⟩
  · cases h

theorem findKey_sound {key : AV} {x : Value} (hx : VR β w key x) {str : Bool} {d : TypeDesc} (hd : (str = true ∧ d = .string) ∨ (str = false ∧ ∃ k, d = .int k)) {F : Option AV → Option R} :
    ∀ {ks vs : List AV} {es : List MapEntry} (i : Nat), VRs β w ks (es.map (·.key)) → VRs β w vs (es.map (·.val)) → findKey str key F ks vs = some res →
    (∃ j e v, es[j]? = some e ∧ Instr.findNow d x es i = some (some (i + j, e.val)) ∧ VR β w v e.val ∧ F (some v) = some res) ∨ (Instr.findNow d x es i = some none ∧ F none = some res)
  | [], [], es, i, h1, _, he => by
    right
    simp only [VRs] at h1
    have : es = [] := by simpa using h1
    subst this
    refine ⟨rfl, ?_⟩
    unfold findKey at he
    split at he
    · exact he
    · exact he
    · cases he
  | [], _ :: _, _, _, _, _, he => by simp [findKey] at he
  | _ :: _, [], _, _, _, _, he => by simp [findKey] at he
  | k :: ks, v :: vs, es, i, h1, h2, he => by
    simp only [VRs] at h1 h2
    obtain ⟨y, ys, e1, h3, h4⟩ := h1
    obtain ⟨z, zs, e2, h5, h6⟩ := h2
    cases es with
    | nil => simp at e1
    | cons e es =>
      simp only [List.map_cons, List.cons.injEq] at e1 e2
      obtain ⟨rfl, rfl⟩ := e1
      obtain ⟨rfl, rfl⟩ := e2
      have next : ∀ (b : Bool), Instr.sameNow d x e.key = some b → (bif b then F (some v) else findKey str key F ks vs) = some res →
          (∃ j e' v', (e :: es)[j]? = some e' ∧ Instr.findNow d x (e :: es) i = some (some (i + j, e'.val)) ∧ VR β w v' e'.val ∧ F (some v') = some res) ∨ (Instr.findNow d x (e :: es) i = some none ∧ F none = some res) := by
        intro b hb hF
        cases b with
        | true => exact .inl ⟨0, e, v, rfl, by simp [Instr.findNow, hb], h5, hF⟩
        | false =>
          rcases findKey_sound hx hd (i + 1) h4 h6 hF with ⟨j, e', v', k1, k2, k3, k4⟩ | ⟨k1, k2⟩
          · exact .inl ⟨j + 1, e', v', by simpa using k1, by simp [Instr.findNow, hb, k2]; omega, k3, k4⟩
          · exact .inr ⟨by simp [Instr.findNow, hb, k1], k2⟩
      unfold findKey at he
      split at he
      · rename_i j p k' q
        split at he
        · rename_i hjk
          have hjk := of_decide_eq_true hjk
          subst hjk
          simp only [VR] at hx h3
          refine next (eqI p q) ?_ he
          rcases hd with ⟨hc, _⟩ | ⟨_, k0, rfl⟩
          · cases hc
          · rw [hx, h3]; simp [Instr.sameNow, eqI_iff]
        · cases he
      · rename_i p q
        simp only [VR] at hx h3
        refine next (p == q) ?_ he
        rcases hd with ⟨_, rfl⟩ | ⟨hc, _⟩
        · rw [hx, h3]; simp [Instr.sameNow]
        · cases hc
      · cases he

theorem run_checkKey' {kt : TypeId} {d : TypeDesc} {str : Bool} (hu : P.underlying kt = some d) (hd : (str = true ∧ d = .string) ∨ (str = false ∧ ∃ k, d = .int k)) (empty : Bool) (n : Nat) (x : Value) :
    (Instr.checkKey empty (n + 1) kt x).run P w = .ok () w := by
  unfold Instr.checkKey
  simp only [Sem.run_bind, run_underlying hu, Result.andThen]
  rcases hd with ⟨_, rfl⟩ | ⟨_, k, rfl⟩ <;> cases x <;> rfl

theorem plainKey_desc {kt : TypeId} {str : Bool} (h : plainKey P kt str = true) : ∃ d, P.underlying kt = some d ∧ ((str = true ∧ d = .string) ∨ (str = false ∧ ∃ k, d = .int k)) := by
  rcases plainKey_iff h with ⟨rfl, hk⟩ | ⟨rfl, k, hk⟩
  · exact ⟨_, hk, .inl ⟨rfl, rfl⟩⟩
  · exact ⟨_, hk, .inr ⟨rfl, k, rfl⟩⟩

/-- The entries that a map's value stands for. -/
def EntAt (w : World) (x : Value) (es : Array MapEntry) : Prop := (x = .map none ∧ es = #[]) ∨ ∃ r c, x = .map (some r) ∧ w.heap[r]? = some (.map es c)

theorem run_lookup_found {t' kt e : TypeId} {d : TypeDesc} {str : Bool} (hu : P.underlying t' = some (.map kt e)) (hud : P.underlying kt = some d) (hd : (str = true ∧ d = .string) ∨ (str = false ∧ ∃ k, d = .int k))
    {x kx v : Value} {es : Array MapEntry} (hE : EntAt w x es) {j : Nat} (hf : Instr.findNow d kx es.toList 0 = some (some (j, v))) (ok : Bool) :
    (Instr.lookup t' x kx ok).run P w = .ok (if ok then .tuple #[v, .bool true] else v) w := by
  have hfk : (Instr.findKey kt kx es.toList).run P w = .ok (some (j, v)) w := MapKept.run_findKey hud hf
  rcases hE with ⟨rfl, rfl⟩ | ⟨r, c, rfl, hr⟩
  · simp [Instr.findNow] at hf
  · simp only [Instr.lookup, Sem.run_bind, run_underlying hu, Result.andThen_ok, MapKept.run_getObj_map hr, Sem.run_pure, run_checkKey' hud hd es.isEmpty 9999, hfk]
theorem run_lookup_not {t' kt e : TypeId} {d : TypeDesc} {str : Bool} (hu : P.underlying t' = some (.map kt e)) (hud : P.underlying kt = some d) (hd : (str = true ∧ d = .string) ∨ (str = false ∧ ∃ k, d = .int k))
    {x kx zv : Value} {i : TypeInfo} (hi : P.info? e = some i) (hz : i.zero = some zv) {es : Array MapEntry} (hE : EntAt w x es) (hf : Instr.findNow d kx es.toList 0 = some none) (ok : Bool) :
    (Instr.lookup t' x kx ok).run P w = .ok (if ok then .tuple #[zv, .bool false] else zv) w := by
  have hfk : (Instr.findKey kt kx es.toList).run P w = .ok none w := MapKept.run_findKey hud hf
  rcases hE with ⟨rfl, rfl⟩ | ⟨r, c, rfl, hr⟩
  · simp only [Instr.lookup, Sem.run_bind, run_underlying hu, Result.andThen_ok, Sem.run_pure, run_checkKey' hud hd _ 9999, hfk, run_zeroValue' hi hz]
  · simp only [Instr.lookup, Sem.run_bind, run_underlying hu, Result.andThen_ok, MapKept.run_getObj_map hr, Sem.run_pure, run_checkKey' hud hd es.isEmpty 9999, hfk, run_zeroValue' hi hz]

section
variable (hk : HR P β w h) (ht : TR β w t a.tmps)
include hk ht

theorem s_look {ok : Nat → Bool} {str : Bool} {z : AV} {ok' : Bool} {m k : Opd} (hok : okOp P a.tmps.size o.op (.look str z ok' m k) = true) (he : ev_look ok t h K str z ok' m k = some res) : ∃ v h', K v h' = some res ∧ Did P a o β w v h' := by
  simp only [okOp] at hok
  split at hok
  · rename_i t' m' k' ok'' hop
    simp only [Bool.and_eq_true, eqB_iff] at hok
    obtain ⟨⟨⟨h1, rfl⟩, h3⟩, h4⟩ := hok
    split at h1
    · rename_i kt e hu
      simp only [Bool.and_eq_true] at h1
      obtain ⟨hp, hz⟩ := h1
      obtain ⟨d, hud, hd⟩ := plainKey_desc hp
      have hm := opd_sound ht h3
      have hkk := opd_sound ht h4
      unfold zeroIs at hz
      split at hz
      · rename_i i hi
        split at hz
        · rename_i zv hzv
          have main : ∀ (ks vs : List AV) (es : Array MapEntry), VRs β w ks (es.toList.map (·.key)) → VRs β w vs (es.toList.map (·.val)) → EntAt w (a.eval m') es →
              findKey str (opnd t k) (fun
                | some v => K (bif ok'' then .tup [v, .bool true] else v) h
                | none => K (bif ok'' then .tup [z, .bool false] else z) h) ks vs = some res →
              ∃ v h', K v h' = some res ∧ Did P a o β w v h' := by
            intro ks vs es k1 k2 hE hf
            rcases findKey_sound hkk hd 0 k1 k2 hf with ⟨j, e', v, q1, q2, q3, q4⟩ | ⟨q1, q2⟩
            · refine ⟨_, _, q4, did_val hk (v' := if ok'' then .tuple #[e'.val, .bool true] else e'.val) ?_ ?_⟩
              · simp only [execOp, hop, Sem.run_bind, run_lookup_found hu hud hd hE q2, Result.andThen_ok, Sem.run_pure]
              · cases ok'' <;> simp [VR, VRs, q3]
            · refine ⟨_, _, q2, did_val hk (v' := if ok'' then .tuple #[zv, .bool false] else zv) ?_ ?_⟩
              · simp only [execOp, hop, Sem.run_bind, run_lookup_not hu hud hd hi hzv hE q1, Result.andThen_ok, Sem.run_pure]
              · cases ok'' <;> simp [VR, VRs, repV_sound hz]
          unfold ev_look at he
          split at he
          · rename_i ks vs hkv
            split at hkv
            · rename_i n en
              rw [en] at hm; simp only [VR] at hm
              obtain ⟨b, hb, e2⟩ := hm
              split at hkv
              · split at hkv
                · rename_i ks' vs' hn
                  cases hkv
                  obtain ⟨b', es, c, e3, e4, e5, e6⟩ := hk.obj n _ _ hn hb
                  cases e3
                  exact main _ _ es e5 e6 (.inr ⟨b, c, e2, e4⟩) he
                · cases hkv
              · cases hkv
            · rename_i ks' vs' en
              cases hkv
              rw [en] at hm; simp only [VR, SR] at hm
              obtain ⟨r, es, c, e2, e4, _, e5, e6⟩ := hm
              exact main _ _ es (SRs.vr _ _ e5) (SRs.vr _ _ e6) (.inr ⟨r, c, e2, e4⟩) he
            · rename_i en
              cases hkv
              rw [en] at hm; simp only [VR] at hm
              exact main [] [] #[] (by simp [VRs]) (by simp [VRs]) (.inl ⟨hm, rfl⟩) he
            · cases hkv
          · cases he
        · cases hz
      · cases hz
    · cases h1
  · cases hok

theorem s_ins {ok : Nat → Bool} {str : Bool} {m k x : Opd} (hok : okOp P a.tmps.size o.op (.ins str m k x) = true) (he : ev_ins ok t h K str m k x = some res) : ∃ v h', K v h' = some res ∧ Did P a o β w v h' := by
  simp only [okOp] at hok
  split at hok
  · rename_i t' m' k' x' hop
    simp only [Bool.and_eq_true] at hok
    obtain ⟨⟨⟨h1, h2⟩, h3⟩, h4⟩ := hok
    split at h1
    · rename_i kt e hu
      obtain ⟨d, hud, hd⟩ := plainKey_desc h1
      have hm := opd_sound ht h2
      have hkk := opd_sound ht h3
      have hx := opd_sound ht h4
      unfold ev_ins at he
      split at he
      · rename_i n en
        rw [en] at hm; simp only [VR] at hm
        obtain ⟨b, hb, e2⟩ := hm
        split at he
        · split at he
          · rename_i ks vs hn
            obtain ⟨b', es, c, e3, e4, e5, e6⟩ := hk.obj n _ _ hn hb
            cases e3
            split at he
            · rcases findKey_sound hkk hd 0 e5 e6 he with ⟨j, e', v, q1, q2, q3, q4⟩ | ⟨q1, q2⟩
              · cases q4
              · have hbut : But w { w with heap := w.heap.setIfInBounds b (.map (es.push { key := a.eval k', val := a.eval x', born := c }) (c + 1)) } b :=
                  ⟨by simp, fun b' hb' => by simp [Array.getElem?_setIfInBounds, Ne.symm hb'], rfl, rfl, rfl⟩
                have hlt : b < w.heap.size := (Array.getElem?_eq_some_iff.1 e4).1
                obtain ⟨q3, q4⟩ := HR.but hk hb hbut (o := .map (ks ++ [opnd t k]) (vs ++ [opnd t x])) (fun ex => by
                  refine ⟨b, es.push { key := a.eval k', val := a.eval x', born := c }, c + 1, rfl, by simp [hlt], ?_, ?_⟩
                  · simp only [Array.toList_push, List.map_append, List.map_cons, List.map_nil]
                    exact VRs.append (VRs.ext ex _ _ e5) (by simp only [VRs]; exact ⟨_, _, rfl, VR.ext ex _ _ hkk, rfl⟩)
                  · simp only [Array.toList_push, List.map_append, List.map_cons, List.map_nil]
                    exact VRs.append (VRs.ext ex _ _ e6) (by simp only [VRs]; exact ⟨_, _, rfl, VR.ext ex _ _ hx, rfl⟩))
                refine ⟨_, _, q2, β, _, undef, .inr ⟨?_, rfl⟩, VR_undefTup _ _, q3, q4⟩
                have hfk : (Instr.findKey kt (a.eval k') es.toList).run P w = .ok none w := MapKept.run_findKey hud q1
                simp only [execOp, hop, Instr.mapUpdate, Sem.run_bind, run_underlying hu, Result.andThen_ok, e2, MapKept.run_getObj_map e4, run_checkKey' hud hd false 9999, hfk, MapKept.run_setObj_map _ e4, Sem.run_pure]
            · cases he
          · cases he
        · cases he
      · cases he
    · cases h1
  · cases hok
end
end Go.Proofs.Ytkjegegjkeeemaa.Ev
