/- Code, functions, calls: walked. -/
import Derived.Test.YtkjegegjkeeemaaEvY
set_option linter.all false
namespace Go.Proofs.Ytkjegegjkeeemaa.Ev
open Go

section
variable {P : Program} {N : Nat} {R : Type} {K : AE → St → Option R} {res : R}

theorem code_go (hm : P.follows .mixedOrders = true) {E : Env} (hL : CallLaw E.call) (hE : CallOK P E.call) {ro : Option Nat} (hro : E.round = none → ro = none) {n : Nat} :
    ∀ (c : MC) (code : Code) (K : AE → St → Option R) (β : Bt) (w : World) (st : St) (a : Act), okCode P N c code = true → Rel P N β w st a → evalCode E c K st = some res → code.wpIn (FF ro) n P (PostC P N β w K res) a w
  | .skip, code, K, β, w, st, a, hok, r, he => by
    cases code with
    | skip => exact wpIn_skip ⟨.norm, rfl, β, st, he, r, Ext.refl β w⟩
    | _ => simp [okCode] at hok
  | .region ms, code, K, β, w, st, a, hok, r, he => by
    cases code with
    | region id ops open_ =>
      cases open_ with
      | true => simp [okCode] at hok
      | false =>
        refine wpIn_region ?_
        rw [List.range_eq_range', show ops.size = ops.toList.length by simp]
        exact ops_go hE ms ops.toList 0 β w st a (fun j => by simp) hok r he (fun a' w' h => ⟨.norm, rfl, h⟩)
    | _ => simp [okCode] at hok
  | .draw ds, code, K, β, w, st, a, hok, r, he => by
    cases code with
    | region id ops open_ =>
      cases open_ with
      | false => simp [okCode] at hok
      | true =>
        simp only [okCode, Bool.and_eq_true] at hok
        have D := drawOK hok.1 hok.2
        refine wpIn_region_any hm ?_
        have he : evalDraw E st.h.length K ds ⟨st.t, st.d, st.h ++ List.replicate ds.length .free⟩ = some res := he
        obtain ⟨k1, k2⟩ := HR.frees r.h ds.length
        have e1 : Ext β w ⟨β.out, β.own ++ List.replicate ds.length .free⟩ { w with drawn := w.drawn + 1 } := k2.trans (Ext.same _ rfl rfl rfl rfl)
        have r1 : Rel P N ⟨β.out, β.own ++ List.replicate ds.length .free⟩ { w with drawn := w.drawn + 1 } ⟨st.t, st.d, st.h ++ List.replicate ds.length .free⟩ a :=
          ⟨r.t.ext e1, r.d.ext e1, HR.same k1 rfl rfl rfl rfl, r.n⟩
        refine draw_go (base := st.h.length) hL hE D ops.size ds _ _ _ _ a D.len (left_all D) (fun d hd => ?_) r1 he (fun a' w' h => ⟨.norm, rfl, h.trans e1⟩)
        have hlt : d.no < ds.length := (List.getElem?_eq_some_iff.1 (draw_at D hd)).1
        show (st.h ++ List.replicate ds.length .free)[st.h.length + d.no]? = some .free
        rw [List.getElem?_append_right (by omega), Nat.add_sub_cancel_left, List.getElem?_replicate, if_pos hlt]
    | _ => simp [okCode] at hok
  | .seq x y, code, K, β, w, st, a, hok, r, he => by
    cases code with
    | seq x' y' =>
      simp only [okCode, Bool.and_eq_true] at hok
      have he : evalCode E x (kSeq (evalCode E y K) K) st = some res := he
      refine wpIn_seq (wpIn_mono (code_go hm hL hE hro x x' _ β w st a hok.1 r he) fun e a' w' h => ?_)
      obtain ⟨ae, rfl, β', st', h1, h2, h3⟩ := h
      cases ae with
      | norm => exact wpIn_mono (code_go hm hL hE hro y y' K β' w' st' a' hok.2 h2 h1) (fun _ _ _ h => h.trans h3)
      | ret => exact ⟨.ret, rfl, β', st', h1, h2, h3⟩
      | exit id => exact ⟨.exit id, rfl, β', st', h1, h2, h3⟩
    | _ => simp [okCode] at hok
  | .cond c x y, code, K, β, w, st, a, hok, r, he => by
    cases code with
    | cond c' x' y' =>
      simp only [okCode, Bool.and_eq_true] at hok
      obtain ⟨⟨hc, hx⟩, hy⟩ := hok
      have he : evCond c (evalCode E x) (evalCode E y) K st = some res := he
      cases c with
      | c v => cases he
      | f id => cases he
      | t p =>
        have hv := opd_sound r.t (by rw [r.n]; exact hc)
        cases c' with
        | tmp i =>
          obtain ⟨h1, h2⟩ := okT_iff.1 hc
          subst h1
          simp only [evCond] at he
          simp only [opnd] at hv
          have hv0 : a.eval (.tmp (slot p)) = a.tmps.getD (slot p) undef := rfl
          cases hp : st.t.get p with
          | bool b =>
            rw [hp] at he hv
            simp only [VR] at hv
            refine wpIn_cond hv ?_
            have rel : ∀ b', b' = b → Rel P N β w ⟨st.t.set p (.bool b'), st.d, st.h⟩ a := fun b' e => ⟨TR.forget r.t p (by subst e; simp only [VR]; rw [← hv0]; exact hv), r.d, r.h, r.n⟩
            cases b with
            | true => exact code_go hm hL hE hro x x' K β w _ a hx (rel _ rfl) he
            | false => exact code_go hm hL hE hro y y' K β w _ a hy (rel _ rfl) he
          | _ => rw [hp] at he; cases he
        | _ => cases hc
    | _ => simp [okCode] at hok
  | .block id x, code, K, β, w, st, a, hok, r, he => by
    cases code with
    | block id' x' =>
      simp only [okCode, Bool.and_eq_true, Nat.beq_eq] at hok
      obtain ⟨rfl, hx⟩ := hok
      have he : evalCode E x (kBlock id' K) st = some res := he
      refine wpIn_block (wpIn_mono (code_go hm hL hE hro x x' _ β w st a hx r he) fun e a' w' h => ?_)
      obtain ⟨ae, rfl, β', st', h1, h2, h3⟩ := h
      cases ae with
      | norm => exact ⟨.norm, rfl, β', st', h1, h2, h3⟩
      | ret => exact ⟨.ret, rfl, β', st', h1, h2, h3⟩
      | exit i =>
        simp only [kBlock] at h1
        show (if i = id' then _ else _)
        split at h1
        · rename_i hb
          rw [Nat.beq_eq] at hb
          rw [if_pos hb]; exact ⟨.norm, rfl, β', st', h1, h2, h3⟩
        · rename_i hb
          rw [if_neg (fun e => by subst e; rw [Nat.beq_refl] at hb; cases hb)]; exact ⟨.exit i, rfl, β', st', h1, h2, h3⟩
    | _ => simp [okCode] at hok
  | .loop dp ks x, code, K, β, w, st, a, hok, r, he => by
    cases code with
    | loop x' =>
      simp only [okCode] at hok
      have he : loopN dp ks st.h.length (evalCode E x) K E.fuel (clean dp ks st.h.length st) = some res := he
      have hlen : β.own.length ≤ st.h.length := by rw [r.h.len]; exact Nat.le_refl _
      let J : Nat → Act → World → Prop := fun j a' w' => ∃ β' st', loopN dp ks st.h.length (evalCode E x) K j st' = some res ∧ Rel P N β' w' st' a' ∧ Ext β w β' w'
      have h0 : J E.fuel a w := by
        obtain ⟨β', h1, h2⟩ := clean_sound r (Ext.refl β w) hlen dp ks
        exact ⟨β', _, he, h1, h2⟩
      refine wpIn_loop (fun a' w' => ∃ j, J j a' w') (fun a' w' => leastOf (fun j => J j a' w')) ⟨_, h0⟩ (fun a' w' hI => ?_)
      obtain ⟨hJ, hmin⟩ := leastOf_spec hI
      generalize hj : leastOf (fun j => J j a' w') = j at hJ
      cases j with
      | zero => obtain ⟨β', st', h1, _, _⟩ := hJ; cases h1
      | succ j =>
        obtain ⟨β', st', h1, h2, h3⟩ := hJ
        have h1 : evalCode E x (kLoop dp ks st.h.length (loopN dp ks st.h.length (evalCode E x) K j) K) st' = some res := h1
        refine wpIn_mono (code_go hm hL hE hro x x' _ β' w' st' a' hok h2 h1) fun e a'' w'' h => ?_
        obtain ⟨ae, rfl, β'', st'', k1, k2, k3⟩ := h
        cases ae with
        | norm =>
          obtain ⟨β3, c1, c2⟩ := clean_sound k2 (h3.trans k3) hlen dp ks
          have hJ' : J j a'' w'' := ⟨β3, _, k1, c1, c2⟩
          exact ⟨⟨j, hJ'⟩, Nat.lt_succ_of_le ((leastOf_spec (p := fun j => J j a'' w'') ⟨j, hJ'⟩).2 j hJ')⟩
        | ret => exact ⟨.ret, rfl, β'', st'', k1, k2, h3.trans k3⟩
        | exit id => exact ⟨.exit id, rfl, β'', st'', k1, k2, h3.trans k3⟩
    | _ => simp [okCode] at hok
  | .rangeF f dp out lv ps asg body, code, K, β, w, st, a, hok, r, he => by
    have he : evRange E f dp out lv ps asg body K st = some res := he
    cases hr : E.round with
    | some l => unfold evRange at he; rw [hr] at he; cases he
    | none =>
      rw [hro hr]
      exact range_go hE r hok hr he
  | .exit id, code, K, β, w, st, a, hok, r, he => by
    cases code with
    | exit id' =>
      simp only [okCode, Nat.beq_eq] at hok
      subst hok
      exact wpIn_exit ⟨.exit id', rfl, β, st, he, r, Ext.refl β w⟩
    | _ => simp [okCode] at hok
  | .ret, code, K, β, w, st, a, hok, r, he => by
    cases code with
    | ret => exact wpIn_ret ⟨.ret, rfl, β, st, he, r, Ext.refl β w⟩
    | _ => simp [okCode] at hok
end

/-! ### A function's end -/
section
variable {P : Program} {N : Nat} {β : Bt} {w : World} {h : List AO}
theorem load_sound (hk : HR P β w h) {agg : Bool} {s : Nat} {t' : TypeId} (h1 : isAggT P t' = agg) (h2 : (P.underlying t').isSome = true) (h3 : sizeIs P t' s = true) {p : AV} {x : Value} (hx : VR β w p x) {v : AV} (hv : load agg s h p = some v) :
    ∃ v', (asAddr x).run P w = .ok (match x with | .pointer (some a) => a | _ => default) w ∧ (loadVar t' (match x with | .pointer (some a) => a | _ => default)).run P w = .ok v' w ∧ VR β w v v' := by
  obtain ⟨i, hi, rfl⟩ := sizeIs_iff h3
  obtain ⟨d, hd⟩ := Option.isSome_iff_exists.1 h2
  unfold load at hv
  split at hv
  · rename_i n off
    simp only [VR] at hx
    obtain ⟨b, hb, e2⟩ := hx
    split at hv
    · rename_i cs ty hn
      obtain ⟨b', cs', e3, e4, e5⟩ := hk.obj n _ _ hn hb
      cases e3
      obtain ⟨v', r1, r2⟩ := run_loadVar_at (P := P) hi hd h1 e5 (b := b) (f := 0) (off := off) (fun j y hj => by
        have : cs'[j]? = some y := by simpa using hj
        simp [World.cell?, e4, this]) hv
      rw [Nat.zero_add] at r1
      subst e2
      exact ⟨v', by simp [asAddr], r1, r2⟩
    · cases hv
  · rename_i cs off
    simp only [VR, SR] at hx
    obtain ⟨b, f, cs', e2, h5, h6⟩ := hx
    obtain ⟨v', r1, r2⟩ := run_loadVar_at (P := P) hi hd h1 (SRs.vr _ _ h5) (b := b) (f := f) (off := off) (fun j y hj => (h6 j y hj).1) hv
    subst e2
    exact ⟨v', by simp [asAddr], r1, r2⟩
  · cases hv

theorem results_go {st : St} {tmps : Array Value} (ht : TR β w st.t tmps) (hk : HR P β w st.h) (hN : tmps.size = N) : ∀ {rs : List ResultVar} {qs : List (Pth × Option (Bool × Nat))} {vs : List AV}, okResults P N rs qs = true → results st qs = some vs →
    ∃ xs : List Value, (rs.mapM (m := Sem) fun
      | .tmp t => pure (tmps.getD t undef)
      | .cell a t => do loadVar t (← asAddr (tmps.getD a undef))).run P w = .ok xs w ∧ VRs β w vs xs
  | [], [], vs, _, he => by
    cases he
    exact ⟨[], rfl, by simp [VRs]⟩
  | [], _ :: _, _, hok, _ => by cases hok
  | .tmp t :: rs, [], _, hok, _ => by cases hok
  | .cell a t :: rs, [], _, hok, _ => by cases hok
  | .tmp t :: rs, (p, some q) :: qs, vs, hok, he => by simp [okResults] at hok
  | .cell a t :: rs, (p, none) :: qs, vs, hok, he => by simp [okResults] at hok
  | .tmp t :: rs, (p, none) :: qs, vs, hok, he => by
    simp only [okResults, Bool.and_eq_true] at hok
    obtain ⟨h1, h2⟩ := okT_iff.1 hok.1
    subst h1
    simp only [results] at he
    split at he
    · rename_i vs' hr
      cases he
      obtain ⟨xs, k1, k2⟩ := results_go ht hk hN hok.2 hr
      refine ⟨tmps.getD (slot p) undef :: xs, ?_, by simp only [VRs]; exact ⟨_, _, rfl, ht p (by rw [hN]; exact h2), k2⟩⟩
      simp only [List.mapM_cons, Sem.run_bind, Sem.run_pure, Result.andThen_ok, k1]
    · cases he
  | .cell a t :: rs, (p, some (agg, s)) :: qs, vs, hok, he => by
    simp only [okResults, Bool.and_eq_true, eqB_iff] at hok
    obtain ⟨⟨⟨⟨h0, h1⟩, h2⟩, h3⟩, h4⟩ := hok
    obtain ⟨e1, e2⟩ := okT_iff.1 h0
    subst e1
    simp only [results] at he
    split at he
    · rename_i v vs' hv hr
      cases he
      obtain ⟨xs, k1, k2⟩ := results_go ht hk hN h4 hr
      obtain ⟨v', q1, q2, q3⟩ := load_sound hk h1 h2 h3 (ht p (by rw [hN]; exact e2)) hv
      refine ⟨v' :: xs, ?_, by simp only [VRs]; exact ⟨_, _, rfl, q3, k2⟩⟩
      simp only [List.mapM_cons, Sem.run_bind, q1, q2, Sem.run_pure, Result.andThen_ok, k1]
    · cases he
end
end Go.Proofs.Ytkjegegjkeeemaa.Ev
