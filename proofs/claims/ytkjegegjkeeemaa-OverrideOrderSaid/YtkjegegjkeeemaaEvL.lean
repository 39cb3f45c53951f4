/- More operations: equality of structs, append. -/
import Derived.Test.YtkjegegjkeeemaaEvJ
set_option linter.all false
namespace Go.Proofs.Ytkjegegjkeeemaa.Ev
open Go

variable {P : Program} {β : Bt} {w : World} {h : List AO} {t : Tr} {a : Act} {o : Oper} {R : Type} {K : AV → List AO → Option R} {res : R}

theorem eqFields_flat (d : Nat) (xs ys : Array Value) : ∀ {fs : List Field} {ks : List Bool} {i : Nat} {as bs : List AV} {b : Bool}, flatFields P fs ks i = true →
    VRs β w as (xs.toList.drop i) → VRs β w bs (ys.toList.drop i) → eqCells ks as bs = some b → (Op.eqFields (d + 1) xs ys fs).run P w = .ok b w
  | [], [], i, as, bs, b, _, _, _, he => by
    unfold eqCells at he
    split at he <;> simp_all [Op.eqFields]
  | [], _ :: _, _, _, _, _, hf, _, _, _ => by simp [flatFields] at hf
  | _ :: _, [], _, _, _, _, hf, _, _, _ => by simp [flatFields] at hf
  | f :: fs, k :: ks, i, as, bs, b, hf, ha, hb, he => by
    simp only [flatFields, Bool.and_eq_true, Nat.beq_eq, bne_iff_ne, ne_eq] at hf
    obtain ⟨⟨⟨rfl, hn⟩, hty⟩, hrest⟩ := hf
    have cut : ∀ {c : AV} {cs : List AV} {zs : Array Value}, VRs β w (c :: cs) (zs.toList.drop f.offset) → ∃ z, zs[f.offset]? = some z ∧ VR β w c z ∧ VRs β w cs (zs.toList.drop (f.offset + 1)) := by
      intro c cs zs hz
      simp only [VRs] at hz
      obtain ⟨z, l, e, h1, h2⟩ := hz
      have hlt : f.offset < zs.toList.length := by
        have := congrArg List.length e; simp at this ⊢; omega
      rw [List.drop_eq_getElem_cons hlt] at e
      simp only [List.cons.injEq] at e
      refine ⟨z, by rw [← e.1]; simp, h1, by rw [e.2]; exact h2⟩
    unfold eqCells at he
    split at he
    · contradiction
    · rename_i ks' j p xs' k' q ys' e1
      simp only [List.cons.injEq] at e1
      obtain ⟨rfl, rfl⟩ := e1
      split at hty
      · rename_i k0 hu
        split at he
        · rename_i hj hr
          have hj := of_decide_eq_true hj
          subst hj
          cases he
          rename_i r
          obtain ⟨z, z1, z2, z3⟩ := cut ha
          obtain ⟨y, y1, y2, y3⟩ := cut hb
          simp only [VR] at z2 y2
          subst z2 y2
          have ih := eqFields_flat d xs ys hrest z3 y3 hr
          have hA : (isAgg f.type).run P w = .ok false w := by simp [isAgg, run_underlying hu]
          simp only [Op.eqFields, ne_eq, hn, not_false_eq_true, if_true, Sem.run_bind, part, hA, Result.andThen_ok, Bool.false_eq_true, if_false, z1, y1, Sem.run_pure, run_equalIn_int w d f.type j k0 p q hu]
          rw [eqI_iff]
          cases p == q with
          | true => simp [ih]
          | false => simp
        · cases he
      · cases hty
      · cases hty
    · rename_i ks' p xs' q ys' e1
      simp only [List.cons.injEq] at e1
      obtain ⟨rfl, rfl⟩ := e1
      split at hty
      · cases hty
      · rename_i hu
        split at he
        · rename_i r hr
          cases he
          obtain ⟨z, z1, z2, z3⟩ := cut ha
          obtain ⟨y, y1, y2, y3⟩ := cut hb
          simp only [VR] at z2 y2
          subst z2 y2
          have ih := eqFields_flat d xs ys hrest z3 y3 hr
          have hA : (isAgg f.type).run P w = .ok false w := by simp [isAgg, run_underlying hu]
          simp only [Op.eqFields, ne_eq, hn, not_false_eq_true, if_true, Sem.run_bind, part, hA, Result.andThen_ok, Bool.false_eq_true, if_false, z1, y1, Sem.run_pure, run_equalIn_bool' w d f.type p q hu]
          cases p == q with
          | true => simp [ih]
          | false => simp
        · cases he
      · cases hty
    · cases he

section
variable (hk : HR P β w h) (ht : TR β w t a.tmps)
include hk ht

theorem s_eqs {neg : Bool} {ks : List Bool} {x y : Opd} (hok : okOp P a.tmps.size o.op (.eqs neg ks x y) = true) (he : ev_eqs t h K neg ks x y = some res) : ∃ v h', K v h' = some res ∧ Did P a o β w v h' := by
  simp only [okOp] at hok
  split at hok
  · rename_i o' t' x' y' _ hop
    simp only [Bool.and_eq_true, decide_eq_true_eq] at hok
    obtain ⟨⟨⟨rfl, h2⟩, h3⟩, h4⟩ := hok
    unfold flatStruct at h4
    split at h4
    · rename_i fs hu
      simp only [Bool.and_eq_true, Bool.not_eq_true'] at h4
      obtain ⟨⟨h5, h6⟩, h7⟩ := h4
      have hx := opd_sound ht h2
      have hy := opd_sound ht h3
      unfold ev_eqs at he
      split at he
      · rename_i xs ys e1 e2
        rw [e1] at hx; rw [e2] at hy
        simp only [VR] at hx hy
        obtain ⟨xs', ex, hx⟩ := hx
        obtain ⟨ys', ey, hy⟩ := hy
        have hfo : P.fieldsOf t' = fs := by simp [Program.fieldsOf, hu]
        have hu' : P.underlying t' = some (.struct (P.fieldsOf t')) := by rw [hfo]; exact hu
        split at he
        · rename_i b hb
          have hE : (Op.equalIn 10000 t' (.agg xs') (.agg ys')).run P w = .ok b w := by
            rw [run_equalIn_struct w 9999 t' xs' ys' hu' h5, hfo]
            exact eqFields_flat 9998 xs' ys' h7 (by simpa using hx) (by simpa using hy) hb
          cases neg with
          | false =>
            refine ⟨_, _, he, did_val hk (v' := .bool b) ?_ (by simp [VR])⟩
            simp only [execOp, hop, Sem.run_bind, ex, ey, run_eqGuard_agg w _ t' x' y' xs' ys' h6, Result.andThen_ok, run_eql_struct, hE, Sem.run_pure]
          | true =>
            refine ⟨_, _, he, did_val hk (v' := .bool (!b)) ?_ (by simp [VR])⟩
            simp only [execOp, hop, Sem.run_bind, ex, ey, run_eqGuard_agg w _ t' x' y' xs' ys' h6, Result.andThen_ok, run_neq_struct, hE, Sem.run_pure]
        · cases he
      · cases he
    · cases h4
  · cases hok
end
end Go.Proofs.Ytkjegegjkeeemaa.Ev
