/- Code, walked. -/
import Derived.Test.YtkjegegjkeeemaaEvX
import Derived.RangeFuncRecord
set_option linter.all false
namespace Go.Proofs.Ytkjegegjkeeemaa.Ev
open Go

def exOf : AE → Exit
  | .norm => .normal
  | .ret => .ret
  | .exit id => .exit id
def PostC (P : Program) (N : Nat) (β : Bt) (w : World) {R : Type} (K : AE → St → Option R) (res : R) : Exit → Act → World → Prop :=
  fun e a' w' => ∃ ae, exOf ae = e ∧ After P N β w (K ae) res a' w'

theorem least (p : Nat → Prop) (h : ∃ j, p j) : ∃ j, p j ∧ ∀ i, p i → j ≤ i := by
  obtain ⟨j, hj⟩ := h
  induction j using Nat.strongRecOn with
  | _ j ih =>
    by_cases hx : ∃ i, i < j ∧ p i
    · obtain ⟨i, h1, h2⟩ := hx
      exact ih i h1 h2
    · exact ⟨j, hj, fun i hi => Nat.le_of_not_lt fun hlt => hx ⟨i, hlt, hi⟩⟩
open Classical in
noncomputable def leastOf (p : Nat → Prop) : Nat := if h : ∃ j, p j then Classical.choose (least p h) else 0
theorem leastOf_spec {p : Nat → Prop} (h : ∃ j, p j) : p (leastOf p) ∧ ∀ i, p i → leastOf p ≤ i := by
  unfold leastOf
  rw [dif_pos h]
  exact Classical.choose_spec (least p h)

section
variable {P : Program} {N : Nat} {R : Type} {K : AE → St → Option R} {res : R}

theorem After.trans {β β' : Bt} {w w' : World} {k : St → Option R} {a'' : Act} {w'' : World} (e : Ext β w β' w') (h : After P N β' w' k res a'' w'') : After P N β w k res a'' w'' := by
  obtain ⟨b, s, h1, h2, h3⟩ := h
  exact ⟨b, s, h1, h2, e.trans h3⟩
theorem PostC.trans {β β' : Bt} {w w' : World} (e : Ext β w β' w') {x : Exit} {a'' : Act} {w'' : World} (h : PostC P N β' w' K res x a'' w'') : PostC P N β w K res x a'' w'' := by
  obtain ⟨ae, h1, h2⟩ := h
  exact ⟨ae, h1, h2.trans e⟩

theorem HR.frees {β : Bt} {w : World} {h : List AO} (k : HR P β w h) (m : Nat) : HR P ⟨β.out, β.own ++ List.replicate m .free⟩ w (h ++ List.replicate m .free) ∧ Ext β w ⟨β.out, β.own ++ List.replicate m .free⟩ w := by
  have up : ∀ (n : Nat) (x : Own), β.own[n]? = some x → (β.own ++ List.replicate m Own.free)[n]? = some x := fun n x hx => by
    rw [List.getElem?_append_left (List.getElem?_eq_some_iff.1 hx).1]; exact hx
  have mem : ∀ x, x ∈ β.own ++ List.replicate m Own.free → x ∈ β.own ∨ x = .free := fun x hx => by
    rcases List.mem_append.1 hx with hx | hx
    · exact .inl hx
    · exact .inr (List.eq_of_mem_replicate hx)
  have sf : ∀ b off, safe β b off → safe ⟨β.out, β.own ++ List.replicate m .free⟩ b off := fun b off hs x hx => by
    rcases mem_all.1 hx with hx | hx
    · exact hs x (mem_all.2 (.inl hx))
    · rcases mem x hx with hx | rfl
      · exact hs x (mem_all.2 (.inr hx))
      · trivial
  have e : Ext β w ⟨β.out, β.own ++ List.replicate m .free⟩ w := by
    refine ⟨rfl, fun n x hx => ⟨x, up n x hx, Own.le_refl x⟩, Nat.le_refl _, fun b _ ho => ⟨rfl, fun x hx => ?_⟩, fun b off v hc hs => ⟨hc, sf b off hs⟩, rfl, rfl, rfl⟩
    rcases mem x hx with hx | rfl
    · exact ho x hx
    · simp [Own.blk]
  have cases_at : ∀ (n : Nat) (x : Own), (β.own ++ List.replicate m Own.free)[n]? = some x → β.own[n]? = some x ∨ x = .free := fun n x hx => by
    by_cases hlt : n < β.own.length
    · rw [List.getElem?_append_left hlt] at hx; exact .inl hx
    · rw [List.getElem?_append_right (by omega)] at hx
      exact .inr (List.eq_of_mem_replicate (List.mem_of_getElem? hx))
  refine ⟨⟨by simp [k.len], fun n o x hn hx => ?_, fun n n' x y b hx hy hb hb' => ?_, fun x hx b hb => ?_, fun x hx y hy b hb => ?_⟩, e⟩
  · by_cases hlt : n < β.own.length
    · have hn' : h[n]? = some o := by rw [List.getElem?_append_left (by rw [k.len]; exact hlt)] at hn; exact hn
      have hx' : β.own[n]? = some x := by
        have : (β.own ++ List.replicate m Own.free)[n]? = some x := hx
        rw [List.getElem?_append_left hlt] at this; exact this
      exact OR.ext e (fun _ _ => rfl) (k.obj n o x hn' hx')
    · have h1 : o = .free := by
        rw [List.getElem?_append_right (by rw [k.len]; omega)] at hn
        exact List.eq_of_mem_replicate (List.mem_of_getElem? hn)
      have h2 : x = .free := by
        have : (β.own ++ List.replicate m Own.free)[n]? = some x := hx
        rw [List.getElem?_append_right (by omega)] at this
        exact List.eq_of_mem_replicate (List.mem_of_getElem? this)
      subst h1; subst h2; rfl
  · rcases cases_at n x hx with hx | rfl
    · rcases cases_at n' y hy with hy | rfl
      · exact k.inj n n' x y b hx hy hb hb'
      · cases hb'
    · cases hb
  · rcases mem_all.1 hx with hx | hx
    · exact k.lt x (mem_all.2 (.inl hx)) b hb
    · rcases mem x hx with hx | rfl
      · exact k.lt x (mem_all.2 (.inr hx)) b hb
      · cases hb
  · rcases mem y hy with hy | rfl
    · exact k.sep x hx y hy b hb
    · simp [Own.blk]

/-! ### A range over a function -/
theorem but_putObj (w : World) (r : Nat) (o : Obj) : But w (w.putObj r o) r := ⟨World.putObj_size, fun _ hb => World.putObj_heap_other hb, rfl, rfl, rfl⟩
theorem putObj_at {w : World} {r : Nat} {o o' : Obj} (h : w.heap[r]? = some o') : (w.putObj r o).heap[r]? = some o := World.putObj_heap_same (Array.getElem?_eq_some_iff.1 h).1

def loopOf (w : World) (fn : FuncId) (tmps : Array Value) (ps' : Array Tmp) (asg' body' : Code) : Loop :=
  { state := .ready, pending := none, fn, tmps, params := ps', assign := asg', body := body', defers := w.heap.size }
def rangeW (w : World) (fn : FuncId) (tmps : Array Value) (ps' : Array Tmp) (asg' body' : Code) : World :=
  (w.alloc (.deferred (some []))).alloc (.loop (loopOf w fn tmps ps' asg' body'))

theorem vls_gets {β β' : Bt} {w w' : World} {t : Tr} {a : Act} (ht : TR β w t a.tmps) (e : Ext β w β' w') {lv : List Pth} (hlv : lv.all (fun p => Nat.blt (slot p) a.tmps.size) = true) : VLs β' w' (gets t.get lv) := by
  intro v hv
  obtain ⟨i, hi⟩ := List.mem_iff_getElem?.1 hv
  rw [gets_get] at hi
  cases hp : lv[i]? with
  | none => rw [hp] at hi; cases hi
  | some p =>
    rw [hp] at hi
    simp only [Option.map_some, Option.some.injEq] at hi
    subst hi
    have hlt := List.all_eq_true.1 hlv p (List.mem_of_getElem? hp)
    exact ⟨_, VR.ext e _ _ (ht p (by simpa using hlt))⟩

theorem range_lay {β : Bt} {w : World} {st : St} {a : Act} (r : Rel P N β w st a) {dp : Nat} {lv ps : List Pth} {asg body : MC} {ps' : Array Tmp} {asg' body' : Code} (fn : FuncId)
    (hps : okCode.okPs N ps'.toList ps = true) (hasg : okCode P N asg asg' = true) (hbody : okCode P N body body' = true) (hlv : lv.all (fun p => Nat.blt (slot p) N) = true) :
    ∃ β', HR P β' (rangeW w fn a.tmps ps' asg' body') (st.h ++ [.dfr false] ++ [.loop .ready .none dp lv (gets st.t.get lv) ps asg body]) ∧ Ext β w β' (rangeW w fn a.tmps ps' asg' body') ∧
      β'.own[st.h.length]? = some (.obj w.heap.size) ∧ β'.own[st.h.length + 1]? = some (.obj (w.heap.size + 1)) := by
  have hN := r.n
  subst hN
  obtain ⟨β1, k1, e1, o1⟩ := HR.lay r.h (m := st.h.length) (o := .dfr false) (h2 := st.h ++ [.dfr false]) (.inl ⟨rfl, rfl⟩) (grew_alloc w (.deferred (some []))) (.obj w.heap.size) rfl
    (fun β' _ => ⟨_, rfl, heap_alloc_at _ _⟩)
  have hlen1 : (st.h ++ [AO.dfr false]).length = st.h.length + 1 := by simp
  have hsz : (w.alloc (.deferred (some []))).heap.size = w.heap.size + 1 := size_alloc _ _
  obtain ⟨β2, k2, e2, o2⟩ := HR.lay k1 (m := st.h.length + 1) (o := .loop .ready .none dp lv (gets st.t.get lv) ps asg body) (h2 := st.h ++ [.dfr false] ++ [.loop .ready .none dp lv (gets st.t.get lv) ps asg body]) (.inl ⟨hlen1.symm, rfl⟩)
    (grew_alloc (w.alloc (.deferred (some []))) (.loop (loopOf w fn a.tmps ps' asg' body'))) (.obj (w.heap.size + 1)) (by rw [hsz]; rfl)
    (fun β' e' => ⟨_, fn, a.tmps, ps', asg', body', w.heap.size, rfl, by rw [← hsz]; exact heap_alloc_at _ _, (TR.ext r.t (e1.trans e')).gets dp lv, vls_gets r.t (e1.trans e') hlv, hps, hasg, hbody⟩)
  exact ⟨β2, k2, e1.trans e2, e2.obj o1, o2⟩

theorem range_end {β β2 : Bt} {w w2 w' : World} {st : St} {a : Act} (r : Rel P N β w st a) (e2 : Ext β w β2 w2) {b0 b1 : Nat} (o1 : β2.own[st.h.length]? = some (.obj b0)) (o2 : β2.own[st.h.length + 1]? = some (.obj b1)) {e : Ending} {n : Nat}
    {dp : Nat} {out : List Pth} (hr : CallTo P β2 w2 (fun _ h => kRange ⟨sets (Tr.full .undef dp) out (gets st.t.get out), st.d, st.h⟩ K h) res e w') :
    rangePost Fence.wide n P b1 (PostC P N β w K res) { a with defers := [{ target := .collected b0, args := #[] }] ++ a.defers } e w' := by
  obtain ⟨v, h', β', v', rfl, kk, kv, kh, ke⟩ := hr
  have kk : kRange ⟨sets (Tr.full .undef dp) out (gets st.t.get out), st.d, st.h⟩ K h' = some res := kk
  unfold kRange at kk
  have eT := e2.trans ke
  have ob := ke.obj o2
  split at kk
  · cases kk
  · rename_i ls pend dp' lv' vs' ps2 asg2 bd2 hnb hl
    obtain ⟨b, fn3, tm3, ps3, as3, bd3, df3, e4, hheap, q1, q2, q3⟩ := kh.obj _ _ _ hl ob
    cases e4
    have hbut := but_putObj w' b1 (.loop { state := .exhausted, pending := ajOf pend, fn := fn3, tmps := tm3, params := ps3, assign := as3, body := bd3, defers := df3 })
    obtain ⟨k1, k2⟩ := HR.but kh ob hbut (o := .loop .over pend dp' lv' vs' ps2 asg2 bd2) (fun ex => ⟨b1, fn3, tm3, ps3, as3, bd3, df3, rfl, putObj_at hheap, q1.ext ex, q2.ext ex, q3⟩)
    refine ⟨ajOf pend, _, run_endLoop hheap (by cases ls <;> first | (intro h; cases h; done) | exact (hnb rfl).elim), ?_⟩
    have eF := eT.trans k2
    have rel : Rel P N β' (w'.putObj b1 (.loop { state := .exhausted, pending := ajOf pend, fn := fn3, tmps := tm3, params := ps3, assign := as3, body := bd3, defers := df3 }))
        ⟨sets (Tr.full .undef dp) out (gets st.t.get out), .coll st.h.length :: st.d, h'.set (st.h.length + 1) (.loop .over pend dp' lv' vs' ps2 asg2 bd2)⟩ { a with defers := [{ target := .collected b0, args := #[] }] ++ a.defers } :=
      ⟨(TR.ext r.t eF).gets dp out, ⟨_, _, b0, rfl, rfl, ke.obj o1, r.d.ext eF⟩, k1, r.n⟩
    cases pend with
    | none => exact ⟨.norm, rfl, β', _, kk, rel, eF⟩
    | ret => exact wpIn_ret ⟨.ret, rfl, β', _, kk, rel, eF⟩
    | exit id => exact wpIn_exit ⟨.exit id, rfl, β', _, kk, rel, eF⟩
  · cases kk

theorem range_go {E : Env} (hE : CallOK P E.call) {β : Bt} {w : World} {st : St} {a : Act} (r : Rel P N β w st a) {f : Opd} {dp : Nat} {out lv ps : List Pth} {asg body : MC} {code : Code}
    (hok : okCode P N (.rangeF f dp out lv ps asg body) code = true) (hround : E.round = none) (he : evRange E f dp out lv ps asg body K st = some res) {n : Nat} :
    code.wpIn Fence.wide n P (PostC P N β w K res) a w := by
  cases code with
  | rangeFunc f' ps' asg' body' =>
    simp only [okCode, Bool.and_eq_true] at hok
    obtain ⟨⟨⟨⟨hf, hps⟩, hasg⟩, hbody⟩, hlv⟩ := hok
    unfold evRange at he
    rw [hround] at he
    simp only at he
    split at he
    · rename_i g cs ef
      refine wpIn_rangeFunc fun fn _ => ?_
      obtain ⟨β2, k2, e2, o1, o2⟩ := range_lay r (dp := dp) (lv := lv) fn hps hasg hbody hlv
      have hf' := opd_sound (TR.ext r.t e2) (by rw [r.n]; exact hf)
      rw [ef] at hf'
      have hf0 := hf'
      simp only [VR] at hf0
      obtain ⟨cs', ef', _⟩ := hf0
      have hy : VRs β2 (rangeW w fn a.tmps ps' asg' body') [.yld (st.h.length + 1)] (#[.func (.yield (w.heap.size + 1)) #[] #[]] : Array Value).toList := by
        simp only [VRs, VR]
        exact ⟨_, [], rfl, ⟨_, o2, rfl⟩, rfl⟩
      rcases hE R false _ _ _ _ res β2 _ (a.eval f') #[.func (.yield (w.heap.size + 1)) #[] #[]] he hf' hy k2 with ⟨g', cs'', e3, ⟨fnn, hfn, hb, hname⟩, hc⟩ | ⟨l, f2, tmps, asg2, body2, e3, _⟩
      · have hname' : fnn.name ≠ "runtime.NumGoroutine" := by simpa using hname
        have hb' : fnn.body ≠ none := by cases hfb : fnn.body <;> simp_all
        have q1 : (Instr.enterLoop fn a.tmps ps' asg' body' Fence.wide.round).run P w = .ok (w.heap.size + 1, [{ target := .collected w.heap.size, args := #[] }]) (rangeW w fn a.tmps ps' asg' body') := run_enterLoop_outer fn a.tmps ps' asg' body'
        have q2 : (resolve a.eval (rangeCall f' (w.heap.size + 1)) 0).run P (rangeW w fn a.tmps ps' asg' body') = .ok { target := .fn (.func g') cs'', args := #[] ++ #[.func (.yield (w.heap.size + 1)) #[] #[]] } (rangeW w fn a.tmps ps' asg' body') := by
          have hm : Array.map a.eval #[Operand.const (.func (.yield (w.heap.size + 1)) #[] #[])] = #[.func (.yield (w.heap.size + 1)) #[] #[]] := by simp; rfl
          simp only [resolve, Deferred.ofValue, e3, hm, Sem.run_pure]
        generalize hW : rangeW w fn a.tmps ps' asg' body' = W at *
        have q3 : (invoke (.fn (.func g') cs'') (#[] ++ #[.func (.yield (w.heap.size + 1)) #[] #[]])).run P W = .ok (.enter g' (#[.func (.yield (w.heap.size + 1)) #[] #[]] ++ cs'')) W := by
          simp [invoke, callFunc, hfn, hb', hname']
        have q4 : CallsIn Fence.wide (n - 1) P g' (#[.func (.yield (w.heap.size + 1)) #[] #[]] ++ cs'') W (rangePost Fence.wide n P (w.heap.size + 1) (PostC P N β w K res) { a with defers := [{ target := .collected w.heap.size, args := #[] }] ++ a.defers }) :=
          callsIn_wide.2 (Calls.mono hc fun e w' hr => range_end r e2 o1 o2 hr)
        exact ⟨_, _, _, _, _, _, _, _, q1, q2, fun _ _ => trivial, q3, fun h => by simp [Fence.wide] at h, q4⟩
      · rw [ef'] at e3; cases e3
    · cases he
  | _ => simp [okCode] at hok
end
end Go.Proofs.Ytkjegegjkeeemaa.Ev
