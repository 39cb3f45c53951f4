/- One operation of a region, walked: the fences, the calls. -/
import Derived.Test.YtkjegegjkeeemaaEvQ
import Derived.RangeFuncLeaves
import Derived.OrdersIn
set_option linter.all false
namespace Go.Proofs.Ytkjegegjkeeemaa.Ev
open Go

def FF : Option Nat → Fence
  | none => Fence.wide
  | some l => Fence.wide.inRound l
theorem FF_fn (r : Option Nat) (f : FuncId) : (FF r).fn f := by cases r <;> exact trivial
theorem FF_round (r : Option Nat) : (FF r).round = r := by cases r <;> rfl
theorem FF_depth (r : Option Nat) : (FF r).depth.isSome = true → ∀ n : Nat, 1 ≤ n := by cases r <;> (intro h; simp [FF, Fence.wide, Fence.inRound] at h)
theorem callsIn_FF {r : Option Nat} {n : Nat} {P : Program} {f : FuncId} {args : Array Value} {w : World} {R : Ending → World → Prop} : CallsIn (FF r) n P f args w R ↔ Calls P f args w R := by
  cases r with
  | none => exact callsIn_wide
  | some l =>
    have : CallsIn (Fence.wide.inRound l) n P f args w R ↔ CallsIn Fence.wide n P f args w R := Iff.rfl
    exact this.trans callsIn_wide
theorem roundIn_FF {r : Option Nat} {n : Nat} {P : Program} {l : Nat} {f : FuncId} {tmps : Array Value} {asg body : Code} {w : World} {R : Ending → World → Prop} (h : RoundIn Fence.wide n P l f tmps asg body w R) :
    RoundIn (FF r) n P l f tmps asg body w R := by
  cases r with
  | none => exact h
  | some l' => exact h

section
variable {P : Program} {β : Bt} {w : World} {h : List AO} {t : Tr} {a : Act} {o : Oper} {R : Type} {K : AV → List AO → Option R} {res : R}

/-- What a call comes to. -/
def CallTo (P : Program) (β : Bt) (w : World) (K : AV → List AO → Option R) (res : R) (e : Ending) (w' : World) : Prop :=
  ∃ v h' β' v', e = .returned v' ∧ K v h' = some res ∧ VR β' w' v v' ∧ HR P β' w' h' ∧ Ext β w β' w'
def GoesTo (P : Program) (β : Bt) (w : World) (K : AV → List AO → Option R) (res : R) (f' : Value) (args' : Array Value) : Prop :=
  (∃ g cs', f' = .func (.func g) #[] cs' ∧ (∃ fn, P.funcs[g]? = some fn ∧ fn.body.isNone = false ∧ (fn.name == "runtime.NumGoroutine") = false) ∧ Calls P g (args' ++ cs') w (CallTo P β w K res))
  ∨ (∃ l f tmps asg body, f' = .func (.yield l) #[] #[] ∧ (Instr.yield l args').run P w = .ok (.round l f tmps asg body) w ∧ ∀ n, RoundIn Fence.wide n P l f tmps asg body w (CallTo P β w K res))
def CallOK (P : Program) (call : {R : Type} → Bool → AV → List AV → List AO → (AV → List AO → Option R) → Option R) : Prop :=
  ∀ (R : Type) (pure : Bool) (f : AV) (args : List AV) (h : List AO) (K : AV → List AO → Option R) (res : R) (β : Bt) (w : World) (f' : Value) (args' : Array Value),
    call pure f args h K = some res → VR β w f f' → VRs β w args args'.toList → HR P β w h → GoesTo P β w K res f' args'

theorem okOp_defer {N : Nat} {m : MO} {c : Call} : okOp P N (.defer c) m = false := by cases m <;> rfl
theorem okOp_noDefer {N : Nat} {m : MO} {op : Op} (h : okOp P N op m = true) : ∀ c, op ≠ .defer c := by
  intro c e; subst e; rw [okOp_defer] at h; cases h

theorem did_go {v : AV} {h' : List AO} (hd : Did P a o β w v h') (hn : ∀ c, o.op ≠ .defer c) {r : Option Nat} {n : Nat} {next : Act → World → Prop} {Q : Exit → Act → World → Prop}
    (hnext : ∀ β' w' v', VR β' w' v v' → HR P β' w' h' → Ext β w β' w' → next (a.put o.dst v') w') : o.wpIn (FF r) n P a w next Q := by
  obtain ⟨β', w', v', hrun, hv, hk, he⟩ := hd
  refine ⟨fun f _ => FF_fn r f, ?_⟩
  rw [Oper.semAt_eq _ _ _ hn]
  rcases hrun with hrun | ⟨hrun, rfl⟩
  · rw [hrun]; exact hnext _ _ _ hv hk he
  · rw [hrun]; exact hnext _ _ _ hv hk he

theorem call_go (hk : HR P β w h) (ht : TR β w t a.tmps) {E : Env} (hE : CallOK P E.call) {pure : Bool} {f : Opd} {args : List Opd}
    (hok : okOp P a.tmps.size o.op (.call f args) = true) (he : ev_call E pure t h K f args = some res) {r : Option Nat} {n : Nat} {next : Act → World → Prop} {Q : Exit → Act → World → Prop}
    (hnext : ∀ v h' β' w' v', K v h' = some res → VR β' w' v v' → HR P β' w' h' → Ext β w β' w' → next (a.put o.dst v') w') : o.wpIn (FF r) n P a w next Q := by
  have hn := okOp_noDefer hok
  simp only [okOp] at hok
  split at hok
  · rename_i f' args' x hop
    simp only [Bool.and_eq_true] at hok
    have hf := opd_sound ht hok.1
    have hargs := opds_sound ht hok.2
    unfold ev_call at he
    refine ⟨fun f _ => FF_fn r f, ?_⟩
    rw [Oper.semAt_eq _ _ _ hn]
    have hargs' : VRs β w (args.map (opnd t)) (args'.map a.eval).toList := by rw [Array.toList_map]; exact hargs
    rcases hE R pure _ _ h K res β w (a.eval f') (args'.map a.eval) he hf hargs' hk with ⟨g, cs', e1, ⟨fn, hfn, hb, hname⟩, hc⟩ | ⟨l, f2, tmps, asg, body, e1, hy, hr⟩
    · have hrun : (execOp a.eval o).run P w = .ok (.enter g (args'.map a.eval ++ cs')) w := by
        have hname' : fn.name ≠ "runtime.NumGoroutine" := by simpa using hname
        have hb' : fn.body ≠ none := by cases hfb : fn.body <;> simp_all
        simp [execOp, hop, resolve, Deferred.ofValue, e1, invoke, callFunc, hfn, hb', hname']
      rw [hrun, Oper.uponIn_enter]
      refine ⟨fun h => FF_depth r h n, callsIn_FF.2 (Calls.mono hc fun e w' hr => ?_)⟩
      obtain ⟨v, h', β', v', rfl, k1, k2, k3, k4⟩ := hr
      exact hnext v h' β' w' v' k1 k2 k3 k4
    · have hrun : (execOp a.eval o).run P w = .ok (.round l f2 tmps asg body) w := by
        simp [execOp, hop, resolve, Deferred.ofValue, e1, invoke, hy]
      rw [hrun, Oper.uponIn_round]
      refine ⟨fun h => FF_depth r h n, RoundIn.mono (roundIn_FF (hr _)) fun e w' hr => ?_⟩
      obtain ⟨v, h', β', v', rfl, k1, k2, k3, k4⟩ := hr
      exact hnext v h' β' w' v' k1 k2 k3 k4
  · cases hok

theorem mo_go (hk : HR P β w h) (ht : TR β w t a.tmps) {E : Env} (hE : CallOK P E.call) {pure : Bool} {ok : Nat → Bool} {lay : AO → Nat × List AO} (hl : LayOK h lay) {m : MO}
    (hok : okOp P a.tmps.size o.op m = true) (he : evalMO E pure ok m t h lay K = some res) {r : Option Nat} {n : Nat} {next : Act → World → Prop} {Q : Exit → Act → World → Prop}
    (hnext : ∀ v h' β' w' v', K v h' = some res → VR β' w' v v' → HR P β' w' h' → Ext β w β' w' → next (a.put o.dst v') w') : o.wpIn (FF r) n P a w next Q := by
  have hn := okOp_noDefer hok
  have fin : (∃ v h', K v h' = some res ∧ Did P a o β w v h') → o.wpIn (FF r) n P a w next Q := fun ⟨v, h', k1, k2⟩ => did_go k2 hn (fun β' w' v' => hnext v h' β' w' v' k1)
  cases m with
  | mv x => exact fin (s_mv hk ht hok he)
  | pick c a b => exact fin (s_pick hk ht hok he)
  | alloc ty z => exact fin (s_alloc hk ht hl hok he)
  | box ty x => exact fin (s_box hk ht hl hok he)
  | build z ps => exact fin (s_build hk ht hok he)
  | bslice e len z ps => exact fin (s_bslice hk ht hl hok he)
  | ld agg s a => exact fin (s_ld hk ht hok he)
  | st s a v => exact fin (s_st hk ht hok he)
  | bin op x y => exact fin (s_bin hk ht hok he)
  | eqb neg x y => exact fin (s_eqb hk ht hok he)
  | eqs neg n x y => exact fin (s_eqs hk ht hok he)
  | not x => exact fin (s_not hk ht hok he)
  | neg x => exact fin (s_neg hk ht hok he)
  | mkmap => exact fin (s_mkmap hk ht hl hok he)
  | ins sk m k v => exact fin (s_ins hk ht hok he)
  | look sk z ok' m k => exact fin (s_look hk ht hok he)
  | ext i x => exact fin (s_ext hk ht hok he)
  | fld off x => exact fin (s_fld hk ht hok he)
  | idx s x i => exact fin (s_idx hk ht hok he)
  | mkfn f caps => exact fin (s_mkfn hk ht hok he)
  | len x => exact fin (s_len hk ht hok he)
  | slen x => exact fin (s_slen hk ht hok he)
  | max x y => exact fin (s_max hk ht hok he)
  | app e agg s bytes x y => exact fin (s_app hk ht hl hok he)
  | call f args => exact call_go hk ht hE hok he hnext
end

/-! ### A step: guard and operation -/
def DR (β : Bt) : List AD → List Deferred → Prop
  | [], l => l = []
  | .coll r :: ds, l => ∃ d rest b, l = d :: rest ∧ d.target = .collected b ∧ β.own[r]? = some (.obj b) ∧ DR β ds rest
theorem DR.ext {β β' : Bt} {w w' : World} (e : Ext β w β' w') : ∀ {ds : List AD} {l : List Deferred}, DR β ds l → DR β' ds l
  | [], _, h => h
  | .coll _ :: _, _, h => by
    obtain ⟨d, rest, b, h1, h2, h3, h4⟩ := h
    exact ⟨d, rest, b, h1, h2, e.obj h3, DR.ext e h4⟩
structure Rel (P : Program) (N : Nat) (β : Bt) (w : World) (st : St) (a : Act) : Prop where
  t : TR β w st.t a.tmps
  d : DR β st.d a.defers
  h : HR P β w st.h
  n : a.tmps.size = N
def After (P : Program) (N : Nat) (β : Bt) (w : World) {R : Type} (k : St → Option R) (res : R) (a' : Act) (w' : World) : Prop :=
  ∃ β' st', k st' = some res ∧ Rel P N β' w' st' a' ∧ Ext β w β' w'

section
variable {P : Program} {N : Nat} {β : Bt} {w : World} {st : St} {a : Act} {o : Oper} {ops : Array Oper} {R : Type} {res : R}

theorem put_size (a : Act) (d : Option Tmp) (v : Value) : (a.put d v).tmps.size = a.tmps.size := by cases d <;> simp [Act.put]
theorem put_defers' (a : Act) (d : Option Tmp) (v : Value) : (a.put d v).defers = a.defers := by cases d <;> rfl
theorem TR.put {t : Tr} (ht : TR β w t a.tmps) {d : Option Tmp} {p : Option Pth} (hd : okDst a.tmps.size d p = true) {v : AV} {v' : Value} (hv : VR β w v v') : TR β w (putT t p v) (a.put d v').tmps := by
  cases d <;> cases p <;> simp only [okDst] at hd
  · exact ht
  · cases hd
  · cases hd
  · rename_i i p
    obtain ⟨h1, h2⟩ := okT_iff.1 hd
    subst h1
    exact TR.set ht p hv
theorem Rel.put {d : Option Tmp} {p : Option Pth} {t : Tr} {D : List AD} {h' : List AO} {β' : Bt} {w' : World} (ht : TR β w t a.tmps) (hD : DR β D a.defers) (hN : a.tmps.size = N) (e : Ext β w β' w') (hd : okDst N d p = true) {v : AV} {v' : Value} (hv : VR β' w' v v') (hk : HR P β' w' h') :
    Rel P N β' w' ⟨putT t p v, D, h'⟩ (a.put d v') :=
  ⟨TR.put (ht.ext e) (hN ▸ hd) hv, by rw [put_defers']; exact hD.ext e, hk, (put_size a d v').trans hN⟩

theorem step_go {E : Env} (hE : CallOK P E.call) (r : Rel P N β w st a) {i : Nat} (hi : ops[i]? = some o) {m : MOp} (hok : okOper P N ops o m = true) {pure : Bool} {ok : Nat → Bool} {lay : AO → Nat × List AO} (hl : LayOK st.h lay)
    {K : St → Option R} (he : evalStep E pure ok lay m K st = some res) {ro : Option Nat} {n : Nat} {next : Act → World → Prop} {Q : Exit → Act → World → Prop}
    (hnext : ∀ a' w', After P N β w K res a' w' → next a' w') : wpOpIn (FF ro) n P ops Q i next a w := by
  unfold wpOpIn
  simp only [hi]
  simp only [okOper, Bool.and_eq_true] at hok
  obtain ⟨⟨hd, hop⟩, hg⟩ := hok
  have ht := r.t
  have doIt : ∀ t, TR β w t a.tmps → evalDo E pure ok lay m K st t = some res → o.wpIn (FF ro) n P a w next Q := by
    intro t ht' he'
    unfold evalDo at he'
    refine mo_go r.h ht' hE hl (by rw [r.n]; exact hop) he' (fun v h' β' w' v' k1 k2 k3 k4 => hnext _ _ ⟨β', _, k1, Rel.put ht' r.d r.n k4 hd k2 k3, k4⟩)
  have skipIt : ∀ t, TR β w t a.tmps → skipOp m K st t = some res → next (a.put o.dst undef) w := by
    intro t ht' he'
    unfold skipOp at he'
    exact hnext _ _ ⟨β, _, he', Rel.put ht' r.d r.n (Ext.refl β w) hd (VR_undefTup β w) r.h, Ext.refl β w⟩
  cases hog : o.guard with
  | none =>
    cases hmg : m.guard with
    | some x => rw [hog, hmg] at hg; cases hg
    | none =>
      have hw : Region.wanted o (yielded ops a.tmps) = true := by simp [Region.wanted, hog]
      rw [if_pos hw]
      unfold evalStep at he
      rw [hmg] at he
      exact doIt _ ht he
  | some jw =>
    obtain ⟨j, want⟩ := jw
    cases hmg : m.guard with
    | none => rw [hog, hmg] at hg; cases hg
    | some x =>
      obtain ⟨p, want'⟩ := x
      rw [hog, hmg] at hg
      simp only [okGuard, Bool.and_eq_true] at hg
      obtain ⟨hw1, hg⟩ := hg
      have hw1 := eqB_iff.1 hw1
      subst hw1
      split at hg
      · rename_i oj hj
        split at hg
        · rename_i d hdj
          obtain ⟨h1, h2⟩ := okT_iff.1 hg
          subst h1
          have hv := ht p (by rw [r.n]; exact h2)
          have hy : yielded ops a.tmps j = match a.tmps[slot p]? with | some (.bool b) => some b | _ => none := by
            simp only [yielded, hj, Option.bind_some, hdj]
            rfl
          have hget : a.tmps[slot p]? = some (a.tmps.getD (slot p) undef) := by
            have : slot p < a.tmps.size := by rw [r.n]; exact h2
            rw [Array.getD_eq_getD_getElem?, Array.getElem?_eq_getElem this]; rfl
          have hwant : Region.wanted o (yielded ops a.tmps) = (yielded ops a.tmps j == some want) := by
            simp [Region.wanted, hog]
          unfold evalStep at he
          rw [hmg] at he
          simp only at he
          cases htp : st.t.get p with
          | bool b =>
            rw [htp] at he hv
            simp only [VR] at hv
            rw [hv] at hget
            rw [hget] at hy
            simp only at hy
            have hset : ∀ b', b' = b → TR β w (st.t.set p (.bool b')) a.tmps := by
              intro b' e; subst e
              exact TR.forget ht p (by simp only [VR]; exact hv)
            cases want <;> cases b <;> simp [hwant, hy] <;> first | exact doIt _ (hset _ rfl) he | exact ⟨fun f _ => FF_fn ro f, skipIt _ (hset _ rfl) he⟩
          | tup vs =>
            rw [htp] at he hv
            cases vs with
            | cons v vs => cases he
            | nil =>
              simp only [VR] at hv
              obtain ⟨cs', h3, h4⟩ := hv
              have hy' : yielded ops a.tmps j = none := by rw [hy, hget, h3]
              have hw0 : ¬ (Region.wanted o (yielded ops a.tmps) = true) := by rw [hwant, hy']; simp
              rw [if_neg hw0]
              exact ⟨fun f _ => FF_fn ro f, skipIt _ ht he⟩
          | _ => rw [htp] at he; cases he
        · cases hg
      · cases hg

/-- The operations of a region, in the text's order. -/
theorem ops_go {E : Env} (hE : CallOK P E.call) {ro : Option Nat} {n : Nat} {Q : Exit → Act → World → Prop} {K : AE → St → Option R} : ∀ (ms : List MOp) (os : List Oper) (i : Nat) (β : Bt) (w : World) (st : St) (a : Act),
    (∀ j, os[j]? = ops[i + j]?) → okOps P N ops os ms = true → Rel P N β w st a → evalOps E K ms st = some res →
    (∀ a' w', After P N β w (K .norm) res a' w' → Q .normal a' w') → wpOpsIn (FF ro) n P ops Q (List.range' i os.length) a w
  | [], os, i, β, w, st, a, hos, hok, r, he, hQ => by
    cases os with
    | cons o os => cases hok
    | nil => exact hQ _ _ ⟨β, st, he, r, Ext.refl β w⟩
  | m :: ms, os, i, β, w, st, a, hos, hok, r, he, hQ => by
    cases os with
    | nil => cases hok
    | cons o os =>
      simp only [okOps, Bool.and_eq_true] at hok
      have h0 : ops[i]? = some o := (hos 0).symm
      show wpOpsIn _ _ _ _ _ (i :: List.range' (i + 1) os.length) a w
      rw [wpOpsIn_cons]
      refine step_go hE r h0 hok.1 (layEnd_ok _) (K := fun st => evalOps E K ms st) he (fun a' w' h => ?_)
      obtain ⟨β', st', k1, k2, k3⟩ := h
      refine ops_go hE ms os (i + 1) β' w' st' a' (fun j => ?_) hok.2 k2 k1 (fun a'' w'' h => ?_)
      · have := hos (j + 1)
        rw [List.getElem?_cons_succ] at this
        rw [this]; congr 1; omega
      · obtain ⟨β'', st'', q1, q2, q3⟩ := h
        exact hQ _ _ ⟨β'', st'', q1, q2, k3.trans q3⟩
end
end Go.Proofs.Ytkjegegjkeeemaa.Ev
