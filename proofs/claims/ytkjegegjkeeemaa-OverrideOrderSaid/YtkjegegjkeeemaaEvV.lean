/- A region whose order is open: what a step looks at, what it changes; two steps that may change places. -/
import Derived.Test.YtkjegegjkeeemaaEvR
import Derived.Test.YtkjegegjkeeemaaEvT
set_option linter.all false
namespace Go.Proofs.Ytkjegegjkeeemaa.Ev
open Go

def layAt (q : Nat) (h : List AO) (x : AO) : Nat × List AO := (q, h.set q x)
def appC (c : Option (Nat × AO)) (h : List AO) : List AO :=
  match c with
  | none => h
  | some (n, o) => h.set n o
def kindOf : Option AO → Bool × Bool × Bool
  | some (.cells ..) => (true, false, false)
  | some (.map ..) => (false, true, false)
  | some (.tok ..) => (false, false, true)
  | _ => (false, false, false)
def Alike (ok : Nat → Bool) (lk : Bool × Bool × Bool) (h h2 : List AO) : Prop := ∀ n : Nat, ok n = true → meets (kindOf h[n]?) lk = true → h2[n]? = h[n]?

/-! ### What it reads -/
section
variable {R : Type}
theorem fill_congr {t t2 : Tr} : ∀ (ps : List (Nat × Nat × Opd)) (cs : List AV), (∀ x ∈ ps.map (·.2.2), opnd t2 x = opnd t x) → fillA t2 cs ps = fillA t cs ps
  | [], _, _ => rfl
  | (off, size, x) :: rest, cs, h => by
    have e := h x (by simp)
    simp only [fillA, e]
    split
    · exact fill_congr rest _ (fun y hy => h y (by simp only [List.map_cons, List.mem_cons]; exact .inr hy))
    · rfl
theorem map_congr' {t t2 : Tr} {xs : List Opd} (h : ∀ x ∈ xs, opnd t2 x = opnd t x) : xs.map (opnd t2) = xs.map (opnd t) := List.map_congr_left h
theorem mo_congr {E : Env} {pure : Bool} {ok : Nat → Bool} {m : MO} {t t2 : Tr} {h : List AO} {lay : AO → Nat × List AO} {K : AV → List AO → Option R} (hr : ∀ x ∈ m.reads, opnd t2 x = opnd t x) :
    evalMO E pure ok m t2 h lay K = evalMO E pure ok m t h lay K := by
  cases m <;> simp only [MO.reads, List.mem_cons, List.mem_nil_iff, or_false, forall_eq_or_imp, forall_eq] at hr <;> simp only [evalMO]
  case mv x => simp only [ev_mv, hr]
  case pick c a b => simp only [ev_pick, hr.1, hr.2.1, hr.2.2]
  case box ty x => simp only [ev_box, hr]
  case build z ps => simp only [ev_build, fill_congr ps z hr]
  case bslice e len z ps => simp only [ev_bslice, fill_congr ps z hr]
  case ld agg s a => simp only [ev_ld, hr]
  case st s a v => simp only [ev_st, hr.1, hr.2]
  case bin op x y => simp only [ev_bin, hr.1, hr.2]
  case eqb neg x y => simp only [ev_eqb, hr.1, hr.2]
  case eqs neg ks x y => simp only [ev_eqs, hr.1, hr.2]
  case not x => simp only [ev_not, hr]
  case neg x => simp only [ev_neg, hr]
  case ins sk m k v => simp only [ev_ins, hr.1, hr.2.1, hr.2.2]
  case look sk z ok' m k => simp only [ev_look, hr.1, hr.2]
  case ext i x => simp only [ev_ext, hr]
  case fld off x => simp only [ev_fld, hr]
  case idx s x i => simp only [ev_idx, hr.1, hr.2]
  case mkfn f caps => simp only [ev_mkfn, map_congr' hr]
  case len x => simp only [ev_len, hr]
  case slen x => simp only [ev_slen, hr]
  case max x y => simp only [ev_max, hr.1, hr.2]
  case app e agg s bytes x y => simp only [ev_app, hr.1, hr.2]
  case call f args => simp only [ev_call, hr.1, map_congr' hr.2]

/-! ### What it looks at, what it changes -/
def ChangeOK (q : Nat) (ok : Nat → Bool) (wr : Bool × Bool × Bool) (h : List AO) (c : Option (Nat × AO)) : Prop :=
  ∀ (n : Nat) (o : AO), c = some (n, o) → n = q ∨ (ok n = true ∧ meets (kindOf h[n]?) wr = true ∧ kindOf (some o) = kindOf h[n]?)
def Frames (q : Nat) (ok : Nat → Bool) (lk wr : Bool × Bool × Bool) (h : List AO) (F : List AO → (AV → List AO → Option R) → Option R) (K : AV → List AO → Option R) (res : R) : Prop :=
  ∃ v c, K v (appC c h) = some res ∧ ChangeOK q ok wr h c ∧ ∀ h2 K', Alike ok lk h h2 → K' v (appC c h2) = some res → F h2 K' = some res

theorem frames_val {q : Nat} {ok : Nat → Bool} {lk wr : Bool × Bool × Bool} {h : List AO} {F : {R : Type} → List AO → (AV → List AO → Option R) → Option R} {K : AV → List AO → Option R} {res : R}
    (hI : ∀ h2 (K' : AV → List AO → Option R), F h2 K' = F h (fun v _ => K' v h2)) (hg : Goes2 (fun {R} K => F (R := R) h K)) (he : F h K = some res) : Frames q ok lk wr h F K res := by
  rw [hI] at he
  obtain ⟨v, h', h1, h2⟩ := Goes2.inv hg (K := fun v _ => K v h) he
  refine ⟨v, none, h1, (by intro n o e; cases e), fun h3 K' _ hk => ?_⟩
  rw [hI]
  exact h2 R (fun v _ => K' v h3) res hk
theorem frames_lay {q : Nat} {ok : Nat → Bool} {lk wr : Bool × Bool × Bool} {h : List AO} {F : List AO → (AV → List AO → Option R) → Option R} {K : AV → List AO → Option R} {res : R} (v : AV) (o : AO)
    (hF : ∀ h2 (K' : AV → List AO → Option R), F h2 K' = K' v (h2.set q o)) (he : F h K = some res) : Frames q ok lk wr h F K res := by
  rw [hF] at he
  refine ⟨v, some (q, o), he, (by intro n o' e; cases e; exact .inl rfl), fun h3 K' _ hk => ?_⟩
  rw [hF]; exact hk

theorem look_cells {ok : Nat → Bool} {lk : Bool × Bool × Bool} {h h2 : List AO} {n : Nat} {cs : List AV} {ty : TypeId} (hA : Alike ok lk h h2) (hl : lk.1 = true) (ho : ok n = true) (hn : h[n]? = some (.cells cs ty)) : h2[n]? = some (.cells cs ty) := by
  rw [← hn]; exact hA n ho (by rw [hn]; simp [kindOf, meets, hl])
theorem look_map {ok : Nat → Bool} {lk : Bool × Bool × Bool} {h h2 : List AO} {n : Nat} {ks vs : List AV} (hA : Alike ok lk h h2) (hl : lk.2.1 = true) (ho : ok n = true) (hn : h[n]? = some (.map ks vs)) : h2[n]? = some (.map ks vs) := by
  rw [← hn]; exact hA n ho (by rw [hn]; simp [kindOf, meets, hl])
theorem look_tok {ok : Nat → Bool} {lk : Bool × Bool × Bool} {h h2 : List AO} {n : Nat} {e : TypeId} {m : Nat} (hA : Alike ok lk h h2) (hl : lk.2.2 = true) (ho : ok n = true) (hn : h[n]? = some (.tok e m)) : h2[n]? = some (.tok e m) := by
  rw [← hn]; exact hA n ho (by rw [hn]; simp [kindOf, meets, hl])

variable {q : Nat} {ok : Nat → Bool} {t : Tr} {h : List AO} {K : AV → List AO → Option R} {res : R}

theorem fr_ld {agg : Bool} {s : Nat} {a : Opd} {wr : Bool × Bool × Bool} (he : ev_ld ok t h K agg s a = some res) : Frames q ok (true, false, false) wr h (fun h2 K' => ev_ld ok t h2 K' agg s a) K res := by
  unfold ev_ld at he
  split at he
  · rename_i hok
    split at he
    · rename_i v hv
      refine ⟨v, none, he, (by intro n o e; cases e), fun h2 K' hA hk => ?_⟩
      show ev_ld ok t h2 K' agg s a = some res
      unfold ev_ld
      have : load agg s h2 (opnd t a) = some v := by
        unfold load at hv ⊢
        split at hv
        · rename_i n o ea
          rw [ea] at hok
          split at hv
          · rename_i cs ty hn
            simp only [ea, look_cells hA rfl hok hn]; exact hv
          · cases hv
        · rename_i cs o ea
          first | exact hv | (simp only [ea]; exact hv)
        · cases hv
      rw [hok, this]
      exact hk
    · cases he
  · cases he

theorem fr_st {s : Nat} {a v : Opd} (he : ev_st ok t h K s a v = some res) : Frames q ok (true, false, false) (true, false, false) h (fun h2 K' => ev_st ok t h2 K' s a v) K res := by
  unfold ev_st at he
  split at he
  · rename_i hok
    split at he
    · rename_i h' hv
      unfold store at hv
      split at hv
      · rename_i n o ea
        rw [ea] at hok
        split at hv
        · rename_i cs ty hn
          split at hv
          · rename_i hc
            cases hv
            refine ⟨_, some (n, .cells (splice cs o (opnd t v).cells) ty), he, ?_, fun h2 K' hA hk => ?_⟩
            · intro n' o' e; cases e
              exact .inr ⟨hok, by rw [hn]; rfl, by rw [hn]; rfl⟩
            · show ev_st ok t h2 K' s a v = some res
              unfold ev_st store
              simp only [ea, hok, look_cells hA rfl hok hn, hc]
              exact hk
          · cases hv
        · cases hv
      · cases hv
    · cases he
  · cases he

theorem findKey_goes {sk : Bool} {key : AV} {ks vs : List AV} {F : Option AV → Option R} (he : findKey sk key F ks vs = some res) :
    ∃ x, F x = some res ∧ ∀ (F' : Option AV → Option R), F' x = some res → findKey sk key F' ks vs = some res := by
  obtain ⟨x, k1, k2⟩ := goes_findKey (β := Option AV) sk key (G := fun x K => K x) (fun x => goes_pure x) ks vs R F res he
  exact ⟨x, k1, fun F' h => k2 R F' res h⟩
theorem fr_ins {sk : Bool} {m k v : Opd} (he : ev_ins ok t h K sk m k v = some res) : Frames q ok (false, true, false) (false, true, false) h (fun h2 K' => ev_ins ok t h2 K' sk m k v) K res := by
  unfold ev_ins at he
  split at he
  · rename_i n em
    split at he
    · rename_i hok
      split at he
      · rename_i ks vs hn
        split at he
        · rename_i hsc
          obtain ⟨x, k1, k2⟩ := findKey_goes he
          cases x with
          | some y => cases k1
          | none =>
            refine ⟨_, some (n, .map (ks ++ [opnd t k]) (vs ++ [opnd t v])), k1, ?_, fun h2 K' hA hk => ?_⟩
            · intro n' o' e; cases e
              exact .inr ⟨hok, by rw [hn]; rfl, by rw [hn]; rfl⟩
            · show ev_ins ok t h2 K' sk m k v = some res
              unfold ev_ins
              simp only [em, hok, look_map hA rfl hok hn, hsc]
              exact k2 _ hk
        · cases he
      · cases he
    · cases he
  · cases he

theorem fr_look {sk : Bool} {z : AV} {ok' : Bool} {m k : Opd} {wr : Bool × Bool × Bool} (he : ev_look ok t h K sk z ok' m k = some res) : Frames q ok (false, true, false) wr h (fun h2 K' => ev_look ok t h2 K' sk z ok' m k) K res := by
  unfold ev_look at he
  split at he
  · rename_i ks vs hm
    obtain ⟨x, k1, k2⟩ := findKey_goes he
    have start : ∀ (h2 : List AO) (K' : AV → List AO → Option R), Alike ok (false, true, false) h h2 → ev_look ok t h2 K' sk z ok' m k = findKey sk (opnd t k) (fun
        | some v => K' (bif ok' then .tup [v, .bool true] else v) h2
        | none => K' (bif ok' then .tup [z, .bool false] else z) h2) ks vs := by
      intro h2 K' hA
      unfold ev_look
      split at hm
      · rename_i n em
        split at hm
        · rename_i hok
          split at hm
          · rename_i ks' vs' hn
            cases hm
            simp only [em, hok, look_map hA rfl hok hn]
            rfl
          · cases hm
        · cases hm
      · rename_i em; cases hm; simp only [em]; rfl
      · rename_i em; cases hm; simp only [em]; rfl
      · cases hm
    cases x with
    | none =>
      refine ⟨_, none, k1, (by intro n o e; cases e), fun h2 K' hA hk => ?_⟩
      show ev_look ok t h2 K' sk z ok' m k = some res
      rw [start h2 K' hA]
      exact k2 _ hk
    | some y =>
      refine ⟨_, none, k1, (by intro n o e; cases e), fun h2 K' hA hk => ?_⟩
      show ev_look ok t h2 K' sk z ok' m k = some res
      rw [start h2 K' hA]
      exact k2 _ hk
  · cases he

theorem appArg_frame {agg : Bool} {s : Nat} {y : AV} {lk : Bool × Bool × Bool} (hl : lk.1 = true) {h2 : List AO} (hA : Alike ok lk h h2) {r : Nat × (Nat → AV)} (he : appArg agg s ok h y = some r) : appArg agg s ok h2 y = some r := by
  unfold appArg at he ⊢
  cases y with
  | slc m o n cap =>
    simp only at he ⊢
    cases hok : ok m with
    | false => rw [hok] at he; cases he
    | true =>
      rw [hok] at he
      simp only at he ⊢
      cases hn : h[m]? with
      | none => rw [hn] at he; cases he
      | some ob =>
        cases ob with
        | cells cs ty => rw [hn] at he; rw [look_cells hA hl hok hn]; exact he
        | _ => rw [hn] at he; cases he
  | nilSl t => exact he
  | arr s' n g t => exact he
  | _ => cases he
theorem bif_none {b : Bool} {x : Option R} (he : (bif b then x else none) = some res) : b = true ∧ x = some res := by
  cases b with
  | true => exact ⟨rfl, he⟩
  | false => cases he

theorem fr_appendK {e : TypeId} {agg : Bool} {s bytes : Nat} {x : AV} {k : Nat} {gy : Nat → AV} (hx : ∀ m, tokOf x = some m → ok m = true) (he : appendK e agg s bytes h x k gy (layAt q h) K = some res) :
    Frames q ok (true, false, true) (false, false, true) h (fun h2 K' => appendK e agg s bytes h2 x k gy (layAt q h2) K') K res := by
  cases x with
  | nilSl tk =>
    cases tk with
    | none =>
      obtain ⟨hc, he⟩ := bif_none he
      refine ⟨_, some (q, .tok e k), he, (by intro n o e; cases e; exact .inl rfl), fun h2 K' _ hk => ?_⟩
      show (bif capOk 0 k bytes then _ else none) = some res
      rw [hc]; exact hk
    | some t' =>
      have hok := hx t' rfl
      unfold appendK at he
      simp only at he
      split at he
      · rename_i e' hn
        split at he
        · rename_i hb
          obtain ⟨hc, he⟩ := bif_none he
          refine ⟨_, some (t', .tok e k), he, ?_, fun h2 K' hA hk => ?_⟩
          · intro n o e2; cases e2
            exact .inr ⟨hok, by rw [hn]; rfl, by rw [hn]; rfl⟩
          · simp only [appendK, look_tok hA rfl hok hn, hb, hc]
            exact hk
        · cases he
      · cases he
  | arr s' n get tk =>
    cases tk with
    | none => cases he
    | some t' =>
      have hok := hx t' rfl
      unfold appendK at he
      simp only at he
      split at he
      · rename_i hs
        split at he
        · rename_i e' m hn
          obtain ⟨hc, he⟩ := bif_none he
          refine ⟨_, some (t', .tok e (n + k)), he, ?_, fun h2 K' hA hk => ?_⟩
          · intro n' o e2; cases e2
            exact .inr ⟨hok, by rw [hn]; rfl, by rw [hn]; rfl⟩
          · simp only [appendK, hs, look_tok hA rfl hok hn, hc]
            exact hk
        · cases he
      · cases he
  | slc m o n cap =>
    have hok := hx m rfl
    unfold appendK at he
    simp only at he
    split at he
    · rename_i cs ty hn
      split at he
      · rename_i vs hvs
        split at he
        · rename_i hb
          obtain ⟨hc, he⟩ := bif_none he
          refine ⟨_, some (q, .tok e (n + k)), he, (by intro n o e; cases e; exact .inl rfl), fun h2 K' hA hk => ?_⟩
          simp only [appendK, look_cells hA rfl hok hn, hvs, hb, hc]
          exact hk
        · cases he
      · cases he
    · cases he
  | _ => cases he

theorem fr_app {e : TypeId} {agg : Bool} {s bytes : Nat} {x y : Opd} (he : ev_app ok t h (layAt q h) K e agg s bytes x y = some res) :
    Frames q ok (true, false, true) (false, false, true) h (fun h2 K' => ev_app ok t h2 (layAt q h2) K' e agg s bytes x y) K res := by
  unfold ev_app at he
  split at he
  · rename_i hok
    have hx : ∀ m, tokOf (opnd t x) = some m → ok m = true := fun m hm => by rw [hm] at hok; exact hok
    split at he
    · rename_i k gy harg
      have start : ∀ (h2 : List AO) (K' : AV → List AO → Option R), Alike ok (true, false, true) h h2 → ev_app ok t h2 (layAt q h2) K' e agg s bytes x y = (bif Nat.beq k 0 then (match opnd t x with
      | .nilSl _ => K' (opnd t x) h2
      | .arr .. => K' (opnd t x) h2
      | .slc _ _ n cap => (match Nat.ble n cap with | true => K' (opnd t x) h2 | false => none)
      | _ => none) else appendK e agg s bytes h2 (opnd t x) k gy (layAt q h2) K') := by
        intro h2 K' hA
        unfold ev_app
        rw [hok, appArg_frame rfl hA harg]
        rfl
      cases hk0 : Nat.beq k 0 with
      | true =>
        rw [hk0] at he
        have fin : ∀ (F : List AO → (AV → List AO → Option R) → Option R), F h K = some res → (∀ (h2 : List AO) (K' : AV → List AO → Option R), Alike ok (true, false, true) h h2 → ev_app ok t h2 (layAt q h2) K' e agg s bytes x y = F h2 K') → (∀ (h2 : List AO) (K' : AV → List AO → Option R), F h2 K' = K' (opnd t x) h2) →
            Frames q ok (true, false, true) (false, false, true) h (fun h2 K' => ev_app ok t h2 (layAt q h2) K' e agg s bytes x y) K res := by
          intro F h1 h2 h3
          rw [h3] at h1
          refine ⟨_, none, h1, (by intro n o e; cases e), fun h4 K' hA hk => ?_⟩
          show ev_app ok t h4 (layAt q h4) K' e agg s bytes x y = some res
          rw [h2 h4 K' hA, h3]; exact hk
        simp only [hk0, cond_true] at start he
        split at he
        · rename_i ex
          exact fin (fun h2 K' => K' (opnd t x) h2) he (fun h2 K' hA => by rw [start h2 K' hA]; simp only [ex]) (fun _ _ => rfl)
        · rename_i ex
          exact fin (fun h2 K' => K' (opnd t x) h2) he (fun h2 K' hA => by rw [start h2 K' hA]; simp only [ex]) (fun _ _ => rfl)
        · rename_i ex
          split at he
          · rename_i hb
            exact fin (fun h2 K' => K' (opnd t x) h2) he (fun h2 K' hA => by rw [start h2 K' hA]; simp only [ex, hb]) (fun _ _ => rfl)
          · cases he
        · cases he
      | false =>
        rw [hk0] at he
        obtain ⟨v, c, k1, k2, k3⟩ := fr_appendK hx he
        refine ⟨v, c, k1, k2, fun h2 K' hA hk => ?_⟩
        show ev_app ok t h2 (layAt q h2) K' e agg s bytes x y = some res
        rw [start h2 K' hA, hk0]
        exact k3 h2 K' hA hk
    · cases he
  · cases he

theorem mo_frame {E : Env} (hE : CallLaw E.call) {m : MO} (he : evalMO E true ok m t h (layAt q h) K = some res) :
    Frames q ok m.looks m.writes h (fun h2 K' => evalMO E true ok m t h2 (layAt q h2) K') K res := by
  have val : (∀ h2 (K' : AV → List AO → Option R), evalMO E true ok m t h2 (layAt q h2) K' = evalMO E true ok m t h (layAt q h) (fun v _ => K' v h2)) → Frames q ok m.looks m.writes h (fun h2 K' => evalMO E true ok m t h2 (layAt q h2) K') K res :=
    fun hI => frames_val (F := fun {R} h2 K' => evalMO (R := R) E true ok m t h2 (layAt q h2) K') hI (goes_evalMO E hE true ok m t h (layAt q h)) he
  cases m with
  | mv x => exact val (fun _ _ => rfl)
  | pick c a b => exact val (fun h2 K' => by simp only [evalMO, ev_pick])
  | alloc ty z => exact frames_lay (F := fun h2 K' => evalMO E true ok (.alloc ty z) t h2 (layAt q h2) K') _ _ (fun _ _ => rfl) he
  | box ty x =>
    simp only [evalMO, ev_box] at he
    split at he
    · rename_i hs
      exact frames_lay (F := fun h2 K' => evalMO E true ok (.box ty x) t h2 (layAt q h2) K') (.ptr q 0) (.cells (opnd t x).cells ty) (fun _ _ => by simp only [evalMO, ev_box, hs]; rfl) (by simp only [evalMO, ev_box, hs]; exact he)
    · cases he
  | build z ps => exact val (fun h2 K' => by simp only [evalMO, ev_build])
  | bslice e len z ps =>
    simp only [evalMO, ev_bslice] at he
    split at he
    · rename_i cs hs
      exact frames_lay (F := fun h2 K' => evalMO E true ok (.bslice e len z ps) t h2 (layAt q h2) K') (.slc q 0 len len) (.cells cs e) (fun _ _ => by simp only [evalMO, ev_bslice, hs]; rfl) (by simp only [evalMO, ev_bslice, hs]; exact he)
    · cases he
  | ld agg s a => exact fr_ld he
  | st s a v => exact fr_st he
  | bin op x y => exact val (fun h2 K' => by simp only [evalMO, ev_bin])
  | eqb neg x y => exact val (fun h2 K' => by simp only [evalMO, ev_eqb])
  | eqs neg n x y => exact val (fun h2 K' => by simp only [evalMO, ev_eqs])
  | not x => exact val (fun h2 K' => by simp only [evalMO, ev_not])
  | neg x => exact val (fun h2 K' => by simp only [evalMO, ev_neg])
  | mkmap => exact frames_lay (F := fun h2 K' => evalMO E true ok .mkmap t h2 (layAt q h2) K') _ _ (fun _ _ => rfl) he
  | ins sk m k v => exact fr_ins he
  | look sk z ok' m k => exact fr_look he
  | ext i x => exact val (fun h2 K' => by simp only [evalMO, ev_ext])
  | fld off x => exact val (fun h2 K' => by simp only [evalMO, ev_fld])
  | idx s x i => exact val (fun h2 K' => by simp only [evalMO, ev_idx])
  | mkfn f caps => exact val (fun h2 K' => rfl)
  | len x => exact val (fun h2 K' => by simp only [evalMO, ev_len])
  | slen x => exact val (fun h2 K' => by simp only [evalMO, ev_slen])
  | max x y => exact val (fun h2 K' => by simp only [evalMO, ev_max])
  | app e agg s bytes x y => exact fr_app he
  | call f args =>
    obtain ⟨v, k1, k2⟩ := hE.still R _ _ h K res he
    exact ⟨v, none, k1, (by intro n o e; cases e), fun h2 K' _ hk => k2 R h2 K' res hk⟩
end
end Go.Proofs.Ytkjegegjkeeemaa.Ev
