import Derived.Test.YtbgnifoklhediaaGreatDoorA4
set_option linter.unusedSectionVars false
set_option linter.unusedVariables false
set_option linter.unusedSimpArgs false
section
set_option linter.unusedSectionVars false
namespace Go.Ax
variable [Globs]
variable {ft : FT FnR} {g : Gz}
def keepL : List Nat → Env → Env
  | [], _ => []
  | k :: ks, L => match lk L k with
    | some v => (k, v) :: keepL ks L
    | none => keepL ks L
theorem keepL_sub (L : Env) : ∀ (ks : List Nat), subL L (keepL ks L)
  | [] => subL.nil _
  | k :: ks => by
    simp only [keepL]
    cases h : lk L k with
    | none => exact keepL_sub L ks
    | some v => exact subL.cons h (keepL_sub L ks)
theorem lk_app (B : Env) (s : Nat) : ∀ (A : Env), lk (A ++ B) s = (lk A s).or (lk B s)
  | [] => rfl
  | (k, w) :: A => by
    by_cases hk : k = s
    · subst hk; rw [List.cons_append, lk_eq, lk_eq]; rfl
    · rw [List.cons_append, lk_ne hk, lk_ne hk]; exact lk_app B s A
theorem subL.app {L A B : Env} (ha : subL L A) (hb : subL L B) : subL L (A ++ B) := by
  intro s v e
  rw [lk_app] at e
  cases h : lk A s with
  | none => rw [h] at e; exact hb s v e
  | some w => rw [h] at e; exact ha s v (h.trans e)
theorem subL.skip {L E : Env} {s : Nat} {v : V} (he : lk E s = none) (h : subL L E) : subL ((s, v) :: L) E := by
  intro k w e
  by_cases hk : s = k
  · subst hk; rw [he] at e; cases e
  · rw [lk_ne hk]; exact h k w e
theorem WC.post {cur : Option Nat} {c : ICode} {L : Env} {M : Mem} {K : X → Env → Mem → Prop} (h : WC ft g cur c L M fun x L' M' => ∃ L2 M2 R, subL L' L2 ∧ M'.Perm (R ++ M2) ∧ K x L2 M2) : WC ft g cur c L M K := by
  intro τ hp hl hs
  obtain ⟨n, x, τ', h', L', M', e, l, s, k, L2, M2, R, h1, h2, hK⟩ := h τ hp hl hs
  exact ⟨n, x, τ', h', L2, M2, e, l.sub h1, (s.perm h2).sub (List.sublist_append_right _ _), ⟨k.n, k.keep, fun p hp => k.from_ p (h2.mem_iff.2 (by simp [hp]))⟩, hK⟩
def forCode (blk ci ii ni ti : Nat) (body : ICode) : ICode :=
  .block blk (.loop (.seq (.region [⟨some ci, .bin .lss (.t ii) (.t ni), none⟩]) (.seq (.cond (.t ci) .skip (.exit blk)) (.seq body (.region [⟨some ti, .bin .add (.t ii) (.c (.int .i64 1)), none⟩, ⟨some ii, .mv (.t ti), none⟩])))))
theorem WC.forR {cur : Option Nat} {blk ci ii ni ti : Nat} {body : ICode} {K : X → Env → Mem → Prop} {ι : Type} {L : Env} {M : Mem} {n : Nat} (ks : List Nat) (E : Nat → ι → Env) (J : Nat → ι → Mem → Prop) (a0 : ι)
    (hn : n ≤ 1000000000000) (h0 : lk L ii = some (.int .i64 0)) (hni : ∀ i a, lk (E i a ++ keepL ks L) ni = some (.int .i64 n)) (hii : ∀ i a, lk (E i a ++ keepL ks L) ii = none) (hti : ∀ i a, lk (E i a ++ keepL ks L) ti = none) (hci : ∀ i a, lk (E i a ++ keepL ks L) ci = none)
    (hne : Nat.beq ci ii = false ∧ Nat.beq ti ii = false) (hE : subL L (E 0 a0)) (hJ : J 0 a0 M)
    (hbody : ∀ i a M, i < n → J i a M → WC ft g cur body ((ii, .int .i64 i) :: (E i a ++ keepL ks L)) M (thenC (fun L' M' => ∃ a' M1 R, lk L' ii = some (.int .i64 i) ∧ subL L' (E (i + 1) a' ++ keepL ks L) ∧ M'.Perm (R ++ M1) ∧ J (i + 1) a' M1) (blockK blk K)))
    (hend : ∀ a M, J n a M → K .normal (E n a ++ keepL ks L) M) : WC ft g cur (forCode blk ci ii ni ti body) L M K := by
  have nb : ∀ {a b : Nat}, Nat.beq a b = false → a ≠ b := fun h e => by subst e; rw [Nat.beq_refl] at h; cases h
  have hci2 := nb hne.1
  have hti2 := nb hne.2
  refine WC.post (WC.block ?_)
  refine WC.loop (fun k L' M' => ∃ i a M1 R, k = n - i ∧ i ≤ n ∧ lk L' ii = some (.int .i64 i) ∧ subL L' (E i a ++ keepL ks L) ∧ M'.Perm (R ++ M1) ∧ J i a M1) ?_ (n - 0) L M ⟨0, a0, M, [], rfl, Nat.zero_le _, h0, hE.app (keepL_sub L ks), List.Perm.refl _, hJ⟩
  rintro k L' M' ⟨i, a, M1, R, rfl, hle, h1, h2, hs, h3⟩
  refine WC.permM hs (WC.drop (List.sublist_append_right _ _) (WC.weak (L' := (ii, .int .i64 i) :: (E i a ++ keepL ks L)) (subL.cons h1 h2) ?_))
  have hci' : lk ((ci, V.bool (decide ((i : Int) < n))) :: (ii, .int .i64 i) :: (E i a ++ keepL ks L)) ci = some (.bool (decide ((i : Int) < n))) := lk_eq
  refine WC.seq (WC.region (WO.cons (W1.lss (k := .i64) (a := i) (b := n) lk_eq ?_ (WO.nil ?_))))
  · simp only [lkO]
    by_cases hin : ii = ni
    · exfalso; subst hin; have := hni i a; rw [hii i a] at this; cases this
    · rw [lk_ne hin]; exact hni i a
  refine WC.seq (WC.cond hci' (fun ht => WC.skip ?_) (fun hf => WC.exit ?_))
  · have hlt : i < n := by have := of_decide_eq_true ht; omega
    refine WC.seq (WC.weak (L' := (ii, .int .i64 i) :: (E i a ++ keepL ks L)) (subL.cons (by rw [lk_ne hci2, lk_eq]) (subL.skip (hci i a) (subL.skip (hii i a) fun s v e => e))) (WC.mono (hbody i a M1 hlt h3) fun x L2 M2 => ?_))
    cases x with
    | normal =>
      rintro ⟨a', M3, R3, q1, q2, q3, q4⟩
      refine WC.region (WO.cons (W1.add (a := i) (b := 1) (by simp only [lkO]; exact q1) rfl (by omega) (by omega) (WO.cons (W1.mv (v := .int .i64 ((i : Int) + 1)) (by simp only [lkO]; exact lk_eq) (WO.nil ?_)))))
      exact ⟨n - (i + 1), by omega, i + 1, a', M3, R3, rfl, by omega, by rw [lk_eq]; rfl, subL.skip (hii _ _) (subL.skip (hti _ _) q2), q3, q4⟩
    | ret => exact fun h => ⟨L2, M2, [], fun _ _ e => e, List.Perm.refl _, h⟩
    | exit id =>
      intro h
      show blockK blk (fun x L' M' => ∃ L2 M2 R, subL L' L2 ∧ M'.Perm (R ++ M2) ∧ K x L2 M2) (.exit id) L2 M2
      have h' : blockK blk K (.exit id) L2 M2 := h
      simp only [blockK] at h' ⊢
      split
      · rename_i hb; rw [if_pos hb] at h'; exact ⟨L2, M2, [], fun _ _ e => e, List.Perm.refl _, h'⟩
      · rename_i hb; rw [if_neg hb] at h'; exact ⟨L2, M2, [], fun _ _ e => e, List.Perm.refl _, h'⟩
  · have hge : i = n := by have := of_decide_eq_false hf; omega
    subst hge
    show blockK blk (fun x L' M' => ∃ L2 M2 R, subL L' L2 ∧ M'.Perm (R ++ M2) ∧ K x L2 M2) (.exit blk) _ M1
    simp only [blockK, Nat.beq_refl, if_true]
    exact ⟨_, M1, [], subL.skip (hci _ _) (subL.skip (hii _ _) fun s v e => e), List.Perm.refl _, hend a M1 h3⟩
end Go.Ax
end
section
set_option linter.unusedSectionVars false
namespace Go.Ax
variable [Globs]
variable {ft : FT FnR} {g : Gz} {L : Env} {M : Mem} {K : Env → Mem → Prop}
theorem ReC.skip_u {g : Gz} {L : Env} {M : Mem} {d : Option Nat} {o : IOp} {j : Nat} {want : Bool} (hc : lk L j = some .undef) : ReC g ⟨d, o, some (j, want)⟩ L M := by
  intro τ hp hl hs
  have e := hl j _ hc
  have hw : wanted (some (j, want)) τ = false := by
    simp only [ev] at e
    simp only [wanted]
    cases hr : Rep.get τ j with
    | none => rfl
    | some x => rw [hr] at e; simp only [Option.getD_some] at e; subst e; rfl
  simp [reOk, hw]
theorem WC.unroll {ft : FT FnR} {g : Gz} {cur : Option Nat} {b : ICode} {L : Env} {M : Mem} {K : X → Env → Mem → Prop} (h : WC ft g cur b L M (thenC (fun L' M' => WC ft g cur (.loop b) L' M' K) K)) : WC ft g cur (.loop b) L M K := by
  intro τ hp hl hs
  obtain ⟨n1, x1, τ1, h1, L1, M1, e1, l1, s1, k1, hK⟩ := h τ hp hl hs
  cases x1 with
  | normal =>
    obtain ⟨n2, x2, τ2, h2, L2, M2, e2, l2, s2, k2, hK2⟩ := hK τ1 h1 l1 s1
    refine ⟨max n1 (n2 + 1), x2, τ2, h2, L2, M2, ?_, l2, s2, k1.trans k2, hK2⟩
    have e1' := codeF_le (recN_le ft (Nat.le_max_left n1 (n2 + 1))) e1
    have e2' : (recN ft (n2 + 1)).code cur (.loop b) τ1 h1 = some (x2, τ2, h2) := e2
    simp only [codeF, e1']
    exact (recN_le (S := FnR) ft (Nat.le_max_right n1 (n2 + 1))).code e2'
  | exit id => exact ⟨n1, .exit id, τ1, h1, L1, M1, by simp only [codeF, e1], l1, s1, k1, hK⟩
  | ret => exact ⟨n1, .ret, τ1, h1, L1, M1, by simp only [codeF, e1], l1, s1, k1, hK⟩
def Suf (M M' : Mem) : Prop := ∃ R, M' = R ++ M
theorem Suf.refl {M : Mem} : Suf M M := ⟨[], rfl⟩
theorem Suf.cons {M M' : Mem} {x : Nat × BP} (h : Suf M M') : Suf M (x :: M') := by
  obtain ⟨R, rfl⟩ := h; exact ⟨x :: R, rfl⟩
theorem WF.trimS {ft : FT FnR} {g : Gz} {f : Nat} {args : List V} {M : Mem} {Q : V → Prop} (h : WF ft g f args M fun v M' => Suf M M' ∧ Q v) : WF ft g f args M fun v M' => M' = M ∧ Q v :=
  WF.trim (h.mono fun v M' ⟨⟨R, e⟩, q⟩ => ⟨M, R, by rw [e], rfl, q⟩)
theorem At.app {M M' X : Mem} {b : Nat} {p : BP} (h : At M b p M') : At (X ++ M) b p (X ++ M') := by
  induction X with
  | nil => exact h
  | cons x X ih => exact .there ih
def cS1 : ICode → ICode
  | .seq a _ => a
  | c => c
def cS2 : ICode → ICode
  | .seq _ b => b
  | c => c
theorem Rds.at {g : Gz} {M : Mem} {b o : Nat} {vs : List V} (h : Rds g M b o vs) (j : Nat) {v : V} (hj : vs[j]? = some v) : Rd g M b (o + j) v := by
  intro hp hs
  obtain ⟨cs, a, h1, h2, h3, h4⟩ := h hp hs
  refine ⟨cs, a, h1, h2, ?_⟩
  have hlt := (List.getElem?_eq_some_iff.1 hj).1
  rw [← h4, List.getElem?_take, if_pos hlt, List.getElem?_drop] at hj
  exact hj
theorem W1.mkmapOf {ft : FT FnR} {g : Gz} {L : Env} {M : Mem} {K : Env → Mem → Prop} {d : Nat} (Pk Pv : V → Prop) (h : ∀ b, K ((d, .map b) :: L) ((b, MapOf Pk Pv) :: M)) : W1 ft g ⟨some d, .mkmap, none⟩ L M K :=
  W1.make (p := MapOf Pk Pv) (f := fun b => .map b) (blk := .map [] 0) rfl (fun _ _ => rfl) ⟨[], 0, rfl, by simp⟩ h
theorem take_all {cs : List V} {n : Nat} (h : cs.length = n) : (cs.drop 0).take n = cs := by subst h; simp
theorem W1.ldAll {ft : FT FnR} {g : Gz} {L : Env} {M : Mem} {K : Env → Mem → Prop} {d n : Nat} {x : Opd} {b : Nat} {cs : List V} {a : BA} {M' : Mem} (hx : lkO L x = some (.ptr b 0)) (hm : At M b (Arr1 cs a) M') (hn : cs.length = n) (h : K ((d, .agg cs) :: L) M) : W1 ft g ⟨some d, .ld true n x, none⟩ L M K :=
  W1.ldA hx hm (by omega) (by rw [take_all hn]; exact h)
theorem ReC.ldAll {g : Gz} {L : Env} {M : Mem} {d n : Nat} {x : Opd} {gd : Option (Nat × Bool)} {b : Nat} {cs : List V} {a : BA} {M' : Mem} (hx : lkO L x = some (.ptr b 0)) (hd : lk L d = some (.agg cs)) (hm : At M b (Arr1 cs a) M') (hn : cs.length = n) : ReC g ⟨some d, .ld true n x, gd⟩ L M :=
  ReC.ldA hx (by rw [take_all hn]; exact hd) hm (by omega)
theorem IntL.set {cs : List V} (h : IntL cs) {o : Nat} {n : Int} : IntL (splice cs o [.int .i64 n]) := by
  intro v hv
  simp only [splice, List.mem_append] at hv
  rcases hv with (hv | hv) | hv
  · exact h v (List.mem_of_mem_take hv)
  · exact ⟨n, by simpa using hv⟩
  · exact h v (List.mem_of_mem_drop hv)
theorem IntL.get {cs : List V} (h : IntL cs) {i : Nat} (hi : i < cs.length) : ∃ n, cs[i]? = some (.int .i64 n) := by
  obtain ⟨n, hn⟩ := h _ (List.getElem_mem hi)
  exact ⟨n, by rw [List.getElem?_eq_getElem hi, hn]⟩
theorem rep_len (n : Nat) (v : V) : (rep n [v]).length = n := by simp [rep]
theorem rep_int (n : Nat) (q : Int) : IntL (rep n [.int .i64 q]) := by
  intro v hv
  simp only [rep, List.mem_flatten, List.mem_replicate] at hv
  obtain ⟨l, ⟨_, rfl⟩, hv⟩ := hv
  exact ⟨q, by simpa using hv⟩
theorem W1.slcToD {ft : FT FnR} {g : Gz} {L : Env} {M : Mem} {K : Env → Mem → Prop} {d n e : Nat} {x hi : Opd} {s : V} {row : Nat → List V} {k : IntKind} {a : Int} (hx : lkO L x = some s) (hh : lkO L hi = some (.int k a)) (hs : SlcR g [] s n e row) (h0 : 0 ≤ a) (h1 : a ≤ n)
    (h : ∀ s', SlcR g [] s' a.toNat e row → K ((d, s') :: L) M) : W1 ft g ⟨some d, .slc e x none (some hi) none, none⟩ L M K := by
  obtain ⟨hs, he, hl⟩ := hs
  rcases hs with ⟨rfl, rfl⟩ | ⟨b, o, cap, rfl, hc, hr⟩
  · obtain rfl : a = 0 := by omega
    exact W1.pure (v := .nilslice) rfl (fun τ hl => by simp [puO, slcF, bounds, lo?, hl.opd hx, hl.opd hh]) (h _ ⟨Or.inl ⟨rfl, rfl⟩, he, fun i hi => by simp at hi⟩)
  · have hl' : ∀ i, i < a.toNat → (row i).length = e := fun i hi => hl i (by omega)
    cases cap with
    | none =>
      refine W1.pure (v := .slice b o a.toNat none e) rfl (fun τ hl => ?_) (h _ ⟨Or.inr ⟨b, o, none, rfl, by simp, fun hp hsat => ?_⟩, he, hl'⟩)
      · simp [puO, slcF, bounds, lo?, hl.opd hx, hl.opd hh, h0, h1]
      · obtain ⟨cs, ba, k1, k2, k3⟩ := hr hp hsat
        exact ⟨cs, ba, k1, k2, fun i hi j hj => k3 i (by omega) j hj⟩
    | some c =>
      have hnc := hc c rfl
      refine W1.pure (v := .slice b o a.toNat (some c) e) rfl (fun τ hl => ?_) (h _ ⟨Or.inr ⟨b, o, some c, rfl, fun c' e' => by cases e'; omega, fun hp hsat => ?_⟩, he, hl'⟩)
      · have e0 : (if Nat.beq c 0 = true then o else o + 0 * e) = o := by split <;> omega
        simp [puO, slcF, bounds, lo?, hl.opd hx, hl.opd hh, h0, h1]
      · obtain ⟨cs, ba, k1, k2, k3⟩ := hr hp hsat
        exact ⟨cs, ba, k1, k2, fun i hi j hj => k3 i (by omega) j hj⟩
theorem WC.loopT {ft : FT FnR} {g : Gz} {cur : Option Nat} {b : ICode} {K : X → Env → Mem → Prop} {ι : Type} (m : ι → Nat) (E : ι → Env) (J : ι → Mem → Prop)
    (h : ∀ x M, J x M → WC ft g cur b (E x) M (thenC (fun L' M' => ∃ y M1 R, m y < m x ∧ subL L' (E y) ∧ M'.Perm (R ++ M1) ∧ J y M1) K)) (x : ι) (L : Env) (M : Mem) (h1 : subL L (E x)) (h2 : J x M) : WC ft g cur (.loop b) L M K := by
  refine WC.loop (fun k L M => ∃ x M1 R, k = m x ∧ subL L (E x) ∧ M.Perm (R ++ M1) ∧ J x M1) ?_ (m x) L M ⟨x, M, [], rfl, h1, List.Perm.refl _, h2⟩
  rintro k L M ⟨x, M1, R, rfl, h1, hs, h2⟩
  refine WC.permM hs (WC.drop (List.sublist_append_right _ _) (WC.weak h1 (WC.mono (h x M1 h2) fun y L' M' => ?_)))
  cases y with
  | normal => rintro ⟨z, M2, R2, h3, h4, h5, h6⟩; exact ⟨m z, h3, z, M2, R2, rfl, h4, h5, h6⟩
  | _ => exact fun h => h
theorem W1.ldX {ft : FT FnR} {g : Gz} {L : Env} {M : Mem} {K : Env → Mem → Prop} {d n : Nat} {x : Opd} {b o : Nat} {cs vs : List V} {a : BA} {M' : Mem} (hx : lkO L x = some (.ptr b o)) (hm : At M b (Arr1 cs a) M') (hv : o + n ≤ cs.length) (he : (cs.drop o).take n = vs) (h : K ((d, .agg vs) :: L) M) : W1 ft g ⟨some d, .ld true n x, none⟩ L M K :=
  W1.ldA hx hm hv (by rw [he]; exact h)
theorem ReC.ldX {g : Gz} {L : Env} {M : Mem} {d n : Nat} {x : Opd} {gd : Option (Nat × Bool)} {b o : Nat} {cs vs : List V} {a : BA} {M' : Mem} (hx : lkO L x = some (.ptr b o)) (hd : lk L d = some (.agg vs)) (hm : At M b (Arr1 cs a) M') (hv : o + n ≤ cs.length) (he : (cs.drop o).take n = vs) : ReC g ⟨some d, .ld true n x, gd⟩ L M :=
  ReC.ldA hx (by rw [he]; exact hd) hm hv
theorem catA_nil {α : Type} : ∀ n, catA (fun _ => ([] : List α)) n = []
  | 0 => rfl
  | n + 1 => by rw [catA, catA_nil n]; rfl
theorem ownRow_ints : ∀ {w : Nat} {vs : List V}, IntL vs → vs.length = w → OwnRow (List.replicate w .int) vs [] w
  | 0, vs, _, h => by simp only [List.replicate, OwnRow]; exact ⟨List.eq_nil_of_length_eq_zero h, trivial⟩
  | w + 1, v :: vs, hi, h => by
    simp only [List.replicate, OwnRow]
    refine ⟨v, vs, [], [], 1, w, rfl, ?_, ownRow_ints (fun x hx => hi x (List.mem_cons_of_mem _ hx)) (by simpa using h), rfl, by omega⟩
    simp only [OwnC]
    exact ⟨hi v (List.mem_cons_self ..), trivial, Nat.le_refl _⟩
theorem sumTo_const (w : Nat) : ∀ n, sumTo (fun _ => w) n = n * w
  | 0 => by simp [sumTo]
  | n + 1 => by simp only [sumTo]; rw [sumTo_const w n, Nat.succ_mul]
theorem OwnC.ints {w n b : Nat} {cap : Option Nat} {cs : List V} (hw : w ≠ 0) (hl : cs.length = n * w) (hi : IntL cs) (hn : n ≤ 1099511627776) (hc : ∀ c, cap = some c → n ≤ c) :
    OwnC (.sl (List.replicate w .int)) (.slice b 0 n cap w) [(b, cs)] (n * w + 1) := by
  simp only [OwnC]
  have hnw : n ≤ n * w := Nat.le_mul_of_pos_right n (by omega)
  refine ⟨n, cs, fun i => (cs.drop (i * w)).take w, fun _ => [], fun _ => w, fun i h => ownRow_ints ?_ ?_, by simpa using hw, hn, by omega, by rw [sumTo_const]; omega, Or.inr ⟨b, 0, cap, by simp, hc, ?_, by rw [catA_nil]⟩⟩
  · exact fun v hv => hi v (List.mem_of_mem_drop (List.mem_of_mem_take hv))
  · have h9 : (i + 1) * w ≤ n * w := Nat.mul_le_mul_right w (by omega)
    rw [Nat.succ_mul] at h9
    simp; omega
  · intro i _ j hj
    rw [List.length_replicate] at hj ⊢
    rw [List.getElem?_take, if_pos hj, List.getElem?_drop]
    congr 1; omega
theorem OwnC.nil {row : List Ty} (h : row.length ≠ 0) : OwnC (.sl row) .nilslice [] 1 := by
  simp only [OwnC]
  exact ⟨0, [], fun _ => [], fun _ => [], fun _ => 0, fun i h => by omega, h, by omega, by omega, by simp [sumTo], Or.inl ⟨trivial, rfl, trivial⟩⟩
theorem W1.mxU {ft : FT FnR} {g : Gz} {L : Env} {M : Mem} {K : Env → Mem → Prop} {d : Nat} {x y : Opd} {k : IntKind} {a b : Int} (hx : lkO L x = some (.int k a)) (hy : lkO L y = some (.int k b)) (h : ∀ n, K ((d, .int k n) :: L) M) : W1 ft g ⟨some d, .mx x [y], none⟩ L M K := by
  have e : ∃ r, maxi k a [.int k b] = some r := by cases k <;> simp [maxi, ikEq]
  obtain ⟨r, e⟩ := e
  exact W1.pure (v := .int k r) rfl (fun τ hl => by simp [puO, hl.opd hx, hl.opd hy, e]) (h r)
theorem W1.mnU {ft : FT FnR} {g : Gz} {L : Env} {M : Mem} {K : Env → Mem → Prop} {d : Nat} {x y : Opd} {k : IntKind} {a b : Int} (hx : lkO L x = some (.int k a)) (hy : lkO L y = some (.int k b)) (h : ∀ n, K ((d, .int k n) :: L) M) : W1 ft g ⟨some d, .mn x [y], none⟩ L M K := by
  have e : ∃ r, mini k a [.int k b] = some r := by cases k <;> simp [mini, ikEq]
  obtain ⟨r, e⟩ := e
  exact W1.pure (v := .int k r) rfl (fun τ hl => by simp [puO, hl.opd hx, hl.opd hy, e]) (h r)
theorem spl_len {cs vs : List V} {o : Nat} (h : o + vs.length ≤ cs.length) : (splice cs o vs).length = cs.length := by
  simp [splice]; omega
theorem Sat.swapP {b : Nat} {p p' : BP} {M : Mem} {hp : HP} (hs : Sat g ((b, p) :: M) hp) (h : ∀ o, hp.get b = some o → p o → p' o) : Sat g ((b, p') :: M) hp := by
  refine ⟨hs.fz, fun q hq => ?_, hs.nd⟩
  rcases List.mem_cons.1 hq with rfl | hq
  · obtain ⟨h1, ⟨o, h2, h3⟩, h4⟩ := hs.mem (b, p) (List.mem_cons_self ..)
    exact ⟨h1, ⟨o, h2, h o h2 h3⟩, h4⟩
  · exact hs.mem q (List.mem_cons_of_mem _ hq)
theorem Kp.swapP {b : Nat} {p p' : BP} {M M' : Mem} {h0 h1 : HP} (k : Kp ((b, p') :: M) h0 M' h1) : Kp ((b, p) :: M) h0 M' h1 := by
  refine ⟨k.n, fun c hc hn => k.keep c hc fun q hq => ?_, fun q hq => ?_⟩
  · rcases List.mem_cons.1 hq with rfl | hq
    · exact hn (b, p) (List.mem_cons_self ..)
    · exact hn q (List.mem_cons_of_mem _ hq)
  · rcases k.from_ q hq with ⟨q0, h1, h2⟩ | h1
    · rcases List.mem_cons.1 h1 with rfl | h1
      · exact Or.inl ⟨(b, p), List.mem_cons_self .., h2⟩
      · exact Or.inl ⟨q0, List.mem_cons_of_mem _ h1, h2⟩
    · exact Or.inr h1
theorem WC.pin {cur : Option Nat} {c : ICode} {L : Env} {b : Nat} {p : BP} {M : Mem} {K : X → Env → Mem → Prop} (h : ∀ o, p o → WC ft g cur c L ((b, fun x => x = o) :: M) K) : WC ft g cur c L ((b, p) :: M) K := by
  intro τ hp hl hs
  obtain ⟨_, ⟨ob, e1, e2⟩, _⟩ := hs.mem _ (List.mem_cons_self ..)
  obtain ⟨n, x, τ', h', L', M', e, l, s, k, hK⟩ := h ob e2 τ hp hl (hs.swapP fun o ho _ => by simp only at e1; rw [e1] at ho; exact (Option.some.inj ho).symm)
  exact ⟨n, x, τ', h', L', M', e, l, s, k.swapP, hK⟩
theorem WC.unpin {cur : Option Nat} {c : ICode} {L : Env} {b : Nat} {p p' : BP} {M : Mem} {K : X → Env → Mem → Prop} (hpp : ∀ o, p o → p' o) (h : WC ft g cur c L ((b, p') :: M) K) : WC ft g cur c L ((b, p) :: M) K := by
  intro τ hp hl hs
  obtain ⟨n, x, τ', h', L', M', e, l, s, k, hK⟩ := h τ hp hl (hs.swapP fun o _ => hpp o)
  exact ⟨n, x, τ', h', L', M', e, l, s, k.swapP, hK⟩
def lkV (z : V) : Option (Nat × V × Nat) → V
  | none => .tup [z, .bool false]
  | some (_, v, _) => .tup [v, .bool true]
theorem W1.lkpPin {L : Env} {M : Mem} {K : Env → Mem → Prop} {d : Nat} {q : EqK} {z vk : V} {m k : Opd} {b : Nat} {es : List (V × V × Nat)} {clk : Nat} {r : Option (Nat × V × Nat)} {M' : Mem} (hm : lkO L m = some (.map b)) (hk : lkO L k = some vk) (hat : At M b (fun o => o = .map es clk) M') (hf : findK q vk es = some r)
    (h : K ((d, lkV z r) :: L) M) : W1 ft g ⟨some d, .lkp q z true m k, none⟩ L M K := by
  intro τ hp hl hs
  obtain ⟨_, ⟨ob, e1, rfl⟩, _⟩ := hs.mem _ hat.mem
  have e2 : entries hp.get (.map b) = some es := by simp [entries, e1]
  refine ⟨0, putD τ (some d) (lkV z r), hp, (d, lkV z r) :: L, M, stepO_yes ?_, hl.put (some d) _, hs, Kp.refl _ _, h⟩
  rw [opF_light (by simp [kindOf])]
  cases r with
  | none => simp [iop, kindOf, rdO, lkpF, hl.opd hm, hl.opd hk, e2, hf, lkV]
  | some p => obtain ⟨j, v, n⟩ := p; simp [iop, kindOf, rdO, lkpF, hl.opd hm, hl.opd hk, e2, hf, lkV]
theorem ReC.lkpPin {L : Env} {M : Mem} {d : Nat} {gd : Option (Nat × Bool)} {q : EqK} {z vk : V} {m k : Opd} {b : Nat} {es : List (V × V × Nat)} {clk : Nat} {r : Option (Nat × V × Nat)} {M' : Mem} (hm : lkO L m = some (.map b)) (hk : lkO L k = some vk) (hd : lk L d = some (lkV z r)) (hat : At M b (fun o => o = .map es clk) M') (hf : findK q vk es = some r) :
    ReC g ⟨some d, .lkp q z true m k, gd⟩ L M :=
  ReC.of hd fun τ hp hl hs => by
    obtain ⟨h0, ⟨ob, e1, rfl⟩, _⟩ := hs.mem _ hat.mem
    have e2 : entries hp.lget (.map b) = some es := by simp [entries, lget_of h0 e1]
    cases r with
    | none => simp [rdO, lkpF, hl.opd hm, hl.opd hk, e2, hf, lkV]
    | some p => obtain ⟨j, v, n⟩ := p; simp [rdO, lkpF, hl.opd hm, hl.opd hk, e2, hf, lkV]
theorem At.of_mem {b : Nat} {p : BP} : ∀ {M : Mem}, (b, p) ∈ M → ∃ M', At M b p M'
  | q :: M, h => by
    rcases List.mem_cons.1 h with rfl | h
    · exact ⟨_, .here⟩
    · obtain ⟨M', h'⟩ := At.of_mem h; exact ⟨_, .there h'⟩
theorem perm_n4 (a b c d : Nat × BP) (l : Mem) : (a :: b :: c :: d :: l).Perm (d :: a :: b :: c :: l) :=
  List.perm_middle (a := d) (l₁ := [a, b, c]) (l₂ := l)
theorem W1.lkpTo {ft : FT FnR} {g : Gz} {L : Env} {M : Mem} {K : Env → Mem → Prop} {d : Nat} {q : EqK} {z vk w : V} {m k : Opd} {b : Nat} {es : List (V × V × Nat)} {clk : Nat} {r : Option (Nat × V × Nat)} {M' : Mem} (hm : lkO L m = some (.map b)) (hk : lkO L k = some vk) (hat : At M b (fun o => o = .map es clk) M') (hf : findK q vk es = some r) (hw : lkV z r = w)
    (h : K ((d, w) :: L) M) : W1 ft g ⟨some d, .lkp q z true m k, none⟩ L M K := by
  subst hw; exact W1.lkpPin hm hk hat hf h
theorem ReC.lkpTo {g : Gz} {L : Env} {M : Mem} {d : Nat} {gd : Option (Nat × Bool)} {q : EqK} {z vk w : V} {m k : Opd} {b : Nat} {es : List (V × V × Nat)} {clk : Nat} {r : Option (Nat × V × Nat)} {M' : Mem} (hm : lkO L m = some (.map b)) (hk : lkO L k = some vk) (hd : lk L d = some w) (hat : At M b (fun o => o = .map es clk) M') (hf : findK q vk es = some r) (hw : lkV z r = w) :
    ReC g ⟨some d, .lkp q z true m k, gd⟩ L M := by
  subst hw; exact ReC.lkpPin hm hk hd hat hf
theorem WV.trim {ft : FT FnR} {g : Gz} {f : V} {args : List V} {M : Mem} {K : V → Mem → Prop} (h : WV ft g f args M fun v M' => ∃ M1 R, M'.Perm (R ++ M1) ∧ K v M1) : WV ft g f args M K := by
  intro hh hs
  obtain ⟨n, v, h', M', h1, h2, h3, M1, R, hp, hK⟩ := h hh hs
  exact ⟨n, v, h', M1, h1, (h2.perm hp).sub (List.sublist_append_right _ _), ⟨h3.n, h3.keep, fun q hq => h3.from_ q (hp.mem_iff.2 (by simp [hq]))⟩, hK⟩
theorem Up.same' {M M' : Mem} {b : Nat} {p p' : BP} (h : Up M b p p' M') : p = p' → M' = M := by
  induction h with
  | here => intro e; subst e; rfl
  | there _ ih => intro e; rw [ih e]
theorem Up.same {M M' : Mem} {b : Nat} {p : BP} (h : Up M b p p M') : M' = M := h.same' rfl
theorem W1.cpyI {ft : FT FnR} {g : Gz} {L : Env} {M : Mem} {K : Env → Mem → Prop} {x y : Opd} {b n n2 : Nat} {cap : Option Nat} {vx : V} {cs xs : List V} {M' : Mem} (hd : lkO L x = some (.slice b 0 n cap 1)) (hy : lkO L y = some vx) (hsrc : Src g M 1 vx xs n2) (hsc : xs.all V.scalar = true) (hx2 : xs.length = n2) (hcs : cs.length = n)
    (hu : Up M b (Arr1 cs {}) (Arr1 (splice cs 0 (xs.take (min n2 n * 1))) {}) M') {d : Nat} (h : ∀ q : Int, K ((d, .int .i64 q) :: L) M') : W1 ft g ⟨some d, .cpy 1 x y, none⟩ L M K := by
  refine W1.heavy rfl (fun f args e => by cases e) fun τ hp hl hs => ?_
  obtain ⟨_, ⟨ob, h1, h2⟩, _⟩ := hs.mem _ hu.mem
  obtain rfl : ob = .arr cs {} := h2
  obtain ⟨s1, k1⟩ := hs.put hu (blk := .arr (splice cs 0 (xs.take (min n2 n * 1))) {}) rfl
  have hsc2 : (xs.take (min n2 n * 1)).all V.scalar = true := List.all_eq_true.2 fun v hv => List.all_eq_true.1 hsc v (List.mem_of_mem_take hv)
  by_cases h0 : min n2 n = 0
  · have e : splice cs 0 (xs.take (min n2 n * 1)) = cs := by rw [h0]; simp [splice]
    rw [e] at hu
    obtain rfl := hu.same
    refine ⟨.int .i64 0, hp, _, ?_, hs, Kp.refl _ _, h _⟩
    simp only [hvO, hl.opd hd, hl.opd hy, copyF, hsrc hp hs]
    rw [if_pos (Nat.beq_refl _), if_pos (by simpa using h0)]
  · refine ⟨.int .i64 (min n2 n : Nat), _, M', ?_, s1, k1, h _⟩
    simp only [hvO, hl.opd hd, hl.opd hy, copyF, hsrc hp hs]
    rw [if_pos (Nat.beq_refl _), if_neg (by simpa using h0)]
    unfold Hp.wr
    rw [h1]
    have h5 : 0 + (xs.take (min n2 n * 1)).length ≤ cs.length := by simp; omega
    simp only [hsc2]
    simp [h5]
    omega
def LstI (s : V) (k : Nat) (X : Mem) : Prop := (s = .nilslice ∧ k = 0 ∧ X = []) ∨ ∃ b cs, s = .slice b 0 k none 1 ∧ cs.length = k ∧ IntL cs ∧ k ≠ 0 ∧ X = [(b, Arr1 cs {})]
theorem LstI.own {s : V} {k : Nat} {X : Mem} (h : LstI s k X) (hk : k ≤ 100) : ∃ R, X = toM R ∧ OwnC (.sl (List.replicate 1 .int)) s R (k + 1) := by
  rcases h with ⟨rfl, rfl, rfl⟩ | ⟨b, cs, rfl, hl, hi, h0, rfl⟩
  · exact ⟨[], rfl, OwnC.nil (by decide)⟩
  · have h := OwnC.ints (w := 1) (n := k) (b := b) (cap := none) (by decide) (by omega) hi (by omega) (by simp)
    rw [Nat.mul_one] at h
    exact ⟨[(b, cs)], rfl, h⟩
theorem IntL1 (a : Int) : IntL [.int .i64 a] := fun v hv => ⟨a, by simpa using hv⟩
theorem Row.cons_inv {t : Ty} {ts : List Ty} {vs : List V} {b : Nat} (h : Row g (t :: ts) vs b) : ∃ v vs' k1 k2, vs = v :: vs' ∧ Cell g t v k1 ∧ Row g ts vs' k2 ∧ k1 + k2 ≤ b := by simpa only [Row] using h
theorem Row.nil_inv {vs : List V} {b : Nat} (h : Row g [] vs b) : vs = [] := by simpa only [Row] using h
theorem Cell.int_inv {v : V} {b : Nat} (h : Cell g .int v b) : ∃ n, v = .int .i64 n := by simp only [Cell] at h; exact h.1
theorem Cell.str_inv {v : V} {b : Nat} (h : Cell g .str v b) : ∃ s, v = .str s := by simp only [Cell] at h; obtain ⟨s, e, _⟩ := h; exact ⟨s, e⟩
theorem Cell.sl_inv {row : List Ty} {v : V} {b : Nat} (h : Cell g (.sl row) v b) : ∃ n rows kf, SlcR g [] v n row.length rows ∧ v.scalar = true ∧ n < b ∧ sumTo kf n < b ∧ ∀ i, i < n → Row g row (rows i) (kf i) := by simpa only [Cell] using h
theorem cellInt {n : Int} : Cell g .int (.int .i64 n) 1 := by simp only [Cell]; exact ⟨⟨n, rfl⟩, Nat.le_refl _⟩
theorem Cell.dom {h : HP} (hs : Sat g [] h) : ∀ {t : Ty} {v : V} {k : Nat}, Cell g t v k → v.inD (fun c => ∃ p, g c = some p)
  | .int, v, k, hc => by obtain ⟨n, rfl⟩ := hc.int_inv; trivial
  | .bool, v, k, hc => by simp only [Cell] at hc; obtain ⟨⟨t, rfl⟩, _⟩ := hc; trivial
  | .str, v, k, hc => by obtain ⟨n, rfl⟩ := hc.str_inv; trivial
  | .sl row, v, k, hc => by
    obtain ⟨n, rows, kf, h1, _⟩ := hc.sl_inv
    rcases h1.1 with ⟨rfl, _⟩ | ⟨b, o, cap, rfl, _, hr⟩
    · trivial
    · show ∃ p, g b = some p
      cases hb : g b with
      | some p => exact ⟨p, rfl⟩
      | none =>
        exfalso
        obtain ⟨cs, a, _, h2, _⟩ := hr (h.put b .dead) ⟨fun c o e => ⟨(hs.fz c o e).1, by rw [Hp.get_put, if_neg fun e' => by subst e'; rw [hb] at e; cases e]; exact (hs.fz c o e).2⟩, by simp, by simp⟩
        rw [Hp.get_put, if_pos rfl] at h2; cases h2
theorem Row.dom {h : HP} (hs : Sat g [] h) : ∀ {ts : List Ty} {vs : List V} {k : Nat}, Row g ts vs k → V.insD (fun c => ∃ p, g c = some p) vs
  | [], vs, k, hr => by rw [hr.nil_inv]; trivial
  | t :: ts, vs, k, hr => by
    obtain ⟨v, vs', k1, k2, rfl, h1, h2, _⟩ := hr.cons_inv
    exact ⟨h1.dom hs, h2.dom hs⟩
theorem GOk.add {b : Nat} {cs : List V} (hg : GOk g) (hb : g b = none) (hc : V.insD (fun c => ∃ p, g c = some p) cs) : GOk (g.add b (.arr cs {})) := by
  have up : ∀ {vs : List V}, V.insD (fun c => ∃ p, g c = some p) vs → V.insD (fun c => ∃ p, (g.add b (.arr cs {})) c = some p) vs := fun hv => V.insD_imp (fun c ⟨p, hp⟩ => ⟨p, Gz.le_add hb c p hp⟩) hv
  intro c o e
  by_cases hcb : c = b
  · subst hcb
    rw [Gz.add_eq] at e; cases e
    exact ⟨cs, {}, rfl, Or.inr rfl, up hc⟩
  · rw [Gz.add_ne g _ hcb] at e
    obtain ⟨cs', a, rfl, h1, h2⟩ := hg c o e
    exact ⟨cs', a, rfl, h1, up h2⟩
theorem WC.withSat {ft : FT FnR} {cur : Option Nat} {c : ICode} {L : Env} {M : Mem} {K : X → Env → Mem → Prop} (h : ∀ hp : HP, Sat g [] hp → WC ft g cur c L M K) : WC ft g cur c L M K :=
  fun τ hp hl hs => h hp ⟨hs.fz, by simp, by simp⟩ τ hp hl hs
theorem LM.toM {s : V} {cs : List V} {M : Mem} (l : LM s cs M) : ∃ R : Bks, M = Ax.toM R ∧ s.scalar = true ∧ ∀ g' : Gz, (∀ p ∈ R, g' p.1 = some (.arr p.2 {})) → Slc g' [] s cs.length 1 (fun i _ => (cs[i]?).getD .undef) := by
  rcases l with ⟨rfl, rfl, rfl⟩ | ⟨b, rfl, rfl⟩
  · exact ⟨[], rfl, rfl, fun g' _ => Or.inl ⟨rfl, rfl⟩⟩
  · refine ⟨[(b, cs)], rfl, rfl, fun g' h => Or.inr ⟨b, 0, none, rfl, by simp, fun hp hs => ?_⟩⟩
    obtain ⟨h1, h2⟩ := hs.fz b _ (h (b, cs) (by simp))
    refine ⟨cs, {}, h1, h2, fun i hi j hj => ?_⟩
    obtain rfl : j = 0 := by omega
    simp only [Nat.mul_one, Nat.zero_add, Nat.add_zero]
    rw [List.getElem?_eq_getElem hi]; rfl
theorem V.cells1 {s : V} (h : s.scalar = true) : s.cells = [s] := by cases s <;> first | rfl | cases h
theorem W1.st0 {ft : FT FnR} {g : Gz} {L : Env} {M M' : Mem} {K : Env → Mem → Prop} {a x : Opd} {b : Nat} {s s0 : V} (ha : lkO L a = some (.ptr b 0)) (hx : lkO L x = some s) (hs : s.scalar = true) (hu : Up M b (Arr1 [s0] {}) (Arr1 [s] {}) M') (h : K L M') : W1 ft g ⟨none, .st 1 a x, none⟩ L M K :=
  W1.st ha hx (by rw [V.cells1 hs]; rfl) (by rw [V.cells1 hs]; simp [hs]) (by rw [V.cells1 hs]; exact hu) (Nat.le_refl _) h
end Go.Ax
end
section
set_option linter.unusedSectionVars false
namespace Go.Ax
variable [Globs]
variable {ft : FT FnR} {g : Gz}
def forCodeO (blk ci ii : Nat) (nO : Opd) (ti : Nat) (body : ICode) : ICode :=
  .block blk (.loop (.seq (.region [⟨some ci, .bin .lss (.t ii) nO, none⟩]) (.seq (.cond (.t ci) .skip (.exit blk)) (.seq body (.region [⟨some ti, .bin .add (.t ii) (.c (.int .i64 1)), none⟩, ⟨some ii, .mv (.t ti), none⟩])))))
theorem WC.forO {cur : Option Nat} {blk ci ii ti : Nat} {nO : Opd} {body : ICode} {K : X → Env → Mem → Prop} {ι : Type} {L : Env} {M : Mem} {n : Nat} (ks : List Nat) (E : Nat → ι → Env) (J : Nat → ι → Mem → Prop) (a0 : ι)
    (hn : n ≤ 1000000000000) (h0 : lk L ii = some (.int .i64 0)) (hni : ∀ (i : Nat) a, lkO ((ii, .int .i64 i) :: (E i a ++ keepL ks L)) nO = some (.int .i64 n)) (hii : ∀ i a, lk (E i a ++ keepL ks L) ii = none) (hti : ∀ i a, lk (E i a ++ keepL ks L) ti = none) (hci : ∀ i a, lk (E i a ++ keepL ks L) ci = none)
    (hne : Nat.beq ci ii = false ∧ Nat.beq ti ii = false) (hE : subL L (E 0 a0)) (hJ : J 0 a0 M)
    (hbody : ∀ i a M, i < n → J i a M → WC ft g cur body ((ii, .int .i64 i) :: (E i a ++ keepL ks L)) M (thenC (fun L' M' => ∃ a' M1 R, lk L' ii = some (.int .i64 i) ∧ subL L' (E (i + 1) a' ++ keepL ks L) ∧ M'.Perm (R ++ M1) ∧ J (i + 1) a' M1) (blockK blk K)))
    (hend : ∀ a M, J n a M → K .normal (E n a ++ keepL ks L) M) : WC ft g cur (forCodeO blk ci ii nO ti body) L M K := by
  have nb : ∀ {a b : Nat}, Nat.beq a b = false → a ≠ b := fun h e => by subst e; rw [Nat.beq_refl] at h; cases h
  have hci2 := nb hne.1
  have hti2 := nb hne.2
  refine WC.post (WC.block ?_)
  refine WC.loop (fun k L' M' => ∃ i a M1 R, k = n - i ∧ i ≤ n ∧ lk L' ii = some (.int .i64 i) ∧ subL L' (E i a ++ keepL ks L) ∧ M'.Perm (R ++ M1) ∧ J i a M1) ?_ (n - 0) L M ⟨0, a0, M, [], rfl, Nat.zero_le _, h0, hE.app (keepL_sub L ks), List.Perm.refl _, hJ⟩
  rintro k L' M' ⟨i, a, M1, R, rfl, hle, h1, h2, hs, h3⟩
  refine WC.permM hs (WC.drop (List.sublist_append_right _ _) (WC.weak (L' := (ii, .int .i64 i) :: (E i a ++ keepL ks L)) (subL.cons h1 h2) ?_))
  have hci' : lk ((ci, V.bool (decide ((i : Int) < n))) :: (ii, .int .i64 i) :: (E i a ++ keepL ks L)) ci = some (.bool (decide ((i : Int) < n))) := lk_eq
  refine WC.seq (WC.region (WO.cons (W1.lss (k := .i64) (a := i) (b := n) lk_eq (hni i a) (WO.nil ?_))))
  refine WC.seq (WC.cond hci' (fun ht => WC.skip ?_) (fun hf => WC.exit ?_))
  · have hlt : i < n := by have := of_decide_eq_true ht; omega
    refine WC.seq (WC.weak (L' := (ii, .int .i64 i) :: (E i a ++ keepL ks L)) (subL.cons (by rw [lk_ne hci2, lk_eq]) (subL.skip (hci i a) (subL.skip (hii i a) fun s v e => e))) (WC.mono (hbody i a M1 hlt h3) fun x L2 M2 => ?_))
    cases x with
    | normal =>
      rintro ⟨a', M3, R3, q1, q2, q3, q4⟩
      refine WC.region (WO.cons (W1.add (a := i) (b := 1) (by simp only [lkO]; exact q1) rfl (by omega) (by omega) (WO.cons (W1.mv (v := .int .i64 ((i : Int) + 1)) (by simp only [lkO]; exact lk_eq) (WO.nil ?_)))))
      exact ⟨n - (i + 1), by omega, i + 1, a', M3, R3, rfl, by omega, by rw [lk_eq]; rfl, subL.skip (hii _ _) (subL.skip (hti _ _) q2), q3, q4⟩
    | ret => exact fun h => ⟨L2, M2, [], fun _ _ e => e, List.Perm.refl _, h⟩
    | exit id =>
      intro h
      show blockK blk (fun x L' M' => ∃ L2 M2 R, subL L' L2 ∧ M'.Perm (R ++ M2) ∧ K x L2 M2) (.exit id) L2 M2
      have h' : blockK blk K (.exit id) L2 M2 := h
      simp only [blockK] at h' ⊢
      split
      · rename_i hb; rw [if_pos hb] at h'; exact ⟨L2, M2, [], fun _ _ e => e, List.Perm.refl _, h'⟩
      · rename_i hb; rw [if_neg hb] at h'; exact ⟨L2, M2, [], fun _ _ e => e, List.Perm.refl _, h'⟩
  · have hge : i = n := by have := of_decide_eq_false hf; omega
    subst hge
    show blockK blk (fun x L' M' => ∃ L2 M2 R, subL L' L2 ∧ M'.Perm (R ++ M2) ∧ K x L2 M2) (.exit blk) _ M1
    simp only [blockK, Nat.beq_refl, if_true]
    exact ⟨_, M1, [], subL.skip (hci _ _) (subL.skip (hii _ _) fun s v e => e), List.Perm.refl _, hend a M1 h3⟩
theorem W1.slcaAllO {L : Env} {M : Mem} {K : Env → Mem → Prop} {d len e o : Nat} {x : Opd} {b : Nat} {cs : List V} {a : BA} {M' : Mem} (hx : lkO L x = some (.ptr b o)) (hat : At M b (Arr1 cs a) M') (hl : o + len * e ≤ cs.length) (h : K ((d, .slice b o len (some len) e) :: L) M) :
    W1 ft g ⟨some d, .slca len e x none none none, none⟩ L M K :=
  W1.read (v := .slice b o len (some len) e) rfl (fun τ hp hh hs => by
    obtain ⟨_, ⟨ob, e1, e2⟩, _⟩ := hs.mem _ hat.mem
    have e3 : hp.get b = some (.arr cs a) := by rw [e1, show ob = .arr cs a from e2]
    simp [rdO, slcaF, hh.opd hx, e3, hl, bounds, lo?]) h
end Go.Ax
end
section
set_option linter.unusedSectionVars false
namespace Go.Ax
variable [Globs]
section
variable {ft : FT FnR} {g : Gz}
theorem sat_frame {M0 M R M' : Mem} {hh h' : HP} (hs : Sat g M hh) (hp : M.Perm (M0 ++ R)) (h2 : Sat g M' h') (h3 : Kp M0 hh M' h') : Sat g (M' ++ R) h' ∧ Kp M hh (M' ++ R) h' := by
  have s1 := hs.perm hp
  have hnd := s1.nd
  rw [List.map_append, List.nodup_append] at hnd
  obtain ⟨_, ndR, disj⟩ := hnd
  have hR : ∀ p ∈ R, p.1 < hh.n ∧ ∀ q ∈ M0, q.1 ≠ p.1 := fun p hpR =>
    ⟨(s1.mem p (by simp [hpR])).1, fun q hq e => disj q.1 (List.mem_map.2 ⟨q, hq, rfl⟩) p.1 (List.mem_map.2 ⟨p, hpR, rfl⟩) e⟩
  refine ⟨⟨h2.fz, fun p hp' => ?_, ?_⟩, ⟨h3.n, fun b hb hn => h3.keep b hb fun p hpM => hn p (hp.mem_iff.2 (by simp [hpM])), fun p hp' => ?_⟩⟩
  · rcases List.mem_append.1 hp' with h5 | h5
    · exact h2.mem p h5
    · obtain ⟨k1, ⟨o, k2, k3⟩, k4⟩ := s1.mem p (by simp [h5])
      exact ⟨Nat.lt_of_lt_of_le k1 h3.n, ⟨o, by rw [h3.keep p.1 k1 (hR p h5).2]; exact k2, k3⟩, k4⟩
  · rw [List.map_append, List.nodup_append]
    refine ⟨h2.nd, ndR, fun a ha b hb e => ?_⟩
    obtain ⟨p, hp1, rfl⟩ := List.mem_map.1 ha
    obtain ⟨q, hq1, rfl⟩ := List.mem_map.1 hb
    rcases h3.from_ p hp1 with ⟨p0, h5, h6⟩ | h5
    · exact (hR q hq1).2 p0 h5 (h6.trans e)
    · have := (hR q hq1).1
      omega
  · rcases List.mem_append.1 hp' with h5 | h5
    · rcases h3.from_ p h5 with ⟨p0, h6, h7⟩ | h6
      · exact Or.inl ⟨p0, hp.mem_iff.2 (by simp [h6]), h7⟩
      · exact Or.inr h6
    · exact Or.inl ⟨p, hp.mem_iff.2 (by simp [h5]), rfl⟩
theorem WC.frame {cur : Option Nat} {c : ICode} {L : Env} {M0 M R : Mem} {K : X → Env → Mem → Prop} (h : WC ft g cur c L M0 K) (hp : M.Perm (M0 ++ R)) : WC ft g cur c L M fun x L1 M' => ∃ M1, K x L1 M1 ∧ M' = M1 ++ R := by
  intro τ hh hl hs
  obtain ⟨n, x, τ', h', L', M', h1, h2, h3, h4, h5⟩ := h τ hh hl ((hs.perm hp).sub (List.sublist_append_left _ _))
  obtain ⟨s, k⟩ := sat_frame hs hp h3 h4
  exact ⟨n, x, τ', h', L', M' ++ R, h1, h2, s, k, M', h5, rfl⟩
theorem Up.app {M M' : Mem} {b : Nat} {p p' : BP} (h : Up M b p p' M') : ∀ X : Mem, Up (X ++ M) b p p' (X ++ M')
  | [] => h
  | x :: X => .there (Up.app h X)
theorem W1.appL {L : Env} {A B : Mem} {K : Env → Mem → Prop} {d k bs : Nat} {x y : Opd} {s : V} {X : Mem} {q : Int} {c : Option Nat} {M1 : Mem} (hs : lkO L x = some s) (hX : LstI s k X) (hy : lkO L y = some (.slice bs 0 1 c 1)) (hbs : At (A ++ (X ++ B)) bs (Arr1 [.int .i64 q] {}) M1) (hk : k + 1 ≤ 1000000)
    (h : ∀ s' X', LstI s' (k + 1) X' → K ((d, s') :: L) (X' ++ (A ++ B))) : W1 ft g ⟨some d, .app 1 8 x y, none⟩ L (A ++ (X ++ B)) K := by
  rcases hX with ⟨rfl, rfl, rfl⟩ | ⟨bA, cs, rfl, hcs, hci, hk0, rfl⟩
  · refine W1.appN (n := 1) hs hy (Src.row hbs (Nat.le_of_ble_eq_true rfl)) (by decide) (by decide) (fun b' => ?_)
    exact h _ [(b', _)] (Or.inr ⟨b', _, rfl, rfl, IntL1 _, by decide, rfl⟩)
  · refine W1.app (n := 1) hs hy (Src.row hbs (Nat.le_of_ble_eq_true rfl)) (by decide) (At.app .here) (by omega) (by show (k + 1) * 8 ≤ 35184372088832; omega) (fun b' => ?_)
    refine h _ [(b', _)] (Or.inr ⟨b', _, rfl, ?_, ?_, by omega, rfl⟩)
    · have hX : ∀ X : List V, X.length = 1 → (cs.drop 0 ++ X).length = k + 1 := by intro X hX; simp [hX, hcs]
      exact hX _ rfl
    · exact IntL.app (by simpa using hci) (IntL1 _)
end
end Go.Ax
end
section
set_option linter.unusedSectionVars false
namespace Go.Ax
variable [Globs]
section
variable {ft : FT FnR} {g : Gz}
end
end Go.Ax
end
section
set_option linter.unusedSectionVars false
namespace Go.Ax
variable [Globs]
section
variable {ft : FT FnR} {g : Gz}
end
end Go.Ax
end
section
set_option linter.unusedSectionVars false
namespace Go.Ax
variable [Globs]
theorem rdB_all {cs : List V} {a : BA} {n : Nat} (h : cs.length = n) : ∀ blk, Arr1 cs a blk → rdB blk true 0 n = some (.agg cs) := by
  intro blk e
  rw [show blk = .arr cs a from e]
  simp only [rdB]
  rw [if_pos trivial, if_pos (by omega), take_all h]
theorem perm_sw (X A B : Mem) : (X ++ (A ++ B)).Perm (A ++ (X ++ B)) := by
  rw [← List.append_assoc, ← List.append_assoc]; exact List.perm_append_comm.append_right B
theorem W1.stS {ft : FT FnR} {g : Gz} {L : Env} {M M' : Mem} {K : Env → Mem → Prop} {a x : Opd} {b o : Nat} {cs : List V} {s : V} (ha : lkO L a = some (.ptr b o)) (hx : lkO L x = some s) (hs : s.scalar = true) (hu : Up M b (Arr1 cs {}) (Arr1 (splice cs o [s]) {}) M') (ho : o + 1 ≤ cs.length) (h : K L M') : W1 ft g ⟨none, .st 1 a x, none⟩ L M K :=
  W1.st ha hx (by rw [V.cells1 hs]; rfl) (by rw [V.cells1 hs]; simp [hs]) (by rw [V.cells1 hs]; exact hu) ho h
theorem IntL.spl {cs xs : List V} (h : IntL cs) (hx : IntL xs) {o : Nat} : IntL (splice cs o xs) := by
  intro v hv
  simp only [splice, List.mem_append] at hv
  rcases hv with (hv | hv) | hv
  · exact h v (List.mem_of_mem_take hv)
  · exact hx v hv
  · exact h v (List.mem_of_mem_drop hv)
theorem IntL.tk {cs : List V} (h : IntL cs) (n : Nat) : IntL (cs.take n) := fun v hv => h v (List.mem_of_mem_take hv)
theorem IntL.dt {cs : List V} (h : IntL cs) (o n : Nat) : IntL ((cs.drop o).take n) := fun v hv => h v (List.mem_of_mem_drop (List.mem_of_mem_take hv))
theorem perm_h (x a b : Nat × BP) (l : Mem) : (x :: a :: b :: l).Perm (a :: b :: x :: l) := (List.Perm.swap a x _).trans (List.Perm.cons a (List.Perm.swap b x l))
theorem rs2 {g : Gz} {L : Env} {M : Mem} {a b : IOper} (h : ReC g a L M) (k : ReC g b L M) : ∀ x ∈ [a, b], ReC g x L M := fun x hx => by
  rcases List.mem_cons.1 hx with rfl | hx
  · exact h
  · rw [List.mem_singleton.1 hx]; exact k
theorem rs1 {g : Gz} {L : Env} {M : Mem} {a : IOper} (h : ReC g a L M) : ∀ x ∈ [a], ReC g x L M := fun x hx => by
  rw [List.mem_singleton.1 hx]; exact h
theorem IntL.allSc {cs : List V} (h : IntL cs) : cs.all V.scalar = true := by
  refine List.all_eq_true.2 fun v hv => ?_
  obtain ⟨n, rfl⟩ := h v hv
  rfl
theorem Cell.ints {g : Gz} {v : V} {b : Nat} (h : Cell g (.sl [.int]) v b) : ∃ (n : Nat) (f : Nat → Int), Slc g [] v n 1 (fun i _ => .int .i64 (f i)) ∧ v.scalar = true ∧ n < b := by
  obtain ⟨np, rows, kf, s1, s2, s3, s4, s5⟩ := h.sl_inv
  have : ∀ i, ∃ q : Int, i < np → rows i = [.int .i64 q] := by
    intro i
    by_cases hi : i < np
    · obtain ⟨u, us, _, _, e, y, h, _⟩ := (s5 i hi).cons_inv
      obtain rfl := h.nil_inv
      obtain ⟨q, rfl⟩ := y.int_inv
      exact ⟨q, fun _ => e⟩
    · exact ⟨0, fun h => absurd h hi⟩
  obtain ⟨pl, hpl⟩ := Classical.skolem.1 this
  refine ⟨np, pl, ?_, s2, s3⟩
  rcases s1.1 with h | ⟨b, o, cap, h1, h2, h3⟩
  · exact Or.inl h
  · refine Or.inr ⟨b, o, cap, h1, h2, fun hp hs => ?_⟩
    obtain ⟨cs, a, q1, q2, q3⟩ := h3 hp hs
    refine ⟨cs, a, q1, q2, fun i hi j hj => ?_⟩
    obtain rfl : j = 0 := by omega
    have e : cs[o + i * 1 + 0]? = some (((rows i)[0]?).getD .undef) := q3 i hi 0 hj
    rw [hpl i hi] at e; exact e
section
variable {ft : FT FnR} {g : Gz}
attribute [local irreducible] W1 WO WC WD WF WV
end
end Go.Ax
end
section
set_option linter.unusedSectionVars false
namespace Go.Ax
variable [Globs]
section
variable {ft : FT FnR} {g : Gz}
end
end Go.Ax
end
section
set_option linter.unusedSectionVars false
namespace Go.Ax
variable [Globs]
section
variable {ft : FT FnR} {g : Gz}
end
end Go.Ax
end
section
set_option linter.unusedSectionVars false
namespace Go.Ax
variable [Globs]
section
variable {ft : FT FnR} {g : Gz}
theorem W1.clr {L : Env} {M : Mem} {K : Env → Mem → Prop} {d : Option Nat} {m : Opd} {b : Nat} {Pk Pv : V → Prop} {M' : Mem} (hm : lkO L m = some (.map b)) (hu : Up M b (MapOf Pk Pv) (MapOf Pk Pv) M')
    (h : K (putL d (.tup []) L) M') : W1 ft g ⟨d, .clr m, none⟩ L M K := by
  refine W1.heavy rfl (fun f xs e => by cases e) fun τ hp hl hs => ?_
  obtain ⟨_, ⟨ob, e1, es, clk, rfl, hes⟩, _⟩ := hs.mem _ hu.mem
  obtain ⟨s1, k1⟩ := hs.put hu (blk := .map [] clk) ⟨_, _, rfl, fun e he => by cases he⟩
  exact ⟨.tup [], _, M', by simp only [hvO, hl.opd hm, clrF, e1], s1, k1, h⟩
end
end Go.Ax
end
