import Derived.Test.YtbgnifoklhediaaGreatDoorA2
set_option linter.unusedSectionVars false
set_option linter.unusedVariables false
set_option linter.unusedSimpArgs false
section
set_option linter.unusedSectionVars false
namespace Go.Ax
variable [Globs]
section
variable {S : Type → Type} [Rep S]
structure RecLe (r r' : Rec S) : Prop where
  call : ∀ {f : Nat} {args : List V} {h : Hp S} {x : V × Hp S}, r.call f args h = some x → r'.call f args h = some x
  code : ∀ {cur : Option Nat} {ic : ICode} {τ : S V} {h : Hp S} {x : X × S V × Hp S}, r.code cur ic τ h = some x → r'.code cur ic τ h = some x
theorem callV_le {r r' : Rec S} (ok : RecLe r r') {f : V} {args : List V} {h : Hp S} {x : V × Hp S} (hv : callV r f args h = some x) : callV r' f args h = some x := by
  unfold callV at hv ⊢
  split at hv
  · exact ok.call hv
  · unfold yieldF at hv ⊢
    split at hv
    case h_2 => cases hv
    rename_i τ ps asg body hg
    obtain ⟨τ0, h0, hv⟩ := Option.bind_eq_some_iff.1 hv
    simp only [h0, Option.bind_some]
    split at hv
    case h_2 => cases hv
    rename_i τ1 h1 e1
    rw [ok.code e1]
    simp only
    split at hv
    case h_2 => cases hv
    rename_i p τb psb asgb bd hg1
    split at hv
    case h_2 => cases hv
    rename_i e2
    rw [ok.code e2]
    exact hv
  · cases hv
theorem opF_le {r r' : Rec S} (ok : RecLe r r') {o : IOp} {ρ : Opd → V} {h : Hp S} {x : V × Hp S} (hv : opF r o ρ h = some x) : opF r' o ρ h = some x := by
  unfold opF at hv ⊢
  split at hv
  · exact callV_le ok hv
  · exact hv
theorem stepO_le {r r' : Rec S} (ok : RecLe r r') {o : IOper} {τ : S V} {h : Hp S} {x : S V × Hp S} (hv : stepO r o τ h = some x) : stepO r' o τ h = some x := by
  unfold stepO at hv ⊢
  split at hv
  · rename_i hw
    rw [if_pos hw]
    obtain ⟨p, hp, e⟩ := Option.map_eq_some_iff.1 hv
    rw [opF_le ok hp]
    simpa using e
  · rename_i hw
    rw [if_neg hw]; exact hv
theorem opsF_le {r r' : Rec S} (ok : RecLe r r') : ∀ {os : List IOper} {τ : S V} {h : Hp S} {x : S V × Hp S}, opsF r os τ h = some x → opsF r' os τ h = some x
  | [], _, _, _, hv => hv
  | o :: os, τ, h, x, hv => by
    simp only [opsF] at hv ⊢
    split at hv
    · rename_i h1; rw [stepO_le ok h1]; exact opsF_le ok hv
    · cases hv
theorem drawF_le {r r' : Rec S} (ok : RecLe r r') : ∀ {os : List DOper} {i : Nat} {pre : List (Nat × Hp S)} {τ : S V} {h : Hp S} {x : S V × Hp S}, drawF r os i pre τ h = some x → drawF r' os i pre τ h = some x
  | [], _, _, _, _, _, hv => hv
  | o :: os, i, pre, τ, h, x, hv => by
    simp only [drawF] at hv ⊢
    split at hv
    · rename_i h1
      rw [stepO_le ok h1]
      simp only
      split at hv
      · rename_i h2; rw [if_pos h2]; exact drawF_le ok hv
      · cases hv
    · cases hv
theorem codeF_le {r r' : Rec S} (ok : RecLe r r') {cur : Option Nat} : ∀ {ic : ICode} {τ : S V} {h : Hp S} {x : X × S V × Hp S}, codeF r cur ic τ h = some x → codeF r' cur ic τ h = some x := by
  intro ic
  induction ic with
  | skip | exit _ | ret => intro τ h x hv; exact hv
  | region ops =>
    intro τ h x hv
    simp only [codeF] at hv ⊢
    split at hv
    · rename_i e; rw [opsF_le ok e]; exact hv
    · cases hv
  | draw ops =>
    intro τ h x hv
    simp only [codeF] at hv ⊢
    split at hv
    · rename_i e; rw [drawF_le ok e]; exact hv
    · cases hv
  | seq a b ha hb =>
    intro τ h x hv
    simp only [codeF] at hv ⊢
    split at hv
    · rename_i e; rw [ha e]; exact hb hv
    · rename_i hno
      rw [ha hv]
      split
      · rename_i e; cases e; exact absurd hv (hno _ _)
      · rfl
  | cond c a b ha hb =>
    intro τ h x hv
    simp only [codeF] at hv ⊢
    split at hv
    · exact ha hv
    · exact hb hv
    · cases hv
  | block id b hb =>
    intro τ h x hv
    simp only [codeF] at hv ⊢
    split at hv
    · rename_i e; rw [hb e]; exact hv
    · rename_i hno
      rw [hb hv]
      split
      · rename_i e; cases e; exact absurd hv (hno _ _ _)
      · rfl
  | loop b hb =>
    intro τ h x hv
    simp only [codeF] at hv ⊢
    split at hv
    · rename_i e; rw [hb e]; exact ok.code hv
    · rename_i hno
      rw [hb hv]
      split
      · rename_i e; cases e; exact absurd hv (hno _ _)
      · rfl
  | scope b hb => intro τ h x hv; exact hb hv
  | rangef f ps asg body _ _ =>
    intro τ h x hv
    simp only [codeF] at hv ⊢
    split at hv
    case isFalse => cases hv
    rename_i hl
    rw [if_pos hl]
    split at hv
    case h_2 => cases hv
    rename_i e
    rw [callV_le ok e]
    exact hv
theorem callF_le {ft : Nat → Option IFun} {r r' : Rec S} (ok : RecLe r r') {f : Nat} {args : List V} {h : Hp S} {x : V × Hp S} (hv : callF ft r f args h = some x) : callF ft r' f args h = some x := by
  unfold callF at hv ⊢
  split at hv
  · cases hv
  rename_i fn hft
  split at hv
  case isFalse => cases hv
  rename_i hle
  rw [if_pos hle]
  split at hv
  · rename_i e; rw [codeF_le ok e]; exact hv
  · rename_i e; rw [codeF_le ok e]; exact hv
  · cases hv
theorem callO_le {ft : FT S} {r r' : Rec S} (ok : RecLe r r') {f : Nat} {args : List V} {h : Hp S} {x : V × Hp S} (hv : callO ft r f args h = some x) : callO ft r' f args h = some x := by
  unfold callO at hv ⊢
  split at hv
  · exact hv
  · exact callF_le ok hv
theorem callO_plain {ft : FT S} (ho : ∀ f args h x, ft.orc f args h = some x → ft.fn f = none) {r r' : Rec S} (ok : RecLe r r') {f : Nat} {args : List V} {h : Hp S} {x : V × Hp S} (hv : callF ft.fn r f args h = some x) : callO ft r' f args h = some x := by
  unfold callO
  split
  · rename_i e
    have := ho _ _ _ _ e
    unfold callF at hv
    rw [this] at hv
    cases hv
  · exact callF_le ok hv
theorem recN_plain {ft : FT S} (ho : ∀ f args h x, ft.orc f args h = some x → ft.fn f = none) : ∀ n, RecLe (S := S) (recN ((ft.fn : Nat → Option IFun) : FT S) n) (recN ft n)
  | 0 => ⟨(fun h => by cases h), (fun h => by cases h)⟩
  | n + 1 => ⟨(fun h => callO_plain ho (recN_plain ho n) h), (fun h => codeF_le (recN_plain ho n) h)⟩
theorem recN_le_succ (ft : FT S) : ∀ n, RecLe (S := S) (recN ft n) (recN ft (n + 1))
  | 0 => ⟨(fun h => by cases h), (fun h => by cases h)⟩
  | n + 1 => ⟨(fun h => callO_le (recN_le_succ ft n) h), (fun h => codeF_le (recN_le_succ ft n) h)⟩
theorem recN_le (ft : FT S) {n k : Nat} (h : n ≤ k) : RecLe (S := S) (recN ft n) (recN ft k) := by
  induction k with
  | zero => obtain rfl : n = 0 := by omega
            exact ⟨fun h => h, fun h => h⟩
  | succ k ih =>
    rcases Nat.lt_or_ge k n with h1 | h1
    · obtain rfl : n = k + 1 := by omega
      exact ⟨fun h => h, fun h => h⟩
    · exact ⟨fun e => (recN_le_succ ft k).call ((ih h1).call e), fun e => (recN_le_succ ft k).code ((ih h1).code e)⟩
end
end Go.Ax
end
section
set_option linter.unusedSectionVars false
namespace Go.Ax
variable [Globs]
abbrev HP := Hp FnR
abbrev EN := FnR V
abbrev BP := Blk FnR → Prop
abbrev Mem := List (Nat × BP)
abbrev Env := List (Nat × V)
abbrev Gz := Nat → Option (Blk FnR)
def lk : Env → Nat → Option V
  | [], _ => none
  | (k, v) :: r, s => bif Nat.beq k s then some v else lk r s
def lkO (L : Env) : Opd → Option V
  | .t s => lk L s
  | .c v => some v
def lkOs (L : Env) : List Opd → Option (List V)
  | [] => some []
  | x :: xs => match lkO L x, lkOs L xs with
    | some v, some vs => some (v :: vs)
    | _, _ => none
def Holds (L : Env) (τ : EN) : Prop := ∀ s v, lk L s = some v → ev τ (.t s) = v
theorem Holds.opd {L : Env} {τ : EN} (h : Holds L τ) {x : Opd} {v : V} (e : lkO L x = some v) : ev τ x = v := by
  cases x with
  | t s => exact h s v e
  | c u => simp only [lkO, Option.some.injEq] at e; exact e
theorem Holds.opds {L : Env} {τ : EN} (h : Holds L τ) : ∀ {xs : List Opd} {vs : List V}, lkOs L xs = some vs → xs.map (ev τ) = vs
  | [], vs, e => by simp only [lkOs, Option.some.injEq] at e; subst e; rfl
  | x :: xs, vs, e => by
    simp only [lkOs] at e
    split at e
    · rename_i v us h1 h2
      cases e
      rw [List.map_cons, h.opd h1, h.opds h2]
    · cases e
theorem Holds.set {L : Env} {τ : EN} (h : Holds L τ) (d : Nat) (v : V) : Holds ((d, v) :: L) (Rep.set τ d v) := by
  intro s u e
  rw [ev_set]
  simp only [lk] at e
  by_cases hs : s = d
  · subst hs
    rw [if_pos rfl]
    have : Nat.beq s s = true := Nat.beq_refl s
    rw [this] at e
    simpa using e
  · rw [if_neg hs]
    have : Nat.beq d s = false := by
      cases hb : Nat.beq d s with
      | false => rfl
      | true => exact absurd (Nat.eq_of_beq_eq_true hb).symm hs
    rw [this] at e
    exact h s u e
def putL (d : Option Nat) (v : V) (L : Env) : Env :=
  match d with
  | some d => (d, v) :: L
  | none => L
theorem Holds.put {L : Env} {τ : EN} (h : Holds L τ) (d : Option Nat) (v : V) : Holds (putL d v L) (putD τ d v) := by
  cases d with
  | none => exact h
  | some d => exact h.set d v
theorem Holds.sub {L L' : Env} {τ : EN} (h : Holds L τ) (hs : ∀ s v, lk L' s = some v → lk L s = some v) : Holds L' τ := fun s v e => h s v (hs s v e)
def subL (L L' : Env) : Prop := ∀ s v, lk L' s = some v → lk L s = some v
theorem subL.nil (L : Env) : subL L [] := fun s v e => by cases e
theorem subL.cons {L L' : Env} {s : Nat} {v : V} (h : lk L s = some v) (hs : subL L L') : subL L ((s, v) :: L') := by
  intro s' v' e
  simp only [lk] at e
  cases hb : Nat.beq s s' with
  | true => rw [hb] at e; simp only [cond_true, Option.some.injEq] at e; subst e; rw [← Nat.eq_of_beq_eq_true hb]; exact h
  | false => rw [hb] at e; exact hs s' v' e
structure Sat (g : Gz) (M : Mem) (h : HP) : Prop where
  fz : ∀ b o, g b = some o → b < h.n ∧ h.get b = some o
  mem : ∀ p ∈ M, p.1 < h.n ∧ (∃ o, h.get p.1 = some o ∧ p.2 o) ∧ g p.1 = none
  nd : (M.map (·.1)).Nodup
structure Kp (M0 : Mem) (h0 : HP) (M : Mem) (h : HP) : Prop where
  n : h0.n ≤ h.n
  keep : ∀ b, b < h0.n → (∀ p ∈ M0, p.1 ≠ b) → h.get b = h0.get b
  from_ : ∀ p ∈ M, (∃ p0 ∈ M0, p0.1 = p.1) ∨ h0.n ≤ p.1
theorem Kp.refl (M : Mem) (h : HP) : Kp M h M h := ⟨Nat.le_refl _, fun _ _ _ => rfl, fun p hp => Or.inl ⟨p, hp, rfl⟩⟩
theorem Kp.trans {M0 M1 M2 : Mem} {h0 h1 h2 : HP} (k : Kp M0 h0 M1 h1) (k' : Kp M1 h1 M2 h2) : Kp M0 h0 M2 h2 := by
  refine ⟨Nat.le_trans k.n k'.n, fun b hb hn => ?_, fun p hp => ?_⟩
  · rw [k'.keep b (Nat.lt_of_lt_of_le hb k.n) fun p hp e => ?_, k.keep b hb hn]
    rcases k.from_ p hp with ⟨p0, h1, h2⟩ | h1
    · exact hn p0 h1 (h2.trans e)
    · omega
  · rcases k'.from_ p hp with ⟨p1, h1, h2⟩ | h1
    · rcases k.from_ p1 h1 with ⟨p0, h3, h4⟩ | h3
      · exact Or.inl ⟨p0, h3, h4.trans h2⟩
      · exact Or.inr (h2 ▸ h3)
    · exact Or.inr (Nat.le_trans k.n h1)
inductive At : Mem → Nat → BP → Mem → Prop
  | here {b : Nat} {p : BP} {M : Mem} : At ((b, p) :: M) b p M
  | there {q : Nat × BP} {M M' : Mem} {b : Nat} {p : BP} (h : At M b p M') : At (q :: M) b p (q :: M')
theorem At.mem {M M' : Mem} {b : Nat} {p : BP} (h : At M b p M') : (b, p) ∈ M := by
  induction h with
  | here => simp
  | there _ ih => simp [ih]
theorem At.perm {M M' : Mem} {b : Nat} {p : BP} (h : At M b p M') : M.Perm ((b, p) :: M') := by
  induction h with
  | here => exact List.Perm.refl _
  | there _ ih => exact (List.Perm.cons _ ih).trans (List.Perm.swap _ _ _)
theorem Sat.perm {g : Gz} {M M' : Mem} {h : HP} (s : Sat g M h) (p : M.Perm M') : Sat g M' h :=
  ⟨s.fz, fun q hq => s.mem q (p.mem_iff.2 hq), (p.map _).nodup_iff.1 s.nd⟩
theorem Sat.sub {g : Gz} {M M' : Mem} {h : HP} (s : Sat g M h) (p : M'.Sublist M) : Sat g M' h :=
  ⟨s.fz, fun q hq => s.mem q (p.subset hq), (p.map _).nodup s.nd⟩
variable {ft : FT FnR} {g : Gz}
def W1 (ft : FT FnR) (g : Gz) (o : IOper) (L : Env) (M : Mem) (K : Env → Mem → Prop) : Prop :=
  ∀ τ h, Holds L τ → Sat g M h → ∃ n τ' h' L' M', stepO (recN ft n) o τ h = some (τ', h') ∧ Holds L' τ' ∧ Sat g M' h' ∧ Kp M h M' h' ∧ K L' M'
def WO (ft : FT FnR) (g : Gz) (os : List IOper) (L : Env) (M : Mem) (K : Env → Mem → Prop) : Prop :=
  ∀ τ h, Holds L τ → Sat g M h → ∃ n τ' h' L' M', opsF (recN ft n) os τ h = some (τ', h') ∧ Holds L' τ' ∧ Sat g M' h' ∧ Kp M h M' h' ∧ K L' M'
def WC (ft : FT FnR) (g : Gz) (cur : Option Nat) (c : ICode) (L : Env) (M : Mem) (K : X → Env → Mem → Prop) : Prop :=
  ∀ τ h, Holds L τ → Sat g M h → ∃ n x τ' h' L' M', codeF (recN ft n) cur c τ h = some (x, τ', h') ∧ Holds L' τ' ∧ Sat g M' h' ∧ Kp M h M' h' ∧ K x L' M'
def WF (ft : FT FnR) (g : Gz) (f : Nat) (args : List V) (M : Mem) (K : V → Mem → Prop) : Prop :=
  ∀ h, Sat g M h → ∃ n v h' M', (recN ft n).call f args h = some (v, h') ∧ Sat g M' h' ∧ Kp M h M' h' ∧ K v M'
def WV (ft : FT FnR) (g : Gz) (f : V) (args : List V) (M : Mem) (K : V → Mem → Prop) : Prop :=
  ∀ h, Sat g M h → ∃ n v h' M', callV (recN ft n) f args h = some (v, h') ∧ Sat g M' h' ∧ Kp M h M' h' ∧ K v M'
theorem WO.nil {L : Env} {M : Mem} {K : Env → Mem → Prop} (h : K L M) : WO ft g [] L M K :=
  fun τ hp hl hs => ⟨0, τ, hp, L, M, rfl, hl, hs, Kp.refl _ _, h⟩
theorem WO.cons {o : IOper} {os : List IOper} {L : Env} {M : Mem} {K : Env → Mem → Prop} (h : W1 ft g o L M fun L' M' => WO ft g os L' M' K) : WO ft g (o :: os) L M K := by
  intro τ hp hl hs
  obtain ⟨n1, τ1, h1, L1, M1, e1, l1, s1, k1, hK⟩ := h τ hp hl hs
  obtain ⟨n2, τ2, h2, L2, M2, e2, l2, s2, k2, hK2⟩ := hK τ1 h1 l1 s1
  refine ⟨max n1 n2, τ2, h2, L2, M2, ?_, l2, s2, k1.trans k2, hK2⟩
  simp only [opsF]
  rw [stepO_le (recN_le ft (Nat.le_max_left n1 n2)) e1]
  exact opsF_le (recN_le ft (Nat.le_max_right n1 n2)) e2
theorem WC.region {cur : Option Nat} {os : List IOper} {L : Env} {M : Mem} {K : X → Env → Mem → Prop} (h : WO ft g os L M (K .normal)) : WC ft g cur (.region os) L M K := by
  intro τ hp hl hs
  obtain ⟨n, τ', h', L', M', e, l, s, k, hK⟩ := h τ hp hl hs
  exact ⟨n, .normal, τ', h', L', M', by simp only [codeF, e], l, s, k, hK⟩
theorem WC.skip {cur : Option Nat} {L : Env} {M : Mem} {K : X → Env → Mem → Prop} (h : K .normal L M) : WC ft g cur .skip L M K :=
  fun τ hp hl hs => ⟨0, _, τ, hp, L, M, rfl, hl, hs, Kp.refl _ _, h⟩
theorem WC.exit {cur : Option Nat} {id : Nat} {L : Env} {M : Mem} {K : X → Env → Mem → Prop} (h : K (.exit id) L M) : WC ft g cur (.exit id) L M K :=
  fun τ hp hl hs => ⟨0, _, τ, hp, L, M, rfl, hl, hs, Kp.refl _ _, h⟩
theorem WC.ret {cur : Option Nat} {L : Env} {M : Mem} {K : X → Env → Mem → Prop} (h : K .ret L M) : WC ft g cur .ret L M K :=
  fun τ hp hl hs => ⟨0, _, τ, hp, L, M, rfl, hl, hs, Kp.refl _ _, h⟩
def thenC (K1 : Env → Mem → Prop) (K : X → Env → Mem → Prop) : X → Env → Mem → Prop
  | .normal => K1
  | x => K x
theorem WC.seq {cur : Option Nat} {a b : ICode} {L : Env} {M : Mem} {K : X → Env → Mem → Prop} (h : WC ft g cur a L M (thenC (fun L' M' => WC ft g cur b L' M' K) K)) : WC ft g cur (.seq a b) L M K := by
  intro τ hp hl hs
  obtain ⟨n1, x1, τ1, h1, L1, M1, e1, l1, s1, k1, hK⟩ := h τ hp hl hs
  cases x1 with
  | normal =>
    obtain ⟨n2, x2, τ2, h2, L2, M2, e2, l2, s2, k2, hK2⟩ := hK τ1 h1 l1 s1
    refine ⟨max n1 n2, x2, τ2, h2, L2, M2, ?_, l2, s2, k1.trans k2, hK2⟩
    simp only [codeF]
    rw [codeF_le (recN_le ft (Nat.le_max_left n1 n2)) e1]
    exact codeF_le (recN_le ft (Nat.le_max_right n1 n2)) e2
  | exit id => exact ⟨n1, .exit id, τ1, h1, L1, M1, by simp only [codeF, e1], l1, s1, k1, hK⟩
  | ret => exact ⟨n1, .ret, τ1, h1, L1, M1, by simp only [codeF, e1], l1, s1, k1, hK⟩
theorem WC.cond {cur : Option Nat} {c : Opd} {a b : ICode} {L : Env} {M : Mem} {K : X → Env → Mem → Prop} {t : Bool} (hc : lkO L c = some (.bool t)) (h1 : t = true → WC ft g cur a L M K) (h2 : t = false → WC ft g cur b L M K) :
    WC ft g cur (.cond c a b) L M K := by
  intro τ hp hl hs
  have e := hl.opd hc
  cases t with
  | true =>
    obtain ⟨n, x, τ', h', L', M', e1, r⟩ := h1 rfl τ hp hl hs
    exact ⟨n, x, τ', h', L', M', by simp only [codeF, e, e1], r⟩
  | false =>
    obtain ⟨n, x, τ', h', L', M', e1, r⟩ := h2 rfl τ hp hl hs
    exact ⟨n, x, τ', h', L', M', by simp only [codeF, e, e1], r⟩
def blockK (id : Nat) (K : X → Env → Mem → Prop) : X → Env → Mem → Prop
  | .exit id' => if Nat.beq id' id then K .normal else K (.exit id')
  | x => K x
theorem WC.block {cur : Option Nat} {id : Nat} {b : ICode} {L : Env} {M : Mem} {K : X → Env → Mem → Prop} (h : WC ft g cur b L M (blockK id K)) : WC ft g cur (.block id b) L M K := by
  intro τ hp hl hs
  obtain ⟨n, x, τ', h', L', M', e, l, s, k, hK⟩ := h τ hp hl hs
  cases x with
  | normal => exact ⟨n, .normal, τ', h', L', M', by simp only [codeF, e], l, s, k, hK⟩
  | ret => exact ⟨n, .ret, τ', h', L', M', by simp only [codeF, e], l, s, k, hK⟩
  | exit id' =>
    simp only [blockK] at hK
    split at hK
    · rename_i hb; exact ⟨n, .normal, τ', h', L', M', by simp only [codeF, e]; rw [if_pos hb], l, s, k, hK⟩
    · rename_i hb; exact ⟨n, .exit id', τ', h', L', M', by simp only [codeF, e]; rw [if_neg hb], l, s, k, hK⟩
theorem WC.scope {cur : Option Nat} {b : ICode} {L : Env} {M : Mem} {K : X → Env → Mem → Prop} (h : WC ft g cur b L M K) : WC ft g cur (.scope b) L M K := h
theorem WC.loop {cur : Option Nat} {b : ICode} {K : X → Env → Mem → Prop} (I : Nat → Env → Mem → Prop)
    (h : ∀ k L M, I k L M → WC ft g cur b L M (thenC (fun L' M' => ∃ k', k' < k ∧ I k' L' M') K)) : ∀ k L M, I k L M → WC ft g cur (.loop b) L M K := by
  intro k
  induction k using Nat.strongRecOn with
  | ind k ih =>
    intro L M hI τ hp hl hs
    obtain ⟨n1, x1, τ1, h1, L1, M1, e1, l1, s1, k1, hK⟩ := h k L M hI τ hp hl hs
    cases x1 with
    | normal =>
      obtain ⟨k', hlt, hI'⟩ := hK
      obtain ⟨n2, x2, τ2, h2, L2, M2, e2, l2, s2, k2, hK2⟩ := ih k' hlt L1 M1 hI' τ1 h1 l1 s1
      refine ⟨max n1 (n2 + 1), x2, τ2, h2, L2, M2, ?_, l2, s2, k1.trans k2, hK2⟩
      have e1' := codeF_le (recN_le ft (Nat.le_max_left n1 (n2 + 1))) e1
      have e2' : (recN ft (n2 + 1)).code cur (.loop b) τ1 h1 = some (x2, τ2, h2) := e2
      have e2'' := (recN_le (S := FnR) ft (Nat.le_max_right n1 (n2 + 1))).code e2'
      simp only [codeF, e1']
      exact e2''
    | exit id => exact ⟨n1, .exit id, τ1, h1, L1, M1, by simp only [codeF, e1], l1, s1, k1, hK⟩
    | ret => exact ⟨n1, .ret, τ1, h1, L1, M1, by simp only [codeF, e1], l1, s1, k1, hK⟩
theorem WC.weak {cur : Option Nat} {c : ICode} {L L' : Env} {M : Mem} {K : X → Env → Mem → Prop} (hs : subL L L') (h : WC ft g cur c L' M K) : WC ft g cur c L M K :=
  fun τ hp hl hsat => h τ hp (hl.sub hs) hsat
theorem WC.mono {cur : Option Nat} {c : ICode} {L : Env} {M : Mem} {K K' : X → Env → Mem → Prop} (h : WC ft g cur c L M K) (hk : ∀ x L M, K x L M → K' x L M) : WC ft g cur c L M K' := by
  intro τ hp hl hs
  obtain ⟨n, x, τ', h', L', M', e, l, s, k, hK⟩ := h τ hp hl hs
  exact ⟨n, x, τ', h', L', M', e, l, s, k, hk _ _ _ hK⟩
theorem WC.drop {cur : Option Nat} {c : ICode} {L : Env} {M M' : Mem} {K : X → Env → Mem → Prop} (hs : M'.Sublist M) (h : WC ft g cur c L M' K) : WC ft g cur c L M K := by
  intro τ hp hl hsat
  obtain ⟨n, x, τ', h', L', M2, e, l, s, k, hK⟩ := h τ hp hl (hsat.sub hs)
  refine ⟨n, x, τ', h', L', M2, e, l, s, ⟨k.n, fun b hb hn => k.keep b hb fun p hp => hn p (hs.subset hp), fun p hp => ?_⟩, hK⟩
  rcases k.from_ p hp with ⟨p0, h1, h2⟩ | h1
  · exact Or.inl ⟨p0, hs.subset h1, h2⟩
  · exact Or.inr h1
end Go.Ax
end
section
set_option linter.unusedSectionVars false
namespace Go.Ax
variable [Globs]
variable {ft : FT FnR} {g : Gz}
section
variable {L : Env} {M : Mem} {K : Env → Mem → Prop}
theorem stepO_yes {r : Rec FnR} {d : Option Nat} {o : IOp} {τ : EN} {h h' : HP} {v : V} (e : opF r o (ev τ) h = some (v, h')) : stepO r ⟨d, o, none⟩ τ h = some (putD τ d v, h') := by
  simp [stepO, wanted, e]
theorem W1.guard {d : Option Nat} {o : IOp} {j : Nat} {want c : Bool} (hc : lk L j = some (.bool c)) (h1 : c = want → W1 ft g ⟨d, o, none⟩ L M K) (h2 : c = (!want) → K (putL d .undef L) M) : W1 ft g ⟨d, o, some (j, want)⟩ L M K := by
  intro τ h hl hs
  have e := hl j _ hc
  have hg : Rep.get τ j = some (.bool c) := by
    simp only [ev] at e
    cases hr : Rep.get τ j with
    | none => rw [hr] at e; cases e
    | some x => rw [hr] at e; exact congrArg some e
  by_cases hcw : c = want
  · obtain ⟨n, τ', h', L', M', e1, r⟩ := h1 hcw τ h hl hs
    refine ⟨n, τ', h', L', M', ?_, r⟩
    have hw : wanted (some (j, want)) τ = true := by simp [wanted, hg, hcw]
    have hw0 : wanted none τ = true := rfl
    unfold stepO at e1 ⊢
    simp only [hw, hw0, if_true] at e1 ⊢
    exact e1
  · have hc2 : c = (!want) := by cases c <;> cases want <;> simp_all
    refine ⟨0, putD τ d .undef, h, putL d .undef L, M, ?_, hl.put d _, hs, Kp.refl _ _, h2 hc2⟩
    have hw : wanted (some (j, want)) τ = false := by simp [wanted, hg, hcw]
    simp [stepO, hw]
theorem W1.guard_y {d : Option Nat} {o : IOp} {j : Nat} {want c : Bool} (hc : lk L j = some (.bool c)) (he : c = want) (h1 : W1 ft g ⟨d, o, none⟩ L M K) : W1 ft g ⟨d, o, some (j, want)⟩ L M K :=
  W1.guard hc (fun _ => h1) (fun e => by subst he; cases c <;> cases e)
theorem W1.guard_n {d : Option Nat} {o : IOp} {j : Nat} {want c : Bool} (hc : lk L j = some (.bool c)) (he : c = (!want)) (h1 : K (putL d .undef L) M) : W1 ft g ⟨d, o, some (j, want)⟩ L M K :=
  W1.guard hc (fun e => by subst he; cases want <;> cases e) (fun _ => h1)
theorem W1.pure {d : Option Nat} {o : IOp} {v : V} (hk : kindOf o = .pure) (hp : ∀ τ : EN, Holds L τ → puO o (ev τ) = some v) (h : K (putL d v L) M) : W1 ft g ⟨d, o, none⟩ L M K := by
  intro τ hp' hl hs
  refine ⟨0, putD τ d v, hp', putL d v L, M, stepO_yes ?_, hl.put d v, hs, Kp.refl _ _, h⟩
  rw [opF_light (by rw [hk]; simp)]
  simp [iop, hk, hp τ hl]
theorem W1.mv {d : Nat} {x : Opd} {v : V} (hx : lkO L x = some v) (h : K ((d, v) :: L) M) : W1 ft g ⟨some d, .mv x, none⟩ L M K :=
  W1.pure (v := v) rfl (fun τ hl => by simp only [puO, hl.opd hx]) h
theorem W1.pick {d : Nat} {c a b : Opd} {t : Bool} (hc : lkO L c = some (.bool t)) (h1 : t = true → ∃ v, lkO L a = some v ∧ K ((d, v) :: L) M) (h2 : t = false → ∃ v, lkO L b = some v ∧ K ((d, v) :: L) M) : W1 ft g ⟨some d, .pick c a b, none⟩ L M K := by
  cases t with
  | true => obtain ⟨v, hv, hK⟩ := h1 rfl
            exact W1.pure (v := v) rfl (fun τ hl => by simp only [puO, hl.opd hc, hl.opd hv]) hK
  | false => obtain ⟨v, hv, hK⟩ := h2 rfl
             exact W1.pure (v := v) rfl (fun τ hl => by simp only [puO, hl.opd hc, hl.opd hv]) hK
theorem W1.pick_t {d : Nat} {c a b : Opd} {t : Bool} {v : V} (hc : lkO L c = some (.bool t)) (ht : t = true) (hv : lkO L a = some v) (h : K ((d, v) :: L) M) : W1 ft g ⟨some d, .pick c a b, none⟩ L M K :=
  W1.pick hc (fun _ => ⟨v, hv, h⟩) (fun e => by rw [ht] at e; cases e)
theorem W1.pick_f {d : Nat} {c a b : Opd} {t : Bool} {v : V} (hc : lkO L c = some (.bool t)) (ht : t = false) (hv : lkO L b = some v) (h : K ((d, v) :: L) M) : W1 ft g ⟨some d, .pick c a b, none⟩ L M K :=
  W1.pick hc (fun e => by rw [ht] at e; cases e) (fun _ => ⟨v, hv, h⟩)
theorem W1.mkfn {d f : Nat} {a c : List Opd} {va vc : List V} (ha : lkOs L a = some va) (hc : lkOs L c = some vc) (h : K ((d, .func f va vc) :: L) M) : W1 ft g ⟨some d, .mkfn f a c, none⟩ L M K :=
  W1.pure (v := .func f va vc) rfl (fun τ hl => by simp only [puO, hl.opds ha, hl.opds hc]) h
theorem W1.ext {d i : Nat} {x : Opd} {vs : List V} {v : V} (hx : lkO L x = some (.tup vs)) (hi : vs[i]? = some v) (h : K ((d, v) :: L) M) : W1 ft g ⟨some d, .ext x i, none⟩ L M K :=
  W1.pure (v := v) rfl (fun τ hl => by simp only [puO, hl.opd hx, hi]) h
theorem W1.nilck {d : Nat} {x : Opd} {b o : Nat} (hx : lkO L x = some (.ptr b o)) (h : K ((d, .ptr b o) :: L) M) : W1 ft g ⟨some d, .nilck x, none⟩ L M K :=
  W1.pure (v := .ptr b o) rfl (fun τ hl => by simp only [puO, hl.opd hx]) h
theorem W1.fa {d off : Nat} {x : Opd} {b o : Nat} (hx : lkO L x = some (.ptr b o)) (h : K ((d, .ptr b (o + off)) :: L) M) : W1 ft g ⟨some d, .fa x off, none⟩ L M K :=
  W1.pure (v := .ptr b (o + off)) rfl (fun τ hl => by simp only [puO, hl.opd hx]) h
theorem W1.fldS {d off sz : Nat} {x : Opd} {cs : List V} {v : V} (hx : lkO L x = some (.agg cs)) (hi : cs[off]? = some v) (h : K ((d, v) :: L) M) : W1 ft g ⟨some d, .fld false off sz x, none⟩ L M K :=
  W1.pure (v := v) rfl (fun τ hl => by simp [puO, hl.opd hx, pickAgg, hi]) h
theorem W1.ia {d e : Nat} {x i : Opd} {b o len : Nat} {cap : Option Nat} {k : IntKind} {n : Int} (hx : lkO L x = some (.slice b o len cap e)) (hi : lkO L i = some (.int k n)) (h0 : 0 ≤ n) (h1 : n < len) (h : K ((d, .ptr b (o + n.toNat * e)) :: L) M) :
    W1 ft g ⟨some d, .ia e x i, none⟩ L M K :=
  W1.pure (v := .ptr b (o + n.toNat * e)) rfl (fun τ hl => by simp [puO, hl.opd hx, hl.opd hi, h0, h1]) h
theorem W1.iaa {d len e : Nat} {x i : Opd} {b o : Nat} {k : IntKind} {n : Int} (hx : lkO L x = some (.ptr b o)) (hi : lkO L i = some (.int k n)) (h0 : 0 ≤ n) (h1 : n < len) (h : K ((d, .ptr b (o + n.toNat * e)) :: L) M) :
    W1 ft g ⟨some d, .iaa len e x i, none⟩ L M K :=
  W1.pure (v := .ptr b (o + n.toNat * e)) rfl (fun τ hl => by simp [puO, hl.opd hx, hl.opd hi, h0, h1]) h
theorem W1.ixS {d len e : Nat} {x i : Opd} {cs : List V} {k : IntKind} {n : Int} {v : V} (hx : lkO L x = some (.agg cs)) (hi : lkO L i = some (.int k n)) (h0 : 0 ≤ n) (h1 : n < len) (hv : cs[n.toNat * e]? = some v) (h : K ((d, v) :: L) M) :
    W1 ft g ⟨some d, .ix len e false x i, none⟩ L M K :=
  W1.pure (v := v) rfl (fun τ hl => by simp [puO, hl.opd hx, hl.opd hi, h0, h1, pickAgg, hv]) h
theorem W1.ixs {d : Nat} {x i : Opd} {s : List UInt8} {k : IntKind} {n : Int} (hx : lkO L x = some (.str s)) (hi : lkO L i = some (.int k n)) (h0 : 0 ≤ n) (h1 : n < s.length) (h : ∀ b : UInt8, s[n.toNat]? = some b → K ((d, .int .u8 b.toNat) :: L) M) :
    W1 ft g ⟨some d, .ixs x i, none⟩ L M K := by
  have hlt : n.toNat < s.length := by omega
  exact W1.pure (v := .int .u8 (s[n.toNat]).toNat) rfl (fun τ hl => by simp [puO, hl.opd hx, hl.opd hi, h0, hlt]) (h _ (List.getElem?_eq_getElem hlt))
theorem W1.bin {d : Nat} {op : BinOp} {x y : Opd} {k j : IntKind} {a b : Int} {v : V} (hx : lkO L x = some (.int k a)) (hy : lkO L y = some (.int j b)) (hv : binI op k a j b = some v) (h : K ((d, v) :: L) M) : W1 ft g ⟨some d, .bin op x y, none⟩ L M K :=
  W1.pure (v := v) rfl (fun τ hl => by simp only [puO, hl.opd hx, hl.opd hy, hv]) h
theorem W1.binStr {d : Nat} {op : BinOp} {x y : Opd} {a b : List UInt8} {v : V} (hx : lkO L x = some (.str a)) (hy : lkO L y = some (.str b)) (hv : binS op a b = some v) (h : K ((d, v) :: L) M) : W1 ft g ⟨some d, .bin op x y, none⟩ L M K :=
  W1.pure (v := v) rfl (fun τ hl => by simp only [puO, hl.opd hx, hl.opd hy, hv]) h
theorem wrap64 {n : Int} (h0 : -9223372036854775808 ≤ n) (h1 : n < 9223372036854775808) : IntKind.i64.wrap n = n := by
  show (if (true && decide ((n % (2 ^ 64 : Int)) ≥ (2 ^ (64 - 1) : Int))) = true then (n % (2 ^ 64 : Int)) - (2 ^ 64 : Int) else (n % (2 ^ 64 : Int))) = n
  simp only [Bool.true_and, decide_eq_true_eq]
  split <;> omega
theorem W1.add {d : Nat} {x y : Opd} {a b : Int} (hx : lkO L x = some (.int .i64 a)) (hy : lkO L y = some (.int .i64 b)) (h0 : -9223372036854775808 ≤ a + b) (h1 : a + b < 9223372036854775808) (h : K ((d, .int .i64 (a + b)) :: L) M) :
    W1 ft g ⟨some d, .bin .add x y, none⟩ L M K := W1.bin hx hy (by simp [binI, ikEq, wrap64 h0 h1]) h
theorem W1.sub {d : Nat} {x y : Opd} {a b : Int} (hx : lkO L x = some (.int .i64 a)) (hy : lkO L y = some (.int .i64 b)) (h0 : -9223372036854775808 ≤ a - b) (h1 : a - b < 9223372036854775808) (h : K ((d, .int .i64 (a - b)) :: L) M) :
    W1 ft g ⟨some d, .bin .sub x y, none⟩ L M K := W1.bin hx hy (by simp [binI, ikEq, wrap64 h0 h1]) h
theorem W1.addU {d : Nat} {x y : Opd} {k : IntKind} {a b : Int} (hx : lkO L x = some (.int k a)) (hy : lkO L y = some (.int k b)) (h : ∀ n, K ((d, .int k n) :: L) M) : W1 ft g ⟨some d, .bin .add x y, none⟩ L M K :=
  W1.bin hx hy (by cases k <;> rfl) (h (k.wrap (a + b)))
theorem W1.subU {d : Nat} {x y : Opd} {k : IntKind} {a b : Int} (hx : lkO L x = some (.int k a)) (hy : lkO L y = some (.int k b)) (h : ∀ n, K ((d, .int k n) :: L) M) : W1 ft g ⟨some d, .bin .sub x y, none⟩ L M K :=
  W1.bin hx hy (by cases k <;> rfl) (h (k.wrap (a - b)))
theorem W1.mulU {d : Nat} {x y : Opd} {k : IntKind} {a b : Int} (hx : lkO L x = some (.int k a)) (hy : lkO L y = some (.int k b)) (h : ∀ n, K ((d, .int k n) :: L) M) : W1 ft g ⟨some d, .bin .mul x y, none⟩ L M K :=
  W1.bin hx hy (by cases k <;> rfl) (h (k.wrap (a * b)))
theorem W1.shlU {d : Nat} {x y : Opd} {k j : IntKind} {a b : Int} (hx : lkO L x = some (.int k a)) (hy : lkO L y = some (.int j b)) (h0 : 0 ≤ b) (h : ∀ n, K ((d, .int k n) :: L) M) : W1 ft g ⟨some d, .bin .shl x y, none⟩ L M K :=
  W1.bin hx hy (by simp only [binI]; rw [if_neg (by omega)]) (h _)
theorem W1.shrU {d : Nat} {x y : Opd} {k j : IntKind} {a b : Int} (hx : lkO L x = some (.int k a)) (hy : lkO L y = some (.int j b)) (h0 : 0 ≤ b) (h : ∀ n, K ((d, .int k n) :: L) M) : W1 ft g ⟨some d, .bin .shr x y, none⟩ L M K :=
  W1.bin hx hy (by simp only [binI]; rw [if_neg (by omega)]) (h _)
theorem W1.lss {d : Nat} {x y : Opd} {k : IntKind} {a b : Int} (hx : lkO L x = some (.int k a)) (hy : lkO L y = some (.int k b)) (h : K ((d, .bool (decide (a < b))) :: L) M) : W1 ft g ⟨some d, .bin .lss x y, none⟩ L M K :=
  W1.bin hx hy (by cases k <;> rfl) h
theorem W1.leq {d : Nat} {x y : Opd} {k : IntKind} {a b : Int} (hx : lkO L x = some (.int k a)) (hy : lkO L y = some (.int k b)) (h : K ((d, .bool (decide (a ≤ b))) :: L) M) : W1 ft g ⟨some d, .bin .leq x y, none⟩ L M K :=
  W1.bin hx hy (by cases k <;> rfl) h
theorem W1.gtr {d : Nat} {x y : Opd} {k : IntKind} {a b : Int} (hx : lkO L x = some (.int k a)) (hy : lkO L y = some (.int k b)) (h : K ((d, .bool (decide (b < a))) :: L) M) : W1 ft g ⟨some d, .bin .gtr x y, none⟩ L M K :=
  W1.bin hx hy (by cases k <;> rfl) h
theorem W1.geq {d : Nat} {x y : Opd} {k : IntKind} {a b : Int} (hx : lkO L x = some (.int k a)) (hy : lkO L y = some (.int k b)) (h : K ((d, .bool (decide (b ≤ a))) :: L) M) : W1 ft g ⟨some d, .bin .geq x y, none⟩ L M K :=
  W1.bin hx hy (by cases k <;> rfl) h
theorem W1.eql {d : Nat} {x y : Opd} {k : IntKind} {a b : Int} (hx : lkO L x = some (.int k a)) (hy : lkO L y = some (.int k b)) (h : K ((d, .bool (decide (a = b))) :: L) M) : W1 ft g ⟨some d, .bin .eql x y, none⟩ L M K :=
  W1.bin hx hy (by cases k <;> rfl) h
theorem W1.neq {d : Nat} {x y : Opd} {k : IntKind} {a b : Int} (hx : lkO L x = some (.int k a)) (hy : lkO L y = some (.int k b)) (h : K ((d, .bool (!decide (a = b))) :: L) M) : W1 ft g ⟨some d, .bin .neq x y, none⟩ L M K :=
  W1.bin hx hy (by cases k <;> rfl) h
theorem W1.cmpS {d : Nat} {op : BinOp} {x y : Opd} {a b : List UInt8} (hx : lkO L x = some (.str a)) (hy : lkO L y = some (.str b)) (hop : op ≠ .add) (hb : (binS op a b).isSome = true) (h : ∀ t, binS op a b = some (.bool t) → K ((d, .bool t) :: L) M) : W1 ft g ⟨some d, .bin op x y, none⟩ L M K := by
  have : ∃ t, binS op a b = some (.bool t) := by
    cases op <;> first | exact absurd rfl hop | (simp [binS] at hb; done) | exact ⟨_, rfl⟩
  obtain ⟨t, ht⟩ := this
  exact W1.binStr hx hy ht (h t ht)
theorem W1.eqv {d : Nat} {q : EqK} {neg : Bool} {x y : Opd} {a b : V} {t : Bool} (hx : lkO L x = some a) (hy : lkO L y = some b) (he : eqk q a b = some t) (h : K ((d, .bool (if neg then !t else t)) :: L) M) : W1 ft g ⟨some d, .eqv q neg x y, none⟩ L M K :=
  W1.pure (v := .bool (if neg then !t else t)) rfl (fun τ hl => by simp only [puO, hl.opd hx, hl.opd hy, he, Option.map_some]) h
theorem W1.not {d : Nat} {x : Opd} {t : Bool} (hx : lkO L x = some (.bool t)) (h : K ((d, .bool (!t)) :: L) M) : W1 ft g ⟨some d, .un .not x, none⟩ L M K :=
  W1.pure (v := .bool (!t)) rfl (fun τ hl => by simp only [puO, hl.opd hx]) h
theorem W1.convU {d : Nat} {k j : IntKind} {x : Opd} {a : Int} (hx : lkO L x = some (.int j a)) (h : K ((d, .int k (k.wrap a)) :: L) M) : W1 ft g ⟨some d, .conv k x, none⟩ L M K :=
  W1.pure (v := .int k (k.wrap a)) rfl (fun τ hl => by simp only [puO, hl.opd hx]) h
theorem W1.len {d : Nat} {x : Opd} {b o n e : Nat} {cap : Option Nat} (hx : lkO L x = some (.slice b o n cap e)) (h : K ((d, .int .i64 n) :: L) M) : W1 ft g ⟨some d, .len false x, none⟩ L M K :=
  W1.pure (v := .int .i64 n) rfl (fun τ hl => by simp only [puO, hl.opd hx]) h
theorem W1.lenN {d : Nat} {x : Opd} (hx : lkO L x = some .nilslice) (h : K ((d, .int .i64 0) :: L) M) : W1 ft g ⟨some d, .len false x, none⟩ L M K :=
  W1.pure (v := .int .i64 0) rfl (fun τ hl => by simp only [puO, hl.opd hx]) h
theorem W1.lenS {d : Nat} {x : Opd} {s : List UInt8} (hx : lkO L x = some (.str s)) (h : K ((d, .int .i64 s.length) :: L) M) : W1 ft g ⟨some d, .len true x, none⟩ L M K :=
  W1.pure (v := .int .i64 s.length) rfl (fun τ hl => by simp only [puO, hl.opd hx]) h
def lkPs (L : Env) : List (Nat × Nat × Opd) → Option (List (Nat × Nat × V))
  | [] => some []
  | (a, b, x) :: r => match lkO L x, lkPs L r with
    | some v, some l => some ((a, b, v) :: l)
    | _, _ => none
theorem Holds.parts {τ : EN} (h : Holds L τ) : ∀ {ps : List (Nat × Nat × Opd)} {vs : List (Nat × Nat × V)}, lkPs L ps = some vs → ps.map (fun p => (p.1, p.2.1, ev τ p.2.2)) = vs
  | [], vs, e => by simp only [lkPs, Option.some.injEq] at e; subst e; rfl
  | (a, b, x) :: r, vs, e => by
    simp only [lkPs] at e
    split at e
    · rename_i v us h1 h2
      cases e
      rw [List.map_cons, h.opd h1, h.parts h2]
    · cases e
theorem W1.bld {d : Nat} {z : List V} {ps : List (Nat × Nat × Opd)} {vs : List (Nat × Nat × V)} {cs : List V} (hp : lkPs L ps = some vs) (hf : fill z vs = some cs) (h : K ((d, .agg cs) :: L) M) : W1 ft g ⟨some d, .bld z ps, none⟩ L M K :=
  W1.pure (v := .agg cs) rfl (fun τ hl => by simp only [puO, hl.parts hp, hf, Option.map_some]) h
theorem W1.read {d : Option Nat} {o : IOp} {v : V} (hk : kindOf o = .read) (hp : ∀ (τ : EN) (h : HP), Holds L τ → Sat g M h → rdO o (ev τ) h.get = some v) (h : K (putL d v L) M) : W1 ft g ⟨d, o, none⟩ L M K := by
  intro τ hp' hl hs
  refine ⟨0, putD τ d v, hp', putL d v L, M, stepO_yes ?_, hl.put d v, hs, Kp.refl _ _, h⟩
  rw [opF_light (by rw [hk]; simp)]
  simp [iop, hk, hp τ hp' hl hs]
theorem W1.ldG {d : Nat} {t : Bool} {n : Nat} {x : Opd} {b o : Nat} {v : V} (hx : lkO L x = some (.ptr b o)) (hv : rdAgg g t b o n = some v) (h : K ((d, v) :: L) M) : W1 ft g ⟨some d, .ld t n x, none⟩ L M K :=
  W1.read (v := v) rfl (fun τ hp hl hs => by simp only [rdO, hl.opd hx]; exact rdAgg_mono (fun b o e => (hs.fz b o e).2) hv) h
def Arr1 (cs : List V) (a : BA) : BP := fun o => o = .arr cs a
theorem W1.ldS {d n : Nat} {x : Opd} {b o : Nat} {cs : List V} {a : BA} {M' : Mem} {v : V} (hx : lkO L x = some (.ptr b o)) (hm : At M b (Arr1 cs a) M') (hv : cs[o]? = some v) (h : K ((d, v) :: L) M) : W1 ft g ⟨some d, .ld false n x, none⟩ L M K :=
  W1.read (v := v) rfl (fun τ hp hl hs => by
    obtain ⟨_, ⟨ob, h1, h2⟩, _⟩ := hs.mem _ hm.mem
    have h3 : hp.get b = some (.arr cs a) := by rw [h1, show ob = .arr cs a from h2]
    simp [rdO, hl.opd hx, rdAgg, h3, hv]) h
theorem W1.ldA {d n : Nat} {x : Opd} {b o : Nat} {cs : List V} {a : BA} {M' : Mem} (hx : lkO L x = some (.ptr b o)) (hm : At M b (Arr1 cs a) M') (hv : o + n ≤ cs.length) (h : K ((d, .agg ((cs.drop o).take n)) :: L) M) : W1 ft g ⟨some d, .ld true n x, none⟩ L M K :=
  W1.read (v := .agg ((cs.drop o).take n)) rfl (fun τ hp hl hs => by
    obtain ⟨_, ⟨ob, h1, h2⟩, _⟩ := hs.mem _ hm.mem
    have h3 : hp.get b = some (.arr cs a) := by rw [h1, show ob = .arr cs a from h2]
    simp [rdO, hl.opd hx, rdAgg, rdG, h3, hv]) h
end
end Go.Ax
end
section
set_option linter.unusedSectionVars false
namespace Go.Ax
variable [Globs]
variable {ft : FT FnR} {g : Gz}
theorem Sat.push {M : Mem} {h : HP} (s : Sat g M h) {blk : Blk FnR} {p : BP} (hp : p blk) : Sat g ((h.n, p) :: M) (h.push blk) ∧ Kp M h ((h.n, p) :: M) (h.push blk) := by
  have hne : ∀ b, b < h.n → (h.push blk).get b = h.get b := fun b hb => by rw [Hp.get_push, if_neg (by omega)]
  refine ⟨⟨fun b o e => ?_, fun q hq => ?_, ?_⟩, ⟨Nat.le_succ _, fun b hb _ => hne b hb, fun q hq => ?_⟩⟩
  · obtain ⟨h1, h2⟩ := s.fz b o e
    exact ⟨Nat.lt_succ_of_lt h1, by rw [hne b h1]; exact h2⟩
  · rcases List.mem_cons.1 hq with rfl | hq
    · refine ⟨Nat.lt_succ_self _, ⟨blk, by rw [Hp.get_push, if_pos rfl], hp⟩, ?_⟩
      cases hg : g h.n with
      | none => rfl
      | some o => have := (s.fz _ o hg).1; omega
    · obtain ⟨h1, ⟨o, h2, h3⟩, h4⟩ := s.mem q hq
      exact ⟨Nat.lt_succ_of_lt h1, ⟨o, by rw [hne _ h1]; exact h2, h3⟩, h4⟩
  · rw [List.map_cons, List.nodup_cons]
    refine ⟨fun hin => ?_, s.nd⟩
    obtain ⟨q, hq, e⟩ := List.mem_map.1 hin
    have := (s.mem q hq).1
    omega
  · rcases List.mem_cons.1 hq with rfl | hq
    · exact Or.inr (Nat.le_refl _)
    · exact Or.inl ⟨q, hq, rfl⟩
inductive Up : Mem → Nat → BP → BP → Mem → Prop
  | here {b : Nat} {p p' : BP} {M : Mem} : Up ((b, p) :: M) b p p' ((b, p') :: M)
  | there {q : Nat × BP} {M M' : Mem} {b : Nat} {p p' : BP} (h : Up M b p p' M') : Up (q :: M) b p p' (q :: M')
theorem Up.mem {M M' : Mem} {b : Nat} {p p' : BP} (h : Up M b p p' M') : (b, p) ∈ M := by
  induction h with
  | here => simp
  | there _ ih => simp [ih]
theorem Up.ids {M M' : Mem} {b : Nat} {p p' : BP} (h : Up M b p p' M') : M'.map (·.1) = M.map (·.1) := by
  induction h with
  | here => rfl
  | there _ ih => simp [ih]
theorem Up.mem' {M M' : Mem} {b : Nat} {p p' : BP} (h : Up M b p p' M') (hn : (M.map (·.1)).Nodup) : ∀ q ∈ M', q = (b, p') ∨ (q ∈ M ∧ q.1 ≠ b) := by
  induction h with
  | here =>
    intro q hq
    rw [List.map_cons, List.nodup_cons] at hn
    rcases List.mem_cons.1 hq with rfl | hq
    · exact Or.inl rfl
    · exact Or.inr ⟨by simp [hq], fun e => hn.1 (e ▸ List.mem_map.2 ⟨q, hq, rfl⟩)⟩
  | @there q0 M0 M0' b p p' h ih =>
    intro q hq
    rw [List.map_cons, List.nodup_cons] at hn
    rcases List.mem_cons.1 hq with rfl | hq
    · refine Or.inr ⟨by simp, fun e => hn.1 ?_⟩
      rw [e]
      exact List.mem_map.2 ⟨(b, p), h.mem, rfl⟩
    · rcases ih hn.2 q hq with h1 | ⟨h1, h2⟩
      · exact Or.inl h1
      · exact Or.inr ⟨by simp [h1], h2⟩
theorem Sat.put {M M' : Mem} {h : HP} {b : Nat} {p p' : BP} (s : Sat g M h) (u : Up M b p p' M') {blk : Blk FnR} (hp : p' blk) : Sat g M' (h.put b blk) ∧ Kp M h M' (h.put b blk) := by
  have hne : ∀ c, c ≠ b → (h.put b blk).get c = h.get c := fun c hc => by rw [Hp.get_put, if_neg hc]
  obtain ⟨hb1, hb2, hb3⟩ := s.mem _ u.mem
  refine ⟨⟨fun c o e => ?_, fun q hq => ?_, by rw [u.ids]; exact s.nd⟩, ⟨Nat.le_refl _, fun c _ hn => hne c fun e => hn _ u.mem e.symm, fun q hq => ?_⟩⟩
  · obtain ⟨h1, h2⟩ := s.fz c o e
    refine ⟨h1, ?_⟩
    rw [hne c fun e' => by subst e'; rw [hb3] at e; cases e]
    exact h2
  · rcases u.mem' s.nd q hq with rfl | ⟨h1, h2⟩
    · exact ⟨hb1, ⟨blk, by rw [Hp.get_put, if_pos rfl], hp⟩, hb3⟩
    · obtain ⟨k1, ⟨o, k2, k3⟩, k4⟩ := s.mem q h1
      exact ⟨k1, ⟨o, by rw [hne _ h2]; exact k2, k3⟩, k4⟩
  · rcases u.mem' s.nd q hq with rfl | ⟨h1, _⟩
    · exact Or.inl ⟨_, u.mem, rfl⟩
    · exact Or.inl ⟨q, h1, rfl⟩
theorem Sat.dead {M M' : Mem} {h : HP} {b : Nat} {p : BP} (s : Sat g M h) (u : At M b p M') (blk : Blk FnR) : Sat g M' (h.put b blk) ∧ Kp M h M' (h.put b blk) := by
  have s1 := s.perm u.perm
  obtain ⟨s2, k2⟩ := s1.put (p' := fun _ => True) (M' := (b, fun _ => True) :: M') Up.here (blk := blk) trivial
  have s3 : Sat g M' (h.put b blk) := s2.sub (List.sublist_cons_self _ _)
  refine ⟨s3, ⟨k2.n, fun c hc hn => k2.keep c hc fun q hq => hn q (u.perm.mem_iff.2 hq), fun q hq => ?_⟩⟩
  rcases k2.from_ q (List.mem_cons_of_mem _ hq) with ⟨q0, h1, h2⟩ | h1
  · exact Or.inl ⟨q0, u.perm.mem_iff.2 h1, h2⟩
  · exact Or.inr h1
section
variable {L : Env} {M : Mem} {K : Env → Mem → Prop}
theorem W1.make {d : Option Nat} {o : IOp} {f : Nat → V} {blk : Blk FnR} {p : BP} (hk : kindOf o = .make) (hp : ∀ τ : EN, Holds L τ → mkO o (ev τ) = some (f, blk)) (hb : p blk) (h : ∀ b, K (putL d (f b) L) ((b, p) :: M)) : W1 ft g ⟨d, o, none⟩ L M K := by
  intro τ hp' hl hs
  obtain ⟨h1, h2⟩ := hs.push hb
  refine ⟨0, putD τ d (f hp'.n), hp'.push blk, putL d (f hp'.n) L, (hp'.n, p) :: M, stepO_yes ?_, hl.put d _, h1, h2, h _⟩
  rw [opF_light (by rw [hk]; simp)]
  simp [iop, hk, hp τ hl]
theorem W1.box {d : Nat} {x : Opd} {v : V} (hx : lkO L x = some v) (hs : v.cells.all V.scalar = true) (h : ∀ b, K ((d, .ptr b 0) :: L) ((b, Arr1 v.cells {}) :: M)) : W1 ft g ⟨some d, .box x, none⟩ L M K :=
  W1.make (p := Arr1 v.cells {}) (f := fun b => .ptr b 0) (blk := .arr v.cells {}) rfl (fun τ hl => by simp only [mkO, hl.opd hx]; rw [if_pos hs]) rfl h
theorem W1.alloc {d : Nat} {z : V} (hs : z.cells.all V.scalar = true) (h : ∀ b, K ((d, .ptr b 0) :: L) ((b, Arr1 z.cells {}) :: M)) : W1 ft g ⟨some d, .alloc z, none⟩ L M K :=
  W1.make (p := Arr1 z.cells {}) (f := fun b => .ptr b 0) (blk := .arr z.cells {}) rfl (fun τ _ => by simp only [mkO]; rw [if_pos hs]) rfl h
theorem W1.bldS {d e len : Nat} {z cs : List V} {ps : List (Nat × Nat × Opd)} {vs : List (Nat × Nat × V)} (hp : lkPs L ps = some vs) (hf : fill (rep len z) vs = some cs) (hs : cs.all V.scalar = true)
    (h : ∀ b, K ((d, .slice b 0 len (some len) e) :: L) ((b, Arr1 cs {}) :: M)) : W1 ft g ⟨some d, .bldS e len z ps, none⟩ L M K :=
  W1.make (p := Arr1 cs {}) (f := fun b => .slice b 0 len (some len) e) (blk := .arr cs {}) rfl (fun τ hl => by simp only [mkO, hl.parts hp, hf]; rw [if_pos hs]) rfl h
theorem W1.mksl {d e bytes : Nat} {z : List V} {l c : Opd} {k j : IntKind} {a b : Int} (hl' : lkO L l = some (.int k a)) (hc' : lkO L c = some (.int j b)) (h0 : 0 ≤ a) (h1 : a ≤ b) (h2 : b * bytes ≤ limit) (h3 : b ≤ limit) (hs : z.all V.scalar = true)
    (h : ∀ x, K ((d, .slice x 0 a.toNat (some b.toNat) e) :: L) ((x, Arr1 (rep b.toNat z) {}) :: M)) : W1 ft g ⟨some d, .mksl e bytes z l c, none⟩ L M K :=
  W1.make (p := Arr1 (rep b.toNat z) {}) (f := fun x => .slice x 0 a.toNat (some b.toNat) e) (blk := .arr (rep b.toNat z) {}) rfl (fun τ hl => by simp only [mkO, hl.opd hl', hl.opd hc']; rw [if_pos ⟨h0, h1, h2, h3, hs⟩]) rfl h
theorem W1.rng {d : Nat} {x : Opd} {s : List UInt8} (hx : lkO L x = some (.str s)) (h : ∀ b, K ((d, .ptr b 0) :: L) ((b, fun o => o = .iter s 0) :: M)) : W1 ft g ⟨some d, .rng x, none⟩ L M K :=
  W1.make (p := fun o => o = .iter s 0) (f := fun b => .ptr b 0) (blk := .iter s 0) rfl (fun τ hl => by simp only [mkO, hl.opd hx]) rfl h
def rdB (o : Blk FnR) (t : Bool) (off n : Nat) : Option V :=
  match o with
  | .arr cs _ => if t then (if off + n ≤ cs.length then some (.agg ((cs.drop off).take n)) else none) else cs[off]?
  | _ => none
theorem rdAgg_rdB {gg : Gz} {b : Nat} {o : Blk FnR} (h : gg b = some o) (t : Bool) (off n : Nat) : rdAgg gg t b off n = rdB o t off n := by
  unfold rdAgg rdB rdG
  rw [h]
  cases o <;> cases t <;> simp
theorem W1.heavy {d : Option Nat} {o : IOp} (hk : kindOf o = .heavy) (hnc : ∀ f as, o ≠ .call f as) (hp : ∀ (τ : EN) (h : HP), Holds L τ → Sat g M h → ∃ v h' M', hvO o (ev τ) h = some (v, h') ∧ Sat g M' h' ∧ Kp M h M' h' ∧ K (putL d v L) M') : W1 ft g ⟨d, o, none⟩ L M K := by
  intro τ hp' hl hs
  obtain ⟨v, h', M', h1, h2, h3, h4⟩ := hp τ hp' hl hs
  refine ⟨0, putD τ d v, h', putL d v L, M', stepO_yes ?_, hl.put d v, h2, h3, h4⟩
  have : opF (recN ft 0) o (ev τ) hp' = iop o (ev τ) hp' := by
    cases o <;> first | rfl | exact absurd rfl (hnc _ _)
  rw [this]
  simp [iop, hk, h1]
theorem W1.stP {n : Nat} {a x : Opd} {b o : Nat} {v : V} {p p' : BP} {M' : Mem} (ha : lkO L a = some (.ptr b o)) (hx : lkO L x = some v) (hn : v.cells.length = n) (hsc : v.cells.all V.scalar = true) (hu : Up M b p p' M')
    (hp : ∀ blk, p blk → ∃ cs, blk = .arr cs {} ∧ o + n ≤ cs.length ∧ p' (.arr (splice cs o v.cells) {})) (h : K L M') : W1 ft g ⟨none, .st n a x, none⟩ L M K := by
  refine W1.heavy rfl (fun f as e => by cases e) fun τ hp' hl hs => ?_
  obtain ⟨_, ⟨ob, h1, h2⟩, _⟩ := hs.mem _ hu.mem
  obtain ⟨cs, rfl, h3, h4⟩ := hp ob h2
  obtain ⟨s1, k1⟩ := hs.put hu h4
  refine ⟨.undef, _, M', ?_, s1, k1, h⟩
  subst hn
  simp only [hvO, hl.opd ha, hl.opd hx]
  rw [if_pos (Nat.beq_refl _)]
  unfold Hp.wr
  rw [h1]
  simp [hsc, h3]
theorem W1.st {n : Nat} {a x : Opd} {b o : Nat} {v : V} {cs : List V} {M' : Mem} (ha : lkO L a = some (.ptr b o)) (hx : lkO L x = some v) (hn : v.cells.length = n) (hsc : v.cells.all V.scalar = true) (hu : Up M b (Arr1 cs {}) (Arr1 (splice cs o v.cells) {}) M')
    (hlen : o + n ≤ cs.length) (h : K L M') : W1 ft g ⟨none, .st n a x, none⟩ L M K :=
  W1.stP ha hx hn hsc hu (fun _ e => ⟨cs, e, hlen, rfl⟩) h
def Src (g : Gz) (M : Mem) (e : Nat) (x : V) (xs : List V) (n : Nat) : Prop := ∀ h : HP, Sat g M h → srcCells h e x = some (xs, n)
theorem Src.row {b o n e : Nat} {cap : Option Nat} {cs : List V} {a : BA} {M' : Mem} (hm : At M b (Arr1 cs a) M') (hl : o + n * e ≤ cs.length) : Src g M e (.slice b o n cap e) ((cs.drop o).take (n * e)) n := by
  intro h s
  obtain ⟨_, ⟨ob, h1, h2⟩, _⟩ := s.mem _ hm.mem
  have h3 : h.get b = some (.arr cs a) := by rw [h1, show ob = .arr cs a from h2]
  exact srcCells_of (by simp [rdG, h3, hl])
theorem Src.nil {e : Nat} : Src g M e .nilslice [] 0 := fun _ _ => rfl
theorem W1.appN {d e bytes : Nat} {s x : Opd} {vx : V} {xs : List V} {n : Nat} (hs : lkO L s = some .nilslice) (hx : lkO L x = some vx) (hsrc : Src g M e vx xs n) (hn : n ≠ 0) (hlim : n * bytes ≤ limit) (h : ∀ b, K ((d, .slice b 0 n none e) :: L) ((b, Arr1 xs {}) :: M)) :
    W1 ft g ⟨some d, .app e bytes s x, none⟩ L M K := by
  refine W1.heavy rfl (fun f as e => by cases e) fun τ hp hl hsat => ?_
  obtain ⟨h1, h2⟩ := hsat.push (p := Arr1 xs {}) (blk := .arr xs {}) rfl
  refine ⟨.slice hp.n 0 n none e, hp.push (.arr xs {}), _, ?_, h1, h2, h _⟩
  simp only [hvO, hl.opd hs, hl.opd hx, appendF, hsrc hp hsat]
  have hb : Nat.beq n 0 = false := by cases n with | zero => exact absurd rfl hn | succ n => rfl
  rw [hb]
  simp [Nat.ble_eq_true_of_le hlim]
theorem W1.app {d e bytes : Nat} {s x : Opd} {vx : V} {xs cs : List V} {b o len n : Nat} {M' : Mem} (hs : lkO L s = some (.slice b o len none e)) (hx : lkO L x = some vx) (hsrc : Src g M e vx xs n) (hn : n ≠ 0) (hat : At M b (Arr1 cs {}) M') (hend : o + len * e = cs.length)
    (hlim : (len + n) * bytes ≤ limit) (h : ∀ b', K ((d, .slice b' 0 (len + n) none e) :: L) ((b', Arr1 (cs.drop o ++ xs) {}) :: M')) : W1 ft g ⟨some d, .app e bytes s x, none⟩ L M K := by
  refine W1.heavy rfl (fun f as e => by cases e) fun τ hp hl hsat => ?_
  obtain ⟨s1, k1⟩ := hsat.dead hat .dead
  obtain ⟨s2, k2⟩ := s1.push (p := Arr1 (cs.drop o ++ xs) {}) (blk := .arr (cs.drop o ++ xs) {}) rfl
  obtain ⟨_, ⟨ob, h1, h2⟩, _⟩ := hsat.mem _ hat.mem
  have h3 : hp.get b = some (.arr cs {}) := by rw [h1, show ob = .arr cs {} from h2]
  refine ⟨.slice hp.n 0 (len + n) none e, _, _, ?_, s2, k1.trans k2, h _⟩
  simp only [hvO, hl.opd hs, hl.opd hx, appendF, hsrc hp hsat]
  have hb : Nat.beq n 0 = false := by cases n with | zero => exact absurd rfl hn | succ n => rfl
  rw [hb]
  simp [Nat.ble_eq_true_of_le hlim, h3, hend, Hp.kill]
theorem W1.callV {d : Option Nat} {f : Opd} {as : List Opd} {vf : V} {vs : List V} (hf : lkO L f = some vf) (ha : lkOs L as = some vs) (h : WV ft g vf vs M fun v M' => K (putL d v L) M') : W1 ft g ⟨d, .call f as, none⟩ L M K := by
  intro τ hp hl hs
  obtain ⟨n, v, h', M', h1, h2, h3, h4⟩ := h hp hs
  refine ⟨n, putD τ d v, h', putL d v L, M', stepO_yes ?_, hl.put d v, h2, h3, h4⟩
  simp only [opF, hl.opd hf, hl.opds ha, h1]
theorem WV.func {f : Nat} {first caps args : List V} {M : Mem} {K : V → Mem → Prop} (h : WF ft g f (first ++ args ++ caps) M K) : WV ft g (.func f first caps) args M K := by
  intro hp hs
  obtain ⟨n, v, h', M', h1, h2⟩ := h hp hs
  exact ⟨n, v, h', M', h1, h2⟩
theorem WF.mono {f : Nat} {args : List V} {M : Mem} {K K' : V → Mem → Prop} (h : WF ft g f args M K) (hk : ∀ v M', K v M' → K' v M') : WF ft g f args M K' := by
  intro hp hs
  obtain ⟨n, v, h', M', h1, h2, h3, h4⟩ := h hp hs
  exact ⟨n, v, h', M', h1, h2, h3, hk _ _ h4⟩
theorem WF.frame {f : Nat} {args : List V} {M0 M R : Mem} {K : V → Mem → Prop} (h : WF ft g f args M0 K) (hp : M.Perm (M0 ++ R)) : WF ft g f args M fun v M' => ∃ M1, K v M1 ∧ M' = M1 ++ R := by
  intro hh hs
  have s1 := hs.perm hp
  have s0 : Sat g M0 hh := s1.sub (List.sublist_append_left _ _)
  obtain ⟨n, v, h', M', h1, h2, h3, h4⟩ := h hh s0
  have hnd := s1.nd
  rw [List.map_append, List.nodup_append] at hnd
  obtain ⟨_, ndR, disj⟩ := hnd
  have hR : ∀ p ∈ R, p.1 < hh.n ∧ ∀ q ∈ M0, q.1 ≠ p.1 := fun p hpR =>
    ⟨(s1.mem p (by simp [hpR])).1, fun q hq e => disj q.1 (List.mem_map.2 ⟨q, hq, rfl⟩) p.1 (List.mem_map.2 ⟨p, hpR, rfl⟩) e⟩
  refine ⟨n, v, h', M' ++ R, h1, ⟨h2.fz, fun p hp' => ?_, ?_⟩, ⟨h3.n, fun b hb hn => h3.keep b hb fun p hpM => hn p (hp.mem_iff.2 (by simp [hpM])), fun p hp' => ?_⟩, M', h4, rfl⟩
  · rcases List.mem_append.1 hp' with h5 | h5
    · exact h2.mem p h5
    · obtain ⟨k1, ⟨o, k2, k3⟩, k4⟩ := s1.mem p (by simp [h5])
      exact ⟨Nat.lt_of_lt_of_le k1 h3.n, ⟨o, by rw [h3.keep p.1 k1 (hR p h5).2]; exact k2, k3⟩, k4⟩
  · rw [List.map_append, List.nodup_append]
    refine ⟨h2.nd, ndR, fun a ha b hb e => ?_⟩
    obtain ⟨p, hp1, rfl⟩ := List.mem_map.1 ha
    obtain ⟨q, hq1, rfl⟩ := List.mem_map.1 hb
    rcases h3.from_ p hp1 with ⟨p0, h5, h6⟩ | h5
    · exact (hR q hq1).2 p0 h5 (h6.trans e)
    · have := (hR q hq1).1
      omega
  · rcases List.mem_append.1 hp' with h5 | h5
    · rcases h3.from_ p h5 with ⟨p0, h6, h7⟩ | h6
      · exact Or.inl ⟨p0, hp.mem_iff.2 (by simp [h6]), h7⟩
      · exact Or.inr h6
    · exact Or.inl ⟨p, hp.mem_iff.2 (by simp [h5]), rfl⟩
theorem W1.callP {d : Option Nat} {f : Nat} {as : List Opd} {vs : List V} {R : V → Prop} (ha : lkOs L as = some vs) (h : WF ft g f vs [] fun v M' => M' = [] ∧ R v) (hk : ∀ v, R v → K (putL d v L) M) : W1 ft g ⟨d, .call (.c (.func f [] [])) as, none⟩ L M K := by
  refine W1.callV rfl ha (WV.func ?_)
  simp only [List.nil_append, List.append_nil]
  refine (h.frame (M := M) (R := M) (by simp)).mono fun v M' => ?_
  rintro ⟨M1, ⟨rfl, h1⟩, rfl⟩
  exact hk v h1
def initL : List V → Nat → Env
  | [], _ => []
  | v :: vs, i => (i, v) :: initL vs (i + 1)
theorem initL_holds : ∀ (args : List V) (i : Nat) (τ : EN) (s : Nat) (v : V), lk (initL args i) s = some v → ev (initT args i τ) (.t s) = v
  | [], i, τ, s, v, e => by cases e
  | a :: args, i, τ, s, v, e => by
    simp only [initT]
    simp only [initL, lk] at e
    have low : ∀ (l : List V) (j : Nat) (t : EN) (s : Nat), s < j → ev (initT l j t) (.t s) = ev t (.t s) := by
      intro l
      induction l with
      | nil => intro j t s _; rfl
      | cons x l ih => intro j t s hs; simp only [initT]; rw [ih (j + 1) _ s (by omega), ev_set, if_neg (by omega)]
    cases hb : Nat.beq i s with
    | true =>
      rw [hb] at e
      simp only [cond_true, Option.some.injEq] at e
      subst e
      obtain rfl := Nat.eq_of_beq_eq_true hb
      rw [low args (i + 1) _ i (by omega), ev_set, if_pos rfl]
    | false =>
      rw [hb] at e
      exact initL_holds args (i + 1) _ s v e
def Res (g : Gz) (L : Env) (M : Mem) (rs : List IRes) (vs : List V) : Prop := ∀ (τ : EN) (h : HP), Holds L τ → Sat g M h → resF τ h rs = some vs
theorem Res.nil : Res g L M [] [] := fun _ _ _ _ => rfl
theorem Res.tmp {t : Nat} {v : V} {rs : List IRes} {vs : List V} (h1 : lk L t = some v) (h2 : Res g L M rs vs) : Res g L M (.tmp t :: rs) (v :: vs) :=
  fun τ h hl hs => by simp only [resF, h2 τ h hl hs, hl t v h1, Option.map_some]
theorem Res.cell {t n b o : Nat} {ag : Bool} {v : V} {p : BP} {M' : Mem} {rs : List IRes} {vs : List V} (h1 : lk L t = some (.ptr b o)) (hm : At M b p M') (hv : ∀ blk, p blk → rdB blk ag o n = some v) (h2 : Res g L M rs vs) : Res g L M (.cell t ag n :: rs) (v :: vs) :=
  fun τ h hl hs => by
    obtain ⟨_, ⟨ob, k1, k2⟩, _⟩ := hs.mem _ hm.mem
    simp only [resF, h2 τ h hl hs, hl t _ h1, rdAgg_rdB k1, hv ob k2, Option.bind_some, Option.map_some]
def retK (g : Gz) (rs : List IRes) (K : V → Mem → Prop) : X → Env → Mem → Prop
  | .normal, L, M | .ret, L, M => ∃ vs, Res g L M rs vs ∧ K (packR vs) M
  | _, _, _ => False
theorem WF.intro {f : Nat} {ifn : IFun} (hf : ft.fn f = some ifn) {args : List V} {M : Mem} {K : V → Mem → Prop} (hle : args.length ≤ ifn.nt) (h : WC ft g none ifn.code (initL args 0) M (retK g ifn.res K)) (ho : ∀ as hp, ft.orc f as hp = none := by intros; rfl) : WF ft g f args M K := by
  intro hp hs
  obtain ⟨n, x, τ', h', L', M', e, l, s, k, hK⟩ := h (initT args 0 Rep.emp) hp (initL_holds args 0 _) hs
  have run : ∀ vs, (x = .normal ∨ x = .ret) → resF τ' h' ifn.res = some vs → (recN ft (n + 1)).call f args hp = some (packR vs, h') := by
    intro vs hx hr
    show callO ft (recN ft n) f args hp = _
    unfold callO
    rw [ho]
    show callF ft.fn (recN ft n) f args hp = _
    unfold callF
    rw [hf]
    simp only
    rw [if_pos (Nat.ble_eq_true_of_le hle), e]
    rcases hx with rfl | rfl <;> simp [hr]
  cases x with
  | normal =>
    obtain ⟨vs, h1, h2⟩ := hK
    exact ⟨n + 1, packR vs, h', M', run vs (Or.inl rfl) (h1 τ' h' l s), s, k, h2⟩
  | ret =>
    obtain ⟨vs, h1, h2⟩ := hK
    exact ⟨n + 1, packR vs, h', M', run vs (Or.inr rfl) (h1 τ' h' l s), s, k, h2⟩
  | exit id => exact hK.elim
end
end Go.Ax
end
section
set_option linter.unusedSectionVars false
namespace Go.Ax
variable [Globs]
variable {ft : FT FnR} {g : Gz}
def Rd (g : Gz) (M : Mem) (b o : Nat) (v : V) : Prop := ∀ h : HP, Sat g M h → ∃ cs a, b < h.n ∧ h.get b = some (.arr cs a) ∧ cs[o]? = some v
def Slc (g : Gz) (M : Mem) (s : V) (n e : Nat) (el : Nat → Nat → V) : Prop :=
  (s = .nilslice ∧ n = 0) ∨ ∃ b o cap, s = .slice b o n cap e ∧ (∀ c, cap = some c → n ≤ c) ∧ ∀ h : HP, Sat g M h → ∃ cs a, b < h.n ∧ h.get b = some (.arr cs a) ∧ ∀ i, i < n → ∀ j, j < e → cs[o + i * e + j]? = some (el i j)
theorem WC.loopE {cur : Option Nat} {b : ICode} {K : X → Env → Mem → Prop} {ι : Type} (m : ι → Nat) (E : ι → Env) (J : ι → Mem → Prop)
    (h : ∀ x M, J x M → WC ft g cur b (E x) M (thenC (fun L' M' => ∃ y, m y < m x ∧ subL L' (E y) ∧ J y M') K)) (x : ι) (L : Env) (M : Mem) (h1 : subL L (E x)) (h2 : J x M) : WC ft g cur (.loop b) L M K := by
  refine WC.loop (fun k L M => ∃ x, k = m x ∧ subL L (E x) ∧ J x M) ?_ (m x) L M ⟨x, rfl, h1, h2⟩
  rintro k L M ⟨x, rfl, h1, h2⟩
  refine WC.weak h1 (WC.mono (h x M h2) fun y L' M' => ?_)
  cases y with
  | normal => rintro ⟨z, h3, h4, h5⟩; exact ⟨m z, h3, z, rfl, h4, h5⟩
  | _ => exact fun h => h
theorem WV.mono {f : V} {args : List V} {M : Mem} {K K' : V → Mem → Prop} (h : WV ft g f args M K) (hk : ∀ v M', K v M' → K' v M') : WV ft g f args M K' := by
  intro hp hs
  obtain ⟨n, v, h', M', h1, h2, h3, h4⟩ := h hp hs
  exact ⟨n, v, h', M', h1, h2, h3, hk _ _ h4⟩
section
variable {L : Env} {M : Mem} {K : Env → Mem → Prop}
theorem W1.lenSlc {d n e : Nat} {x : Opd} {s : V} {el : Nat → Nat → V} (hx : lkO L x = some s) (hs : Slc g M s n e el) (h : K ((d, .int .i64 n) :: L) M) : W1 ft g ⟨some d, .len false x, none⟩ L M K := by
  rcases hs with ⟨rfl, rfl⟩ | ⟨b, o, cap, rfl, _, _⟩
  · exact W1.lenN hx h
  · exact W1.len hx h
theorem W1.iaSlc {d n e : Nat} {x i : Opd} {s : V} {el : Nat → Nat → V} {k : IntKind} {a : Int} (hx : lkO L x = some s) (hi : lkO L i = some (.int k a)) (hs : Slc g M s n e el) (h0 : 0 ≤ a) (h1 : a < n)
    (h : ∀ b o, (∀ j, j < e → Rd g M b (o + j) (el a.toNat j)) → K ((d, .ptr b o) :: L) M) : W1 ft g ⟨some d, .ia e x i, none⟩ L M K := by
  rcases hs with ⟨rfl, rfl⟩ | ⟨b, o, cap, rfl, _, hr⟩
  · omega
  · refine W1.ia hx hi h0 h1 (h b (o + a.toNat * e) fun j hj hp hsat => ?_)
    obtain ⟨cs, ba, h4, h2, h3⟩ := hr hp hsat
    exact ⟨cs, ba, h4, h2, h3 a.toNat (by omega) j hj⟩
theorem W1.ldR {d n : Nat} {x : Opd} {b o : Nat} {v : V} (hx : lkO L x = some (.ptr b o)) (hr : Rd g M b o v) (h : K ((d, v) :: L) M) : W1 ft g ⟨some d, .ld false n x, none⟩ L M K :=
  W1.read (v := v) rfl (fun τ hp hl hs => by
    obtain ⟨cs, a, _, h1, h2⟩ := hr hp hs
    simp [rdO, hl.opd hx, rdAgg, h1, h2]) h
end
end Go.Ax
end
section
set_option linter.unusedSectionVars false
namespace Go.Ax
variable [Globs]
mutual
theorem V.same_refl : ∀ (v : V), V.same v v = true
  | .undef | .nilptr | .nilslice | .nilmap | .nilfunc | .niliface => rfl
  | .bool b => by simp [V.same]
  | .int k n => by cases k <;> simp [V.same, ikEq]
  | .str s => by simp only [V.same]; exact (bytesEq_iff s s).2 rfl
  | .ptr b o => by simp [V.same]
  | .slice b o l c e => by cases c <;> simp [V.same, onat]
  | .map b => by simp [V.same]
  | .func f x y => by simp [V.same, V.sames_refl x, V.sames_refl y]
  | .yield l => by simp [V.same]
  | .iface t v => by simp [V.same, V.same_refl v]
  | .agg x => by simp [V.same, V.sames_refl x]
  | .tup x => by simp [V.same, V.sames_refl x]
theorem V.sames_refl : ∀ (v : List V), V.sames v v = true
  | [] => rfl
  | a :: x => by simp [V.sames, V.same_refl a, V.sames_refl x]
end
variable {ft : FT FnR} {g : Gz}
def PreOk (g : Gz) (i : Nat) (pre : List (Nat × Mem)) (prec : List (Nat × HP)) : Prop := ∀ k Mk, (k, Mk) ∈ pre → k < i ∧ ∃ hk, preOf k prec = some hk ∧ Sat g Mk hk
def WD (ft : FT FnR) (g : Gz) (ds : List DOper) (i : Nat) (pre : List (Nat × Mem)) (L : Env) (M : Mem) (K : Env → Mem → Prop) : Prop :=
  ∀ τ h prec, Holds L τ → Sat g M h → PreOk g i pre prec → ∃ n τ' h' L' M', drawF (recN ft n) ds i prec τ h = some (τ', h') ∧ Holds L' τ' ∧ Sat g M' h' ∧ Kp M h M' h' ∧ K L' M'
def ReC (g : Gz) (o : IOper) (L : Env) (M : Mem) : Prop := ∀ (τ : EN) (h : HP), Holds L τ → Sat g M h → reOk o τ h = true
section
variable {L : Env} {M : Mem} {K : Env → Mem → Prop}
theorem WC.draw {cur : Option Nat} {ds : List DOper} {K : X → Env → Mem → Prop} (h : WD ft g ds 0 [] L M (K .normal)) : WC ft g cur (.draw ds) L M K := by
  intro τ hp hl hs
  obtain ⟨n, τ', h', L', M', e, l, s, k, hK⟩ := h τ hp [] hl hs (fun k Mk hk => by cases hk)
  exact ⟨n, .normal, τ', h', L', M', by simp only [codeF, e], l, s, k, hK⟩
theorem WD.nil {i : Nat} {pre : List (Nat × Mem)} (h : K L M) : WD ft g [] i pre L M K :=
  fun τ hp _ hl hs _ => ⟨0, τ, hp, L, M, rfl, hl, hs, Kp.refl _ _, h⟩
theorem WD.cons {o : IOper} {hv : Bool} {rs : List IOper} {bk : List Nat} {ds : List DOper} {i : Nat} {pre : List (Nat × Mem)}
    (h : W1 ft g o L M fun L' M' => (∀ x ∈ rs, ReC g x L' M') ∧ (∀ k ∈ bk, ∃ Mk, (k, Mk) ∈ pre ∧ ReC g o L' Mk) ∧ WD ft g ds (i + 1) (if hv then (i, M) :: pre else pre) L' M' K) :
    WD ft g (⟨o, hv, rs, bk⟩ :: ds) i pre L M K := by
  intro τ hp prec hl hs hpre
  obtain ⟨n1, τ1, h1, L1, M1, e1, l1, s1, k1, hr, hb, hK⟩ := h τ hp hl hs
  have hpre' : PreOk g (i + 1) (if hv then (i, M) :: pre else pre) (if hv then (i, hp) :: prec else prec) := by
    intro k Mk hk
    cases hv with
    | false =>
      obtain ⟨h2, h3⟩ := hpre k Mk (by simpa using hk)
      exact ⟨by omega, by simpa using h3⟩
    | true =>
      simp only [if_true] at hk ⊢
      rcases List.mem_cons.1 hk with e | hk
      · cases e
        exact ⟨by omega, hp, by simp [preOf], hs⟩
      · obtain ⟨h2, hk', h3, h4⟩ := hpre k Mk hk
        refine ⟨by omega, hk', ?_, h4⟩
        have : Nat.beq i k = false := by
          cases e : Nat.beq i k with
          | false => rfl
          | true => have := Nat.eq_of_beq_eq_true e; omega
        simp only [preOf, this]
        exact h3
  obtain ⟨n2, τ2, h2, L2, M2, e2, l2, s2, k2, hK2⟩ := hK τ1 h1 _ l1 s1 hpre'
  refine ⟨max n1 n2, τ2, h2, L2, M2, ?_, l2, s2, k1.trans k2, hK2⟩
  simp only [drawF]
  rw [stepO_le (recN_le ft (Nat.le_max_left n1 n2)) e1]
  simp only
  split
  · exact drawF_le (recN_le ft (Nat.le_max_right n1 n2)) e2
  · rename_i hno
    refine absurd ?_ hno
    rw [Bool.and_eq_true, List.all_eq_true, List.all_eq_true]
    refine ⟨fun x hx => hr x hx τ1 h1 l1 s1, fun k hk => ?_⟩
    obtain ⟨Mk, h3, h4⟩ := hb k hk
    obtain ⟨_, hk', h5, h6⟩ := hpre k Mk h3
    rw [h5]
    exact h4 τ1 hk' l1 h6
theorem WD.cons0 {o : IOper} {ds : List DOper} {i : Nat} {pre : List (Nat × Mem)} (h : W1 ft g o L M fun L' M' => WD ft g ds (i + 1) pre L' M' K) : WD ft g (⟨o, false, [], []⟩ :: ds) i pre L M K := by
  refine WD.cons ?_
  intro τ hp hl hs
  obtain ⟨n1, τ1, h1, L1, M1, e1, l1, s1, k1, hK⟩ := h τ hp hl hs
  exact ⟨n1, τ1, h1, L1, M1, e1, l1, s1, k1, by simp, by simp, by simpa using hK⟩
theorem WD.consH {o : IOper} {ds : List DOper} {i : Nat} {pre : List (Nat × Mem)} (h : W1 ft g o L M fun L' M' => WD ft g ds (i + 1) ((i, M) :: pre) L' M' K) : WD ft g (⟨o, true, [], []⟩ :: ds) i pre L M K := by
  refine WD.cons ?_
  intro τ hp hl hs
  obtain ⟨n1, τ1, h1, L1, M1, e1, l1, s1, k1, hK⟩ := h τ hp hl hs
  exact ⟨n1, τ1, h1, L1, M1, e1, l1, s1, k1, by simp, by simp, by simpa using hK⟩
theorem ReC.of {d : Nat} {o : IOp} {gd : Option (Nat × Bool)} {v : V} (hd : lk L d = some v) (h : ∀ (τ : EN) (hp : HP), Holds L τ → Sat g M hp → rdO o (ev τ) hp.lget = some v) : ReC g ⟨some d, o, gd⟩ L M := by
  intro τ hp hl hs
  unfold reOk
  rw [h τ hp hl hs]
  simp [hl d v hd, V.same_refl]
theorem ReC.skip {d : Option Nat} {o : IOp} {j : Nat} {want c : Bool} (hc : lk L j = some (.bool c)) (he : c = (!want)) : ReC g ⟨d, o, some (j, want)⟩ L M := by
  intro τ hp hl hs
  have e := hl j _ hc
  have hg : Rep.get τ j = some (.bool c) := by
    simp only [ev] at e
    cases hr : Rep.get τ j with
    | none => rw [hr] at e; cases e
    | some x => rw [hr] at e; exact congrArg some e
  have hw : wanted (some (j, want)) τ = false := by subst he; cases want <;> simp [wanted, hg]
  simp [reOk, hw]
theorem lget_of {h : HP} {b : Nat} {o : Blk FnR} (hb : b < h.n) (e : h.get b = some o) : h.lget b = some o := by
  unfold Hp.lget
  cases hc : Nat.ble h.n b with
  | true => have := Nat.le_of_ble_eq_true hc; omega
  | false => exact e
theorem ReC.ldR {d n : Nat} {x : Opd} {gd : Option (Nat × Bool)} {b o : Nat} {v : V} (hx : lkO L x = some (.ptr b o)) (hd : lk L d = some v) (hr : Rd g M b o v) : ReC g ⟨some d, .ld false n x, gd⟩ L M :=
  ReC.of hd fun τ hp hl hs => by
    obtain ⟨cs, a, h0, h1, h2⟩ := hr hp hs
    simp [rdO, hl.opd hx, rdAgg, lget_of h0 h1, h2]
theorem ReC.ldG {d n : Nat} {t : Bool} {x : Opd} {gd : Option (Nat × Bool)} {b o : Nat} {v : V} (hx : lkO L x = some (.ptr b o)) (hd : lk L d = some v) (hr : rdAgg g t b o n = some v) : ReC g ⟨some d, .ld t n x, gd⟩ L M :=
  ReC.of hd fun τ hp hl hs => by
    simp only [rdO, hl.opd hx]
    exact rdAgg_mono (fun b o e => lget_of (hs.fz b o e).1 (hs.fz b o e).2) hr
theorem ReC.ldS {d n : Nat} {x : Opd} {gd : Option (Nat × Bool)} {b o : Nat} {v : V} {cs : List V} {a : BA} {M' : Mem} (hx : lkO L x = some (.ptr b o)) (hd : lk L d = some v) (hm : At M b (Arr1 cs a) M') (hv : cs[o]? = some v) : ReC g ⟨some d, .ld false n x, gd⟩ L M :=
  ReC.ldR hx hd fun h hs => by
    obtain ⟨h0, ⟨ob, h1, h2⟩, _⟩ := hs.mem _ hm.mem
    exact ⟨cs, a, h0, by rw [h1, show ob = .arr cs a from h2], hv⟩
theorem ReC.ldA {d n : Nat} {x : Opd} {gd : Option (Nat × Bool)} {b o : Nat} {cs : List V} {a : BA} {M' : Mem} (hx : lkO L x = some (.ptr b o)) (hd : lk L d = some (.agg ((cs.drop o).take n))) (hm : At M b (Arr1 cs a) M') (hv : o + n ≤ cs.length) : ReC g ⟨some d, .ld true n x, gd⟩ L M :=
  ReC.of hd fun τ hp hl hs => by
    obtain ⟨h0, ⟨ob, h1, h2⟩, _⟩ := hs.mem _ hm.mem
    have h3 : hp.get b = some (.arr cs a) := by rw [h1, show ob = .arr cs a from h2]
    simp [rdO, hl.opd hx, rdAgg, rdG, lget_of h0 h3, hv]
theorem WD.consR {o : IOper} {ds : List DOper} {i : Nat} {pre : List (Nat × Mem)} {bk : List Nat} (h : W1 ft g o L M fun L' M' => ReC g o L' M' ∧ (∀ k ∈ bk, ∃ Mk, (k, Mk) ∈ pre ∧ ReC g o L' Mk) ∧ WD ft g ds (i + 1) pre L' M' K) : WD ft g (⟨o, false, [o], bk⟩ :: ds) i pre L M K := by
  refine WD.cons ?_
  intro τ hp hl hs
  obtain ⟨n1, τ1, h1, L1, M1, e1, l1, s1, k1, hr, hb, hK⟩ := h τ hp hl hs
  exact ⟨n1, τ1, h1, L1, M1, e1, l1, s1, k1, by simpa using hr, hb, by simpa using hK⟩
end
end Go.Ax
end
section
set_option linter.unusedSectionVars false
namespace Go.Ax
variable [Globs]
variable {ft : FT FnR} {g : Gz}
def Gz.add (g : Gz) (b : Nat) (o : Blk FnR) : Gz := fun c => bif Nat.beq c b then some o else g c
theorem Gz.add_eq (g : Gz) (b : Nat) (o : Blk FnR) : g.add b o b = some o := by simp [Gz.add]
theorem Gz.add_ne (g : Gz) {b c : Nat} (o : Blk FnR) (h : c ≠ b) : g.add b o c = g c := by
  have : Nat.beq c b = false := by
    cases e : Nat.beq c b with
    | false => rfl
    | true => exact absurd (Nat.eq_of_beq_eq_true e) h
  simp [Gz.add, this]
theorem Sat.freeze {M M' : Mem} {h : HP} {b : Nat} {cs : List V} {a : BA} (s : Sat g M h) (hm : At M b (Arr1 cs a) M') : Sat (g.add b (.arr cs a)) M' h := by
  have s1 := s.perm hm.perm
  obtain ⟨h1, ⟨ob, h2, h3⟩, h4⟩ := s1.mem (b, Arr1 cs a) (by simp)
  have h5 : h.get b = some (.arr cs a) := by rw [h2, show ob = .arr cs a from h3]
  have hnd := s1.nd
  rw [List.map_cons, List.nodup_cons] at hnd
  refine ⟨fun c o e => ?_, fun p hp => ?_, hnd.2⟩
  · by_cases hc : c = b
    · subst hc
      rw [Gz.add_eq] at e; cases e
      exact ⟨h1, h5⟩
    · rw [Gz.add_ne g _ hc] at e; exact s.fz c o e
  · obtain ⟨k1, k2, k3⟩ := s1.mem p (by simp [hp])
    refine ⟨k1, k2, ?_⟩
    rw [Gz.add_ne g _ fun e => hnd.1 (List.mem_map.2 ⟨p, hp, e⟩)]
    exact k3
theorem Sat.thaw {M' : Mem} {h : HP} {b : Nat} {cs : List V} {a : BA} (s : Sat (g.add b (.arr cs a)) M' h) (hb : g b = none) : Sat g ((b, Arr1 cs a) :: M') h := by
  obtain ⟨h1, h2⟩ := s.fz b _ (Gz.add_eq g b _)
  have hne : ∀ p ∈ M', p.1 ≠ b := fun p hp e => by
    have := (s.mem p hp).2.2
    rw [e, Gz.add_eq] at this; cases this
  refine ⟨fun c o e => ?_, fun p hp => ?_, ?_⟩
  · refine s.fz c o ?_
    rw [Gz.add_ne g _ fun e' => by subst e'; rw [hb] at e; cases e]
    exact e
  · rcases List.mem_cons.1 hp with rfl | hp
    · exact ⟨h1, ⟨_, h2, rfl⟩, hb⟩
    · obtain ⟨k1, k2, k3⟩ := s.mem p hp
      rw [Gz.add_ne g _ (hne p hp)] at k3
      exact ⟨k1, k2, k3⟩
  · rw [List.map_cons, List.nodup_cons]
    refine ⟨fun hin => ?_, s.nd⟩
    obtain ⟨p, hp, e⟩ := List.mem_map.1 hin
    exact hne p hp e
def Gz.le (g g' : Gz) : Prop := ∀ b o, g b = some o → g' b = some o
theorem Gz.le_add {b : Nat} {o : Blk FnR} (h : g b = none) : g.le (g.add b o) := fun c p e => by
  rw [Gz.add_ne g _ fun e' => by subst e'; rw [h] at e; cases e]
  exact e
theorem Sat.less {g g' : Gz} (hg : g.le g') {h : HP} (s : Sat g' [] h) : Sat g [] h := ⟨fun b o e => s.fz b o (hg b o e), by simp, by simp⟩
theorem WF.freeze {f : Nat} {args : List V} {M M' : Mem} {b : Nat} {cs : List V} {a : BA} {K : V → Mem → Prop} (hm : At M b (Arr1 cs a) M') (h : g b = none → WF ft (g.add b (.arr cs a)) f args M' fun v M1 => K v ((b, Arr1 cs a) :: M1)) : WF ft g f args M K := by
  intro hp hs
  have hb : g b = none := (hs.mem _ hm.mem).2.2
  obtain ⟨n, v, h', M1, h1, h2, h3, h4⟩ := h hb hp (hs.freeze hm)
  refine ⟨n, v, h', _, h1, h2.thaw hb, ⟨h3.n, fun c hc hn => h3.keep c hc fun p hpM => hn p (hm.perm.mem_iff.2 (by simp [hpM])), fun p hpM => ?_⟩, h4⟩
  rcases List.mem_cons.1 hpM with rfl | hpM
  · exact Or.inl ⟨_, hm.mem, rfl⟩
  · rcases h3.from_ p hpM with ⟨p0, h5, h6⟩ | h5
    · exact Or.inl ⟨p0, hm.perm.mem_iff.2 (by simp [h5]), h6⟩
    · exact Or.inr h5
theorem WC.freeze {cur : Option Nat} {c : ICode} {L : Env} {M M' : Mem} {b : Nat} {cs : List V} {a : BA} {K : X → Env → Mem → Prop} (hm : At M b (Arr1 cs a) M') (h : g b = none → WC ft (g.add b (.arr cs a)) cur c L M' fun x L1 M1 => K x L1 ((b, Arr1 cs a) :: M1)) : WC ft g cur c L M K := by
  intro τ hp hl hs
  have hb : g b = none := (hs.mem _ hm.mem).2.2
  obtain ⟨n, x, τ', h', L1, M1, h1, l1, h2, h3, h4⟩ := h hb τ hp hl (hs.freeze hm)
  refine ⟨n, x, τ', h', L1, _, h1, l1, h2.thaw hb, ⟨h3.n, fun c hc hn => h3.keep c hc fun p hpM => hn p (hm.perm.mem_iff.2 (by simp [hpM])), fun p hpM => ?_⟩, h4⟩
  rcases List.mem_cons.1 hpM with rfl | hpM
  · exact Or.inl ⟨_, hm.mem, rfl⟩
  · rcases h3.from_ p hpM with ⟨p0, h5, h6⟩ | h5
    · exact Or.inl ⟨p0, hm.perm.mem_iff.2 (by simp [h5]), h6⟩
    · exact Or.inr h5
theorem WV.frame {f : V} {args : List V} {M0 M R : Mem} {K : V → Mem → Prop} (h : WV ft g f args M0 K) (hp : M.Perm (M0 ++ R)) : WV ft g f args M fun v M' => ∃ M1, K v M1 ∧ M' = M1 ++ R := by
  intro hh hs
  have s1 := hs.perm hp
  have s0 : Sat g M0 hh := s1.sub (List.sublist_append_left _ _)
  obtain ⟨n, v, h', M', h1, h2, h3, h4⟩ := h hh s0
  have hnd := s1.nd
  rw [List.map_append, List.nodup_append] at hnd
  obtain ⟨_, ndR, disj⟩ := hnd
  have hR : ∀ p ∈ R, p.1 < hh.n ∧ ∀ q ∈ M0, q.1 ≠ p.1 := fun p hpR =>
    ⟨(s1.mem p (by simp [hpR])).1, fun q hq e => disj q.1 (List.mem_map.2 ⟨q, hq, rfl⟩) p.1 (List.mem_map.2 ⟨p, hpR, rfl⟩) e⟩
  refine ⟨n, v, h', M' ++ R, h1, ⟨h2.fz, fun p hp' => ?_, ?_⟩, ⟨h3.n, fun b hb hn => h3.keep b hb fun p hpM => hn p (hp.mem_iff.2 (by simp [hpM])), fun p hp' => ?_⟩, M', h4, rfl⟩
  · rcases List.mem_append.1 hp' with h5 | h5
    · exact h2.mem p h5
    · obtain ⟨k1, ⟨o, k2, k3⟩, k4⟩ := s1.mem p (by simp [h5])
      exact ⟨Nat.lt_of_lt_of_le k1 h3.n, ⟨o, by rw [h3.keep p.1 k1 (hR p h5).2]; exact k2, k3⟩, k4⟩
  · rw [List.map_append, List.nodup_append]
    refine ⟨h2.nd, ndR, fun a ha b hb e => ?_⟩
    obtain ⟨p, hp1, rfl⟩ := List.mem_map.1 ha
    obtain ⟨q, hq1, rfl⟩ := List.mem_map.1 hb
    rcases h3.from_ p hp1 with ⟨p0, h5, h6⟩ | h5
    · exact (hR q hq1).2 p0 h5 (h6.trans e)
    · have := (hR q hq1).1
      omega
  · rcases List.mem_append.1 hp' with h5 | h5
    · rcases h3.from_ p h5 with ⟨p0, h6, h7⟩ | h6
      · exact Or.inl ⟨p0, hp.mem_iff.2 (by simp [h6]), h7⟩
      · exact Or.inr h6
    · exact Or.inl ⟨p, hp.mem_iff.2 (by simp [h5]), rfl⟩
def LoopAt (L : Env) (ps : List Nat) (asg body : ICode) (st : LoopState) (pd : X) : BP := fun o => ∃ τ, o = .loop st pd τ ps asg body ∧ Holds L τ
def roundSt : X → LoopState
  | .normal => .ready
  | _ => .done
def roundB : X → Bool
  | .normal => true
  | _ => false
def setL : List Nat → List V → Env → Option Env
  | [], [], L => some L
  | p :: ps, v :: vs, L => setL ps vs ((p, v) :: L)
  | _, _, _ => none
theorem setL_holds : ∀ {ps : List Nat} {vs : List V} {L L' : Env} {τ : EN}, setL ps vs L = some L' → Holds L τ → ∃ τ', setAll τ ps vs = some τ' ∧ Holds L' τ'
  | [], [], L, L', τ, h, hl => by simp only [setL, Option.some.injEq] at h; subst h; exact ⟨τ, rfl, hl⟩
  | p :: ps, v :: vs, L, L', τ, h, hl => by
    simp only [setL] at h
    obtain ⟨τ', h1, h2⟩ := setL_holds h (hl.set p v)
    exact ⟨τ', h1, h2⟩
  | [], _ :: _, _, _, _, h, _ => by simp [setL] at h
  | _ :: _, [], _, _, _, h, _ => by simp [setL] at h
theorem WV.yield {l : Nat} {args : List V} {M M0 : Mem} {L L0 : Env} {ps : List Nat} {asg body : ICode} {pd : X} {K : V → Mem → Prop} (hm : At M l (LoopAt L ps asg body .ready pd) M0) (ha : setL ps args L = some L0)
    (h : WC ft g (some l) asg L0 M fun x L1 M1 => x = .normal ∧ ∃ M2, Up M1 l (LoopAt L ps asg body .ready pd) (LoopAt L ps asg body .busy pd) M2 ∧
      WC ft g (some l) body L1 M2 fun x _ M3 => ∃ st2 pd2 M4, Up M3 l (LoopAt L ps asg body st2 pd2) (LoopAt L ps asg body (roundSt x) x) M4 ∧
        K (.bool (roundB x)) M4) : WV ft g (.yield l) args M K := by
  intro hp hs
  obtain ⟨_, ⟨ob, e1, τ, rfl, hτ⟩, _⟩ := hs.mem _ hm.mem
  obtain ⟨τ0, e2, hτ0⟩ := setL_holds ha hτ
  obtain ⟨n1, x1, τ1, h1, L1, M1, e3, l1, s1, k1, rfl, M2, u1, hb⟩ := h τ0 hp hτ0 hs
  obtain ⟨_, ⟨ob1, e4, τ2, rfl, hτ2⟩, _⟩ := s1.mem _ u1.mem
  obtain ⟨s2, k2⟩ := s1.put u1 (blk := .loop .busy pd τ2 ps asg body) ⟨τ2, rfl, hτ2⟩
  obtain ⟨n2, x2, τ3, h3, L3, M3, e5, l3, s3, k3, st2, pd2, M4, u2, hK⟩ := hb τ1 _ l1 s2
  obtain ⟨_, ⟨ob2, e6, τ4, rfl, hτ4⟩, _⟩ := s3.mem _ u2.mem
  obtain ⟨s4, k4⟩ := s3.put u2 (blk := .loop (roundSt x2) x2 τ4 ps asg body) ⟨τ4, rfl, hτ4⟩
  refine ⟨max n1 n2 + 1, _, _, M4, ?_, s4, ((k1.trans k2).trans k3).trans k4, hK⟩
  have c1 : (recN ft (max n1 n2 + 1)).code (some l) asg τ0 hp = some (.normal, τ1, h1) := codeF_le (recN_le ft (Nat.le_max_left n1 n2)) e3
  have c2 : (recN ft (max n1 n2 + 1)).code (some l) body τ1 (h1.put l (.loop .busy pd τ2 ps asg body)) = some (x2, τ3, h3) := codeF_le (recN_le ft (Nat.le_max_right n1 n2)) e5
  simp only [callV, yieldF, e1, e2, Option.bind_some, c1, e4, c2, e6]
  cases x2 <;> rfl
end Go.Ax
end
section
set_option linter.unusedSectionVars false
namespace Go.Ax
variable [Globs]
variable {ft : FT FnR} {g : Gz}
theorem WC.rangef {f : Opd} {ps : List Nat} {asg body : ICode} {L : Env} {M : Mem} {K : X → Env → Mem → Prop} {vf : V} (hf : lkO L f = some vf)
    (h : ∀ l, WV ft g vf [.yield l] ((l, LoopAt L ps asg body .ready .normal) :: M) fun _ M1 => ∃ st pd M2, st ≠ .busy ∧ At M1 l (LoopAt L ps asg body st pd) M2 ∧ K pd L M2) : WC ft g none (.rangef f ps asg body) L M K := by
  intro τ hp hl hs
  obtain ⟨s1, k1⟩ := hs.push (p := LoopAt L ps asg body .ready .normal) (blk := .loop .ready .normal τ ps asg body) ⟨τ, rfl, hl⟩
  obtain ⟨n, v, h2, M1, e1, s2, k2, st, pd, M2, hst, hat, hK⟩ := h hp.n _ s1
  obtain ⟨_, ⟨ob, e2, τ', rfl, _⟩, _⟩ := s2.mem _ hat.mem
  obtain ⟨s3, k3⟩ := s2.dead hat (.loop .exhausted pd τ' ps asg body)
  refine ⟨n, pd, τ, h2.put hp.n (.loop .exhausted pd τ' ps asg body), L, M2, ?_, hl, s3, (k1.trans k2).trans k3, hK⟩
  simp only [codeF, Hp.isLoop, if_true, hl.opd hf, e1, e2]
theorem Slc.cons {M : Mem} {s : V} {n e : Nat} {el : Nat → Nat → V} {q : Nat × BP} (h : Slc g M s n e el) : Slc g (q :: M) s n e el := by
  rcases h with h | ⟨b, o, cap, h1, hc, h2⟩
  · exact Or.inl h
  · exact Or.inr ⟨b, o, cap, h1, hc, fun hp hs => h2 hp (hs.sub (List.sublist_cons_self _ _))⟩
theorem Slc.row {M M' : Mem} {b n e : Nat} {cap : Option Nat} {cs : List V} {a : BA} {el : Nat → Nat → V} (hm : At M b (Arr1 cs a) M') (hc : ∀ c, cap = some c → n ≤ c) (h : ∀ i, i < n → ∀ j, j < e → cs[i * e + j]? = some (el i j)) : Slc g M (.slice b 0 n cap e) n e el :=
  Or.inr ⟨b, 0, cap, rfl, hc, fun hp hs => by
    obtain ⟨h0, ⟨ob, h1, h2⟩, _⟩ := hs.mem _ hm.mem
    exact ⟨cs, a, h0, by rw [h1, show ob = .arr cs a from h2], fun i hi j hj => by rw [Nat.zero_add]; exact h i hi j hj⟩⟩
section
variable {L : Env} {M : Mem} {K : Env → Mem → Prop}
def MapOf (Pk Pv : V → Prop) : BP := fun o => ∃ es clk, o = .map es clk ∧ ∀ e ∈ es, Pk e.1 ∧ Pv e.2.1
theorem find_mem {q : EqK} {k : V} : ∀ {es : List (V × V × Nat)} {i j n : Nat} {v : V}, find q k es i = some (some (j, v, n)) → ∃ k', (k', v, n) ∈ es
  | [], i, j, n, v, h => by simp [find] at h
  | (k', v', n') :: es, i, j, n, v, h => by
    simp only [find] at h
    split at h
    · cases h; exact ⟨k', by simp⟩
    · obtain ⟨k2, h2⟩ := find_mem h; exact ⟨k2, by simp [h2]⟩
    · cases h
theorem find_some {q : EqK} {k : V} : ∀ {es : List (V × V × Nat)} (i : Nat), (∀ e ∈ es, (eqk q k e.1).isSome = true) → ∃ r, find q k es i = some r
  | [], i, _ => ⟨none, rfl⟩
  | (k', v', n') :: es, i, h => by
    have h1 := h (k', v', n') (by simp)
    simp only [find]
    cases e : eqk q k k' with
    | none => rw [e] at h1; cases h1
    | some b =>
      cases b with
      | true => exact ⟨_, rfl⟩
      | false => exact find_some (i + 1) fun e he => h e (by simp [he])
theorem setVal_mem {v : V} : ∀ {es : List (V × V × Nat)} {i : Nat} {e : V × V × Nat}, e ∈ setVal v es i → e ∈ es ∨ ∃ e0 ∈ es, e = (e0.1, v, e0.2.2)
  | [], _, e, h => by simp [setVal] at h
  | (k', v', n') :: es, 0, e, h => by
    simp only [setVal] at h
    rcases List.mem_cons.1 h with rfl | h
    · exact Or.inr ⟨(k', v', n'), by simp, rfl⟩
    · exact Or.inl (by simp [h])
  | x :: es, i + 1, e, h => by
    simp only [setVal] at h
    rcases List.mem_cons.1 h with rfl | h
    · exact Or.inl (by simp)
    · rcases setVal_mem h with h1 | ⟨e0, h1, h2⟩
      · exact Or.inl (by simp [h1])
      · exact Or.inr ⟨e0, by simp [h1], h2⟩
def KeyOk (q : EqK) (Pk : V → Prop) : Prop := ∀ a b, Pk a → Pk b → (eqk q a b).isSome = true
theorem W1.mapup {q : EqK} {vk vv : V} {m k v : Opd} {b : Nat} {Pk Pv : V → Prop} {M' : Mem} (hm : lkO L m = some (.map b)) (hk : lkO L k = some vk) (hvv : lkO L v = some vv) (hu : Up M b (MapOf Pk Pv) (MapOf Pk Pv) M') (hq : KeyOk q Pk) (hpk : Pk vk) (hpv : Pv vv)
    (h : K L M') : W1 ft g ⟨none, .mapup q m k v, none⟩ L M K := by
  refine W1.heavy rfl (fun f as e => by cases e) fun τ hp hl hs => ?_
  obtain ⟨_, ⟨ob, e1, es, clk, rfl, hes⟩, _⟩ := hs.mem _ hu.mem
  obtain ⟨r, e3⟩ := find_some (q := q) (k := vk) (es := es) 0 fun e he => hq _ _ hpk (hes e he).1
  have e4 : findK q vk es = some r := by simp [findK, hq _ _ hpk hpk, e3]
  cases r with
  | none =>
    obtain ⟨s1, k1⟩ := hs.put hu (blk := .map (es ++ [(vk, vv, clk)]) (clk + 1)) ⟨_, _, rfl, fun e he => by
      rcases List.mem_append.1 he with h1 | h1
      · exact hes e h1
      · rw [List.mem_singleton] at h1; subst h1; exact ⟨hpk, hpv⟩⟩
    exact ⟨.undef, _, M', by simp only [hvO, hl.opd hm, hl.opd hk, hl.opd hvv, mapupF, e1, e4], s1, k1, h⟩
  | some p =>
    obtain ⟨j, v0, n⟩ := p
    obtain ⟨s1, k1⟩ := hs.put hu (blk := .map (setVal vv es j) clk) ⟨_, _, rfl, fun e he => by
      rcases setVal_mem he with h1 | ⟨e0, h1, rfl⟩
      · exact hes e h1
      · exact ⟨(hes e0 h1).1, hpv⟩⟩
    exact ⟨.undef, _, M', by simp only [hvO, hl.opd hm, hl.opd hk, hl.opd hvv, mapupF, e1, e4], s1, k1, h⟩
end
end Go.Ax
end
section
set_option linter.unusedSectionVars false
namespace Go.Ax
variable [Globs]
variable {ft : FT FnR} {g : Gz}
theorem decode_pos (s : ByteArray) (i : Nat) : 1 ≤ (Utf8.decode s i).2 := by
  unfold Utf8.decode
  simp only
  repeat' split
  all_goals simp
theorem WC.cond_t {cur : Option Nat} {c : Opd} {a b : ICode} {L : Env} {M : Mem} {K : X → Env → Mem → Prop} {t : Bool} (hc : lkO L c = some (.bool t)) (ht : t = true) (h : WC ft g cur a L M K) : WC ft g cur (.cond c a b) L M K :=
  WC.cond hc (fun _ => h) (fun e => by rw [ht] at e; cases e)
theorem WC.cond_f {cur : Option Nat} {c : Opd} {a b : ICode} {L : Env} {M : Mem} {K : X → Env → Mem → Prop} {t : Bool} (hc : lkO L c = some (.bool t)) (ht : t = false) (h : WC ft g cur b L M K) : WC ft g cur (.cond c a b) L M K :=
  WC.cond hc (fun e => by rw [ht] at e; cases e) (fun _ => h)
def IterAt (s : List UInt8) (pos : Nat) : BP := fun o => o = .iter s pos
section
variable {L : Env} {M : Mem} {K : Env → Mem → Prop}
theorem W1.guard_u {d : Option Nat} {o : IOp} {j : Nat} {want : Bool} (hc : lk L j = some .undef) (h : K (putL d .undef L) M) : W1 ft g ⟨d, o, some (j, want)⟩ L M K := by
  intro τ hp hl hs
  have e := hl j _ hc
  have hw : wanted (some (j, want)) τ = false := by
    simp only [ev] at e
    simp only [wanted]
    cases hr : Rep.get τ j with
    | none => rfl
    | some x => rw [hr] at e; simp only [Option.getD_some] at e; subst e; rfl
  exact ⟨0, putD τ d .undef, hp, putL d .undef L, M, by simp [stepO, hw], hl.put d _, hs, Kp.refl _ _, h⟩
theorem W1.nxt {d : Nat} {x : Opd} {b pos : Nat} {s : List UInt8} {M2 : Nat → Mem} (hx : lkO L x = some (.ptr b 0)) (hu : ∀ w, Up M b (IterAt s pos) (IterAt s w) (M2 w))
    (h1 : pos < s.length → ∀ (c : Int) (w : Nat), pos < w → K ((d, .tup [.bool true, .int .i64 pos, .int .i32 c]) :: L) (M2 w)) (h2 : s.length ≤ pos → K ((d, .tup [.bool false]) :: L) M) : W1 ft g ⟨some d, .nxt x, none⟩ L M K := by
  refine W1.heavy rfl (fun f as e => by cases e) fun τ hp hl hs => ?_
  obtain ⟨_, ⟨ob, e1, e2⟩, _⟩ := hs.mem _ (hu 0).mem
  have e3 : hp.get b = some (.iter s pos) := by rw [e1, show ob = .iter s pos from e2]
  by_cases hlt : pos < s.length
  · obtain ⟨s1, k1⟩ := hs.put (hu (pos + (Utf8.decode ⟨s.toArray⟩ pos).2)) (blk := .iter s (pos + (Utf8.decode ⟨s.toArray⟩ pos).2)) rfl
    refine ⟨.tup [.bool true, .int .i64 pos, .int .i32 (Utf8.decode ⟨s.toArray⟩ pos).1], _, _, ?_, s1, k1, h1 hlt _ _ (by have := decode_pos ⟨s.toArray⟩ pos; omega)⟩
    simp only [hvO, hl.opd hx, nxtF, e3, if_pos hlt]
  · exact ⟨.tup [.bool false], hp, M, by simp only [hvO, hl.opd hx, nxtF, e3, if_neg hlt], hs, Kp.refl _ _, h2 (by omega)⟩
end
end Go.Ax
end
section
set_option linter.unusedSectionVars false
namespace Go.Ax
variable [Globs]
variable {ft : FT FnR} {g : Gz}
def Rds (g : Gz) (M : Mem) (b o : Nat) (vs : List V) : Prop := ∀ h : HP, Sat g M h → ∃ cs a, b < h.n ∧ h.get b = some (.arr cs a) ∧ o + vs.length ≤ cs.length ∧ (cs.drop o).take vs.length = vs
theorem Rds.of {M : Mem} {b o : Nat} {vs : List V} (hne : vs ≠ []) (h : ∀ (j : Nat) v, vs[j]? = some v → Rd g M b (o + j) v) : Rds g M b o vs := by
  intro hp hs
  obtain ⟨v0, h0⟩ : ∃ v0, vs[0]? = some v0 := by cases vs with | nil => exact absurd rfl hne | cons v _ => exact ⟨v, rfl⟩
  obtain ⟨cs, a, h1, h2, _⟩ := h 0 v0 h0 hp hs
  have all : ∀ (j : Nat) v, vs[j]? = some v → cs[o + j]? = some v := by
    intro j v hj
    obtain ⟨cs', a', _, h4, h5⟩ := h j v hj hp hs
    rw [h2] at h4; cases h4
    exact h5
  have hlen : o + vs.length ≤ cs.length := by
    have hl : 0 < vs.length := by cases vs with | nil => exact absurd rfl hne | cons _ _ => simp
    have := all (vs.length - 1) _ (List.getElem?_eq_getElem (by omega))
    have := (List.getElem?_eq_some_iff.1 this).1
    omega
  refine ⟨cs, a, h1, h2, hlen, List.ext_getElem? fun j => ?_⟩
  rw [List.getElem?_take]
  split
  · rename_i hj
    rw [List.getElem?_drop, all j _ (List.getElem?_eq_getElem hj), List.getElem?_eq_getElem hj]
  · rename_i hj
    rw [List.getElem?_eq_none (by omega)]
section
variable {L : Env} {M : Mem} {K : Env → Mem → Prop}
theorem W1.ldV {d n : Nat} {x : Opd} {b o : Nat} {vs : List V} (hx : lkO L x = some (.ptr b o)) (hn : vs.length = n) (hr : Rds g M b o vs) (h : K ((d, .agg vs) :: L) M) : W1 ft g ⟨some d, .ld true n x, none⟩ L M K :=
  W1.read (v := .agg vs) rfl (fun τ hp hl hs => by
    obtain ⟨cs, a, _, h1, h2, h3⟩ := hr hp hs
    subst hn
    simp [rdO, hl.opd hx, rdAgg, rdG, h1, h2, h3]) h
def SlcR (g : Gz) (M : Mem) (s : V) (n e : Nat) (row : Nat → List V) : Prop := Slc g M s n e (fun i j => ((row i)[j]?).getD .undef) ∧ e ≠ 0 ∧ ∀ i, i < n → (row i).length = e
theorem W1.iaRow {d n e : Nat} {x i : Opd} {s : V} {row : Nat → List V} {k : IntKind} {a : Int} (hx : lkO L x = some s) (hi : lkO L i = some (.int k a)) (hs : SlcR g M s n e row) (h0 : 0 ≤ a) (h1 : a < n)
    (h : ∀ b o, Rds g M b o (row a.toNat) → K ((d, .ptr b o) :: L) M) : W1 ft g ⟨some d, .ia e x i, none⟩ L M K := by
  obtain ⟨h2, h3, h4⟩ := hs
  refine W1.iaSlc hx hi h2 h0 h1 fun b o hrd => h b o (Rds.of ?_ fun j v hj => ?_)
  · intro e0
    have := h4 a.toNat (by omega)
    rw [e0] at this
    exact h3 this.symm
  · have hlt : j < e := by rw [← h4 a.toNat (by omega)]; exact (List.getElem?_eq_some_iff.1 hj).1
    have := hrd j hlt
    simpa [hj] using this
end
end Go.Ax
end
section
set_option linter.unusedSectionVars false
namespace Go.Ax
variable [Globs]
open Go.RowKit
mutual
def V.ren (ρ : Nat → Nat) : V → V
  | .undef => .undef
  | .bool b => .bool b
  | .int k n => .int k n
  | .str s => .str s
  | .ptr b o => .ptr (ρ b) o
  | .nilptr => .nilptr
  | .slice b o l c e => .slice (ρ b) o l c e
  | .nilslice => .nilslice
  | .map b => .map (ρ b)
  | .nilmap => .nilmap
  | .func f x y => .func f (V.rens ρ x) (V.rens ρ y)
  | .yield l => .yield (ρ l)
  | .nilfunc => .nilfunc
  | .iface t v => .iface t (V.ren ρ v)
  | .niliface => .niliface
  | .agg x => .agg (V.rens ρ x)
  | .tup x => .tup (V.rens ρ x)
def V.rens (ρ : Nat → Nat) : List V → List V
  | [] => []
  | v :: vs => V.ren ρ v :: V.rens ρ vs
end
mutual
def V.inD (D : Nat → Prop) : V → Prop
  | .undef | .bool _ | .int _ _ | .str _ | .nilptr | .nilslice | .nilmap | .nilfunc | .niliface => True
  | .ptr b _ => D b
  | .slice b _ _ _ _ => D b
  | .map b => D b
  | .func _ x y => V.insD D x ∧ V.insD D y
  | .yield l => D l
  | .iface _ v => V.inD D v
  | .agg x => V.insD D x
  | .tup x => V.insD D x
def V.insD (D : Nat → Prop) : List V → Prop
  | [] => True
  | v :: vs => V.inD D v ∧ V.insD D vs
end
theorem V.insD_iff {D : Nat → Prop} : ∀ {vs : List V}, V.insD D vs ↔ ∀ v ∈ vs, V.inD D v
  | [] => by simp [V.insD]
  | v :: vs => by simp [V.insD, V.insD_iff (vs := vs)]
def Spot.like (s t : Spot) : Prop := t.cb = s.cb ∧ t.co = s.co ∧ t.room = s.room
mutual
theorem VR.ren {m m' : GM} {ρ : Nat → Nat} (hm : ∀ b s, m b = some s → ∃ t, m' (ρ b) = some t ∧ s.like t) : ∀ {v : V} {x : Value}, VR m v x → VR m' (v.ren ρ) x
  | _, _, .undef => .undef
  | _, _, .bool b => .bool b
  | _, _, .int k n => .int k n
  | _, _, .str b => .str b
  | _, _, .ptr (s := s) o h => by
    obtain ⟨t, h1, h2, h3, _⟩ := hm _ _ h
    rw [← h2, ← h3]; exact .ptr o h1
  | _, _, .nilptr => .nilptr
  | _, _, .slice o len cap oc e h hc hl hr => by
    obtain ⟨t, h1, h2, h3, h4⟩ := hm _ _ h
    rw [← h2, ← h3]; exact .slice o len cap oc e h1 hc hl (by rw [h4]; exact hr)
  | _, _, .slice0 o e oc a hc h => by
    obtain ⟨t, h1, h2, h3, h4⟩ := hm _ _ h
    exact .slice0 o e oc a hc h1
  | _, _, .nilslice => .nilslice
  | _, _, .map h => by
    obtain ⟨t, h1, h2, h3, _⟩ := hm _ _ h
    rw [← h2]; exact .map h1
  | _, _, .nilmap => .nilmap
  | _, _, .func f hx hy => .func f (VRs.ren hm hx) (VRs.ren hm hy)
  | _, _, .yield h => by
    obtain ⟨t, h1, h2, h3, _⟩ := hm _ _ h
    rw [← h2]; exact .yield h1
  | _, _, .nilfunc => .nilfunc
  | _, _, .iface t h => .iface t (VR.ren hm h)
  | _, _, .niliface => .niliface
  | _, _, .agg h => .agg (VRs.ren hm h)
  | _, _, .tup h => .tup (VRs.ren hm h)
theorem VRs.ren {m m' : GM} {ρ : Nat → Nat} (hm : ∀ b s, m b = some s → ∃ t, m' (ρ b) = some t ∧ s.like t) : ∀ {v : List V} {x : List Value}, VRs m v x → VRs m' (V.rens ρ v) x
  | _, _, .nil => .nil
  | _, _, .cons h hs => .cons (VR.ren hm h) (VRs.ren hm hs)
end
mutual
theorem VR.conv {m m' : GM} {D : Nat → Prop} (hm : ∀ b s, D b → m b = some s → ∃ t, m' b = some t ∧ s.like t) : ∀ {v : V} {x : Value}, VR m v x → v.inD D → VR m' v x
  | _, _, .undef, _ => .undef
  | _, _, .bool b, _ => .bool b
  | _, _, .int k n, _ => .int k n
  | _, _, .str b, _ => .str b
  | _, _, .ptr (s := s) o h, hd => by
    obtain ⟨t, h1, h2, h3, _⟩ := hm _ _ hd h
    rw [← h2, ← h3]; exact .ptr o h1
  | _, _, .nilptr, _ => .nilptr
  | _, _, .slice o len cap oc e h hc hl hr, hd => by
    obtain ⟨t, h1, h2, h3, h4⟩ := hm _ _ hd h
    rw [← h2, ← h3]; exact .slice o len cap oc e h1 hc hl (by rw [h4]; exact hr)
  | _, _, .slice0 o e oc a hc h, hd => by
    obtain ⟨t, h1, h2, h3, h4⟩ := hm _ _ hd h
    exact .slice0 o e oc a hc h1
  | _, _, .nilslice, _ => .nilslice
  | _, _, .map h, hd => by
    obtain ⟨t, h1, h2, h3, _⟩ := hm _ _ hd h
    rw [← h2]; exact .map h1
  | _, _, .nilmap, _ => .nilmap
  | _, _, .func f hx hy, hd => .func f (VRs.conv hm hx hd.1) (VRs.conv hm hy hd.2)
  | _, _, .yield h, hd => by
    obtain ⟨t, h1, h2, h3, _⟩ := hm _ _ hd h
    rw [← h2]; exact .yield h1
  | _, _, .nilfunc, _ => .nilfunc
  | _, _, .iface t h, hd => .iface t (VR.conv hm h hd)
  | _, _, .niliface, _ => .niliface
  | _, _, .agg h, hd => .agg (VRs.conv hm h hd)
  | _, _, .tup h, hd => .tup (VRs.conv hm h hd)
theorem VRs.conv {m m' : GM} {D : Nat → Prop} (hm : ∀ b s, D b → m b = some s → ∃ t, m' b = some t ∧ s.like t) : ∀ {v : List V} {x : List Value}, VRs m v x → V.insD D v → VRs m' v x
  | _, _, .nil, _ => .nil
  | _, _, .cons h hs, hd => .cons (VR.conv hm h hd.1) (VRs.conv hm hs hd.2)
end
mutual
theorem VR.dom {m : GM} : ∀ {v : V} {x : Value}, VR m v x → v.inD (fun b => ∃ s, m b = some s)
  | _, _, .undef => trivial
  | _, _, .bool b => trivial
  | _, _, .int k n => trivial
  | _, _, .str b => trivial
  | _, _, .ptr o h => ⟨_, h⟩
  | _, _, .nilptr => trivial
  | _, _, .slice o len cap oc e h hc hl hr => ⟨_, h⟩
  | _, _, .slice0 o e oc a hc h => ⟨_, h⟩
  | _, _, .nilslice => trivial
  | _, _, .map h => ⟨_, h⟩
  | _, _, .nilmap => trivial
  | _, _, .func f hx hy => ⟨VRs.dom hx, VRs.dom hy⟩
  | _, _, .yield h => ⟨_, h⟩
  | _, _, .nilfunc => trivial
  | _, _, .iface t h => by have := VR.dom h; exact this
  | _, _, .niliface => trivial
  | _, _, .agg h => by have := VRs.dom h; exact this
  | _, _, .tup h => by have := VRs.dom h; exact this
theorem VRs.dom {m : GM} : ∀ {v : List V} {x : List Value}, VRs m v x → V.insD (fun b => ∃ s, m b = some s) v
  | _, _, .nil => trivial
  | _, _, .cons h hs => ⟨VR.dom h, VRs.dom hs⟩
end
theorem VR.down {m m' : GM} (hm : ∀ b s, m b = some s → m' b = some s) {v : V} {x0 x : Value} (h0 : VR m v x0) (h : VR m' v x) : VR m v x :=
  VR.conv (D := fun b => ∃ s, m b = some s) (fun b s ⟨t, ht⟩ hb => by
    have := hm b t ht; rw [hb] at this; cases this
    exact ⟨s, ht, rfl, rfl, rfl⟩) h h0.dom
section
variable {S : Type → Type} [Rep S] {CR : Nat → ICode → Code → Prop}
theorem BR.down {m m' : GM} {s : Spot} {w w' : World} {o : Blk S} (hm : ∀ b s, m b = some s → m' b = some s) (h0 : BR CR m s w o) (h : BR CR m' s w' o) : BR CR m s w' o := by
  cases o with
  | arr cs a =>
    obtain ⟨c0, el0, fz0, _, k2, _⟩ := h0
    obtain ⟨c, el, fz, h1, h2, h3, h4, h5⟩ := h
    refine ⟨c, el, fz, h1, fun i v hv => ?_, h3, h4, h5⟩
    obtain ⟨hs, x, hx, hr⟩ := h2 i v hv
    obtain ⟨_, x0, _, hr0⟩ := k2 i v hv
    exact ⟨hs, x, hx, hr0.down hm hr⟩
  | map es clk =>
    obtain ⟨_, xs0, _, k2⟩ := h0
    obtain ⟨h0', xs, h1, h2⟩ := h
    refine ⟨h0', xs, h1, ?_⟩
    have key : ∀ (es : List (V × V × Nat)) (xs0 xs : List MapEntry), ERs m es xs0 → ERs m' es xs → ERs m es xs := by
      intro es
      induction es with
      | nil => intro xs0 xs _ b; cases b; exact .nil
      | cons e es ih =>
        intro xs0 xs a b
        cases a with
        | cons k1 k2 k3 k4 => cases b with
          | cons l1 l2 l3 l4 => exact .cons (k1.down hm l1) (k2.down hm l2) l3 (ih _ _ k4 l4)
    exact key es xs0 xs k2 h2
  | iter b pos => exact h
  | loop st pend τ ps asg body =>
    obtain ⟨_, l0, _, _, _, k4, _⟩ := h0
    obtain ⟨h0', l, h1, h2, h3, h4, h5, h6, h7, h8⟩ := h
    exact ⟨h0', l, h1, h2, h3, fun i => (k4 i).down hm (h4 i), h5, h6, h7, h8⟩
  | dead => trivial
theorem HR.back {m m' : GM} {h h' : Hp S} {w w' : World} (hr : HR CR m h.get w) (hr' : HR CR m' h'.get w') (fr : Fr m w m' w') (hk : ∀ b s, m b = some s → h'.get b = h.get b) : HR CR m h.get w' ∧ Fr m w m w' := by
  refine ⟨⟨fun b s e => hr'.lt b s (fr.mono b s e), fun b s o e ho => ?_, hr.sep, hr.sepO, hr.gl⟩, ⟨fun _ _ e => e, fr.size, fr.keep, fun _ _ e => e, fun b s e _ => ⟨b, s, e, rfl⟩, fr.os, fr.tape, fr.output⟩⟩
  exact BR.down fr.mono (hr.blk b s o e ho) (hr'.blk b s o (fr.mono b s e) (by rw [hk b s e]; exact ho))
def Tabs {S' : Type → Type} [Rep S'] (h0 : Hp S') (h : Hp S) : Prop := ∀ b o, h0.get b = some o → b ∈ Globs.gl ∧ ∃ cs, o = .arr cs { ro := true } ∧ V.insD (fun _ => False) cs ∧ h.get b = some (.arr cs { ro := true })
theorem CallOk.closed {P : Program} {S' : Type → Type} [Rep S'] (hmx : P.follows .mixedOrders = true) {ft : FT S'} (htb : FtOk P ft) {N f : Nat} {t : Bool} {h0 h1 : Hp S'} (hrun : (recN ft N).call f [] h0 = some (.bool t, h1)) (hn : ∀ k ∈ Globs.gl, k < h0.n) (h : Hp S) (ht : Tabs h0 h) : CallOk P f [] h (.bool t) h := by
  intro m w as va hr hf
  cases va
  let m0 : GM := fun b => if b ∈ Globs.gl then m b else none
  have sub : ∀ b s, m0 b = some s → b ∈ Globs.gl ∧ m b = some s := by
    intro b s e
    by_cases hb : b ∈ Globs.gl
    · simp only [m0, if_pos hb] at e; exact ⟨hb, e⟩
    · simp only [m0, if_neg hb] at e; cases e
  have hr0 : HR (CRc P) m0 h0.get w := by
    refine ⟨fun b s e => hr.lt b s (sub b s e).2, fun b s o e ho => ?_, fun x y sx sy cx ax cy ay _ _ gx gy _ _ => ?_, fun x y sx sy o p _ _ gx _ h1 _ _ => ?_, fun k hk => ?_⟩
    · obtain ⟨_, cs, rfl, hpl, hg⟩ := ht b o ho
      obtain ⟨c, el, fz, k1, k2, k3, k4, k5⟩ := hr.blk b s _ (sub b s e).2 hg
      refine ⟨c, el, fz, k1, fun i v hv => ?_, k3, k4, k5⟩
      obtain ⟨q1, x, q2, q3⟩ := k2 i v hv
      exact ⟨q1, x, q2, VR.conv (D := fun _ => False) (fun _ _ h => h.elim) q3 (V.insD_iff.1 hpl v (List.mem_of_getElem? hv))⟩
    · obtain ⟨_, cs, e1, _⟩ := ht x _ gx
      obtain ⟨_, cs', e2, _⟩ := ht y _ gy
      cases e1; cases e2
      exact Or.inl ⟨rfl, rfl⟩
    · obtain ⟨_, cs, rfl, _⟩ := ht x _ gx
      cases h1
    · obtain ⟨room, e⟩ := hr.gl k hk
      exact ⟨room, by simp only [m0, if_pos hk]; exact e⟩
  have hf0 : Fresh m0 h0.n := by
    intro b hb
    by_cases hg : b ∈ Globs.gl
    · have := hn b hg; omega
    · simp only [m0, if_neg hg]
  obtain ⟨hfn, hc⟩ := (recN_ok hmx htb N).call hrun (m := m0) (w := w) .nil hr0 hf0
  refine ⟨hfn, hc.mono fun e w' ⟨vc, m', he, hv, _, hfr, _⟩ => ?_⟩
  have hkeep : ∀ cb, cb < w.heap.size → w'.heap[cb]? = w.heap[cb]? := fun cb hcb => hfr.keep cb hcb fun ⟨b, s, e, ho, _⟩ => by
    obtain ⟨hb, e⟩ := sub b s e
    obtain ⟨room, e2⟩ := hr.gl b hb
    rw [e] at e2; cases e2; cases ho
  refine ⟨vc, m, he, ?_, hr.frame hfr.size fun b s e => hkeep s.cb (hr.lt b s e), ⟨fun _ _ e => e, hfr.size, fun cb hcb _ => hkeep cb hcb, fun _ _ e => e, fun b s e _ => ⟨b, s, e, rfl⟩, hfr.os, hfr.tape, hfr.output⟩, hf⟩
  cases hv; exact .bool t
end
end Go.Ax
end
section
set_option linter.unusedSectionVars false
namespace Go.Ax
variable [Globs]
open Go.RowKit
mutual
theorem V.inD_and {D E : Nat → Prop} : ∀ {v : V}, v.inD D → v.inD E → v.inD (fun b => D b ∧ E b)
  | .undef, _, _ | .bool _, _, _ | .int _ _, _, _ | .str _, _, _ | .nilptr, _, _ | .nilslice, _, _ | .nilmap, _, _ | .nilfunc, _, _ | .niliface, _, _ => trivial
  | .ptr _ _, a, b => ⟨a, b⟩
  | .slice _ _ _ _ _, a, b => ⟨a, b⟩
  | .map _, a, b => ⟨a, b⟩
  | .func _ _ _, a, b => ⟨V.insD_and a.1 b.1, V.insD_and a.2 b.2⟩
  | .yield _, a, b => ⟨a, b⟩
  | .iface _ v, a, b => by have := V.inD_and (v := v) a b; exact this
  | .agg x, a, b => by have := V.insD_and (vs := x) a b; exact this
  | .tup x, a, b => by have := V.insD_and (vs := x) a b; exact this
theorem V.insD_and {D E : Nat → Prop} : ∀ {vs : List V}, V.insD D vs → V.insD E vs → V.insD (fun b => D b ∧ E b) vs
  | [], _, _ => trivial
  | _ :: _, a, b => ⟨V.inD_and a.1 b.1, V.insD_and a.2 b.2⟩
end
def GOk (g : Gz) : Prop := ∀ b o, g b = some o → ∃ cs a, o = .arr cs a ∧ (a.ro = true ∨ a = {}) ∧ V.insD (fun c => ∃ p, g c = some p) cs
def E2 : Blk FnR := .arr [.nilslice, .nilslice] {}
def LstIn (h : HP) (s : V) (cs : List V) : Prop := (s = .nilslice ∧ cs = []) ∨ ∃ b, s = .slice b 0 cs.length none 1 ∧ b < h.n ∧ h.get b = some (.arr cs {})
def names : V → Nat → Bool
  | .slice b _ _ _ _, x => Nat.beq b x
  | _, _ => false
theorem names_in {h : HP} {s : V} {cs : List V} (l : LstIn h s cs) {x : Nat} (hx : names s x = true) : x < h.n ∧ h.get x = some (.arr cs {}) := by
  rcases l with ⟨rfl, _⟩ | ⟨b, rfl, h1, h2⟩
  · cases hx
  · obtain rfl := Nat.eq_of_beq_eq_true hx; exact ⟨h1, h2⟩
def plainV : V → Prop
  | .int _ _ | .str _ => True
  | _ => False
theorem plainV.inD {D : Nat → Prop} {v : V} (h : plainV v) : v.inD D := by
  cases v <;> first | trivial | exact h.elim
def hush (o : Option (Blk FnR)) (s : Spot) : Spot :=
  match o with
  | some (.arr _ a) => if a.ro then { s with own := false } else s
  | _ => s
theorem hush_like (o : Option (Blk FnR)) (s : Spot) : (hush o s).cb = s.cb ∧ (hush o s).co = s.co ∧ (hush o s).room = s.room := by
  unfold hush
  split
  · split <;> exact ⟨rfl, rfl, rfl⟩
  · exact ⟨rfl, rfl, rfl⟩
def gm2 (g : Gz) (n : Nat) (m : GM) : GM := fun x =>
  match g x with
  | some o => (m x).map (hush (some o))
  | none => if x = n then m (n + 1) else none
section
variable {P : Program} {g : Gz} {h h1 h2 : HP} {m m' : GM} {w w' : World} {sn ss : V} {cn cs : List V}
structure Both (g : Gz) (h h1 h2 : HP) (sn ss : V) (cn cs : List V) : Prop where
  sat : Sat g [] h
  gok : GOk g
  o1 : ∀ b, b < h.n → h1.get b = h.get b
  o2 : ∀ b, b < h.n → h2.get b = h.get b
  e2 : h2.get (h.n + 1) = some E2
  s1 : h1.get h.n = some (.arr [sn, ss] {})
  s2 : h2.get h.n = some (.arr [sn, ss] {})
  n1 : h.n + 2 ≤ h1.n
  n2 : h1.n ≤ h2.n
  ln1 : LstIn h1 sn cn
  ln2 : LstIn h2 sn cn
  ls1 : LstIn h1 ss cs
  ls2 : LstIn h2 ss cs
  lo : ∀ x, names sn x = true ∨ names ss x = true → h.n + 2 ≤ x
  pn : ∀ v ∈ cn, plainV v
  ps : ∀ v ∈ cs, plainV v
  glb : ∀ k ∈ Globs.gl, ∃ o, g k = some o
def h3of (h h1 h2 : HP) (sn ss : V) : HP :=
  ⟨h2.n + h1.n, ⟨fun x => if x < h2.n then
      (if x = h.n + 1 then some (.arr [sn.ren (· + h2.n), ss.ren (· + h2.n)] {})
        else if x ≤ h.n ∨ names sn x = true ∨ names ss x = true then h2.get x else none)
      else (if names sn (x - h2.n) = true ∨ names ss (x - h2.n) = true then h1.get (x - h2.n) else none)⟩⟩
def m3of (n : Nat) (m m' : GM) : GM := fun x => if x < n then m x else m' (x - n)
variable (B : Both g h h1 h2 sn ss cn cs)
include B
theorem Both.lt {b : Nat} {o : Blk FnR} (e : g b = some o) : b < h.n ∧ h.get b = some o := B.sat.fz b o e
theorem Both.gm2_g {b : Nat} {o : Blk FnR} (e : g b = some o) {s : Spot} (hs : m b = some s) : gm2 g h.n m b = some (hush (some o) s) := by
  simp [gm2, e, hs]
theorem Both.gn : g h.n = none := by
  cases e : g h.n with
  | none => rfl
  | some o => have := (B.lt e).1; omega
theorem Both.gm2_n : gm2 g h.n m h.n = m (h.n + 1) := by
  simp [gm2, B.gn]
theorem Both.gm2_inv {b : Nat} {s : Spot} (hs : gm2 g h.n m b = some s) : (∃ o t, g b = some o ∧ m b = some t ∧ s = hush (some o) t) ∨ (b = h.n ∧ m (h.n + 1) = some s) := by
  unfold gm2 at hs
  split at hs
  · rename_i o e
    obtain ⟨t, h1, h2⟩ := Option.map_eq_some_iff.1 hs
    exact Or.inl ⟨o, t, e, h1, h2.symm⟩
  · split at hs
    · exact Or.inr ⟨by assumption, hs⟩
    · cases hs
theorem Both.begin_ (hr : HR (CRc P) m h2.get w) : HR (CRc P) (gm2 g h.n m) ((h.push E2).push E2).get w := by
  have hget : ∀ b, b < h.n → ((h.push E2).push E2).get b = h.get b := fun b hb => by rw [Hp.get_push, if_neg (by show b ≠ h.n + 1; omega), Hp.get_push, if_neg (by omega)]
  have hgetn : ((h.push E2).push E2).get h.n = some E2 := by rw [Hp.get_push, if_neg (by show h.n ≠ h.n + 1; omega), Hp.get_push, if_pos rfl]
  have key : ∀ b s o, gm2 g h.n m b = some s → ((h.push E2).push E2).get b = some o → ∃ b' s', m b' = some s' ∧ h2.get b' = some o ∧ s'.cb = s.cb ∧ s'.co = s.co ∧ ((b < h.n ∧ b' = b) ∨ (b = h.n ∧ b' = h.n + 1)) ∧ ∃ cs a, o = .arr cs a := by
    intro b s o hs ho
    rcases B.gm2_inv hs with ⟨o', t, e, ht, rfl⟩ | ⟨rfl, ht⟩
    · obtain ⟨k1, k2⟩ := B.lt e
      rw [hget b k1, k2] at ho; cases ho
      obtain ⟨cs, a, rfl, _⟩ := B.gok b _ e
      have := hush_like (some (Blk.arr cs a)) t
      exact ⟨b, t, ht, by rw [B.o2 b k1]; exact k2, this.1.symm, this.2.1.symm, Or.inl ⟨k1, rfl⟩, cs, a, rfl⟩
    · rw [hgetn] at ho; cases ho
      exact ⟨h.n + 1, s, ht, B.e2, rfl, rfl, Or.inr ⟨rfl, rfl⟩, _, _, rfl⟩
  have hgl : Gl (gm2 g h.n m) := fun k hk => by
    obtain ⟨room, e⟩ := hr.gl k hk
    obtain ⟨o, ho⟩ := B.glb k hk
    refine ⟨room, ?_⟩
    rw [B.gm2_g ho e]
    cases o with
    | arr cs a => simp only [hush]; split <;> rfl
    | _ => rfl
  refine ⟨fun b s e => ?_, fun b s o hs ho => ?_, ?_, ?_, hgl⟩
  · rcases B.gm2_inv e with ⟨o, t, _, ht, rfl⟩ | ⟨rfl, ht⟩
    · rw [(hush_like (some o) t).1]; exact hr.lt b t ht
    · exact hr.lt _ _ ht
  · rcases B.gm2_inv hs with ⟨o', t, e, ht, rfl⟩ | ⟨rfl, ht⟩
    · obtain ⟨k1, k2⟩ := B.lt e
      rw [hget b k1, k2] at ho; cases ho
      obtain ⟨cs, a, rfl, hro, hin⟩ := B.gok b _ e
      obtain ⟨c, el, fz, q1, q2, q3, q4, q5⟩ := hr.blk b t (.arr cs a) ht (by rw [B.o2 b k1]; exact k2)
      obtain ⟨l1, l2, l3⟩ := hush_like (some (Blk.arr cs a : Blk FnR)) t
      refine ⟨c, el, fz, by rw [l1]; exact q1, fun i v hv => ?_, by rw [l2, l3]; exact q3, by rw [l3]; exact q4, fun hf => ?_⟩
      · obtain ⟨hsc, x, hx, hvr⟩ := q2 i v hv
        refine ⟨hsc, x, by rw [l2]; exact hx, hvr.conv (D := fun c => ∃ p, g c = some p) (fun b' s' ⟨p, hp⟩ hs' => ⟨_, B.gm2_g hp hs', ?_⟩) (V.insD_iff.1 hin v (List.mem_of_getElem? hv))⟩
        obtain ⟨z1, z2, z3⟩ := hush_like (some p) s'
        exact ⟨z1, z2, z3⟩
      · have := q5 hf
        refine ⟨?_, this.2⟩
        simp [hush, hf, this.1]
    · rw [hgetn] at ho; cases ho
      obtain ⟨c, el, fz, q1, q2, q3, q4, q5⟩ := hr.blk _ s E2 ht B.e2
      refine ⟨c, el, fz, q1, fun i v hv => ?_, q3, q4, q5⟩
      obtain ⟨hsc, x, hx, hvr⟩ := q2 i v hv
      refine ⟨hsc, x, hx, hvr.conv (D := fun _ => False) (fun _ _ hf => hf.elim) ?_⟩
      have hv' := List.mem_of_getElem? hv
      simp only [List.mem_cons, List.not_mem_nil, or_false, or_self] at hv'
      subst hv'; trivial
  · intro x y sx sy cx ax cy ay hx hy gx gy hxy hcb
    obtain ⟨x', tx, mx, hx2, cx1, cx2, lx, _⟩ := key x sx _ hx gx
    obtain ⟨y', ty, my, hy2, cy1, cy2, ly, _⟩ := key y sy _ hy gy
    have := hr.sep x' y' tx ty cx ax cy ay mx my hx2 hy2 (by omega) (by omega)
    rcases this with h3 | ⟨h3, h4, h5, h6, h7⟩
    · exact Or.inl h3
    · refine Or.inr ⟨h3, h4, ?_, h6, by omega⟩
      rcases lx with ⟨_, rfl⟩ | ⟨rfl, rfl⟩
      · exact h5
      · omega
  · intro x y sx sy o p hx hy gx gy ho _
    obtain ⟨_, _, _, _, _, _, _, _, _, rfl⟩ := key x sx _ hx gx
    cases ho
theorem Both.unmoved (hr : HR (CRc P) m h2.get w) {x : Nat} {s : Spot} {o : Blk FnR} (hs : m x = some s) (ho : h2.get x = some o) (hd : o ≠ .dead) (hg : g x = none) (hn : x ≠ h.n + 1) : ¬ Mine (gm2 g h.n m) s.cb := by
  have key : ∀ y t cy, m y = some t → h2.get y = some (.arr cy {}) → y ≠ x → t.cb = s.cb → False := by
    intro y t cy hy hgy hne hcb
    cases o with
    | arr cx ax =>
      rcases Nat.lt_or_gt_of_ne hne with hlt | hgt
      · rcases hr.sep y x t s cy {} cx ax hy hs hgy ho hlt hcb with ⟨h3, _⟩ | ⟨_, _, _, h3, _⟩ <;> cases h3
      · rcases hr.sep x y s t cx ax cy {} hs hy ho hgy hgt hcb.symm with ⟨_, h3⟩ | ⟨_, _, h3, _⟩ <;> cases h3
    | dead => exact hd rfl
    | map es clk =>
      obtain ⟨c, el, fz, q1, _⟩ := hr.blk y t _ hy hgy
      obtain ⟨_, xs, q2, _⟩ := hr.blk x s _ hs ho
      rw [hcb, q2] at q1; cases q1
    | iter b pos =>
      obtain ⟨c, el, fz, q1, _⟩ := hr.blk y t _ hy hgy
      obtain ⟨_, xs, q2, _⟩ := hr.blk x s _ hs ho
      rw [hcb, q2] at q1; cases q1
    | loop st pd τ ps asg body =>
      obtain ⟨c, el, fz, q1, _⟩ := hr.blk y t _ hy hgy
      obtain ⟨_, xs, q2, _⟩ := hr.blk x s _ hs ho
      rw [hcb, q2] at q1; cases q1
  rintro ⟨y, t, hy, hown, hcb⟩
  rcases B.gm2_inv hy with ⟨o', t', e, ht, rfl⟩ | ⟨rfl, ht⟩
  · obtain ⟨k1, k2⟩ := B.lt e
    obtain ⟨cs', a, rfl, hro, _⟩ := B.gok y _ e
    have ha : a = {} := by
      rcases hro with hro | hro
      · simp [hush, hro] at hown
      · exact hro
    subst ha
    refine key y t' cs' ht (by rw [B.o2 y k1]; exact k2) (fun e' => ?_) (by rw [← hcb]; exact (hush_like _ t').1.symm)
    subst e'; rw [hg] at e; cases e
  · exact key (h.n + 1) t _ ht B.e2 (fun e => hn e.symm) hcb
theorem Both.end_ (hr : HR (CRc P) m h2.get w) (hf : Fresh m h2.n) (hr' : HR (CRc P) m' h1.get w') (fr : Fr (gm2 g h.n m) w m' w') (hf' : Fresh m' h1.n) :
    HR (CRc P) (m3of h2.n m m') (h3of h h1 h2 sn ss).get w' ∧ Fr m w (m3of h2.n m m') w' ∧ Fresh (m3of h2.n m m') (h3of h h1 h2 sn ss).n := by
  have n1 := B.n1
  have n2 := B.n2
  have hlow : ∀ b s, m b = some s → b < h2.n := fun b s e => by
    rcases Nat.lt_or_ge b h2.n with h3 | h3
    · exact h3
    · rw [hf b h3] at e; cases e
  have hmono : ∀ b s, m b = some s → m3of h2.n m m' b = some s := fun b s e => by simp [m3of, hlow b s e, e]
  have hren : ∀ {v : V} {x : Value}, VR m' v x → VR (m3of h2.n m m') (v.ren (· + h2.n)) x := fun hv => hv.ren fun b s e => ⟨s, by simp only [m3of]; rw [if_neg (by omega)]; simp [e], rfl, rfl, rfl⟩
  have inv : ∀ x o, (h3of h h1 h2 sn ss).get x = some o → (x < h2.n ∧ x ≠ h.n + 1 ∧ h2.get x = some o) ∨ (x = h.n + 1 ∧ o = .arr [sn.ren (· + h2.n), ss.ren (· + h2.n)] {}) ∨
      (h2.n ≤ x ∧ h.n + 2 ≤ x - h2.n ∧ (∃ c, o = .arr c {} ∧ ∀ v ∈ c, plainV v) ∧ h1.get (x - h2.n) = some o) := by
    intro x o ho
    change (if x < h2.n then _ else _) = some o at ho
    split at ho
    · split at ho
      · cases ho; exact Or.inr (Or.inl ⟨by assumption, rfl⟩)
      · split at ho
        · exact Or.inl ⟨by assumption, by assumption, ho⟩
        · cases ho
    · split at ho
      · rename_i hx
        refine Or.inr (Or.inr ⟨by omega, B.lo _ hx, ?_, ho⟩)
        rcases hx with hx | hx
        · obtain ⟨_, q⟩ := names_in B.ln1 hx; rw [q] at ho; cases ho; exact ⟨cn, rfl, B.pn⟩
        · obtain ⟨_, q⟩ := names_in B.ls1 hx; rw [q] at ho; cases ho; exact ⟨cs, rfl, B.ps⟩
      · cases ho
  have mlo : ∀ x s, x < h2.n → m3of h2.n m m' x = some s → m x = some s := fun x s hx e => by simpa [m3of, hx] using e
  have mhi : ∀ x s, h2.n ≤ x → m3of h2.n m m' x = some s → m' (x - h2.n) = some s := fun x s hx e => by simpa [m3of, Nat.not_lt.2 hx] using e
  have mine2 : ∀ cb, Mine (gm2 g h.n m) cb → Mine m cb := by
    rintro cb ⟨b, s, e, ho, hcb⟩
    rcases B.gm2_inv e with ⟨o, t, _, ht, rfl⟩ | ⟨rfl, ht⟩
    · refine ⟨b, t, ht, ?_, by rw [← hcb]; exact (hush_like _ t).1.symm⟩
      unfold hush at ho
      split at ho
      · split at ho
        · cases ho
        · exact ho
      · exact ho
    · exact ⟨_, s, ht, ho, hcb⟩
  refine ⟨⟨fun x s e => ?_, fun x s o e ho => ?_, ?_, ?_, hr.gl.mono hmono⟩, ⟨hmono, fr.size, fun cb hc hn => fr.keep cb hc fun hm => hn (mine2 cb hm), ?_, ?_, fr.os, fr.tape, fr.output⟩, ?_⟩
  · by_cases hx : x < h2.n
    · exact Nat.lt_of_lt_of_le (hr.lt x s (mlo x s hx e)) fr.size
    · exact hr'.lt _ s (mhi x s (by omega) e)
  · rcases inv x o ho with ⟨hx, hne, hox⟩ | ⟨rfl, rfl⟩ | ⟨hx, _, ⟨c, rfl, hpl⟩, hox⟩
    · have hs := mlo x s hx e
      cases hg : g x with
      | none =>
        by_cases hd : o = .dead
        · subst hd; trivial
        · exact (hr.blk x s o hs hox).mono hmono (fr.keep s.cb (hr.lt x s hs) (B.unmoved hr hs hox hd hg hne))
      | some o' =>
        obtain ⟨k1, k2⟩ := B.lt hg
        obtain ⟨cs', a, rfl, hro, hin⟩ := B.gok x _ hg
        have : o = .arr cs' a := by rw [B.o2 x k1, k2] at hox; exact (Option.some.inj hox).symm
        subst this
        have hs2 := fr.mono x _ (B.gm2_g hg hs)
        obtain ⟨l1, l2, l3⟩ := hush_like (some (Blk.arr cs' a : Blk FnR)) s
        obtain ⟨_, _, _, _, p2, _, _, p5⟩ := hr.blk x s _ hs hox
        obtain ⟨c, el, fz, q1, q2, q3, q4, q5⟩ := hr'.blk x _ (.arr cs' a) hs2 (by rw [B.o1 x k1]; exact k2)
        refine ⟨c, el, fz, by rw [l1] at q1; exact q1, fun i v hv => ?_, by rw [l2, l3] at q3; exact q3, by rw [l3] at q4; exact q4, fun hf => ⟨(p5 hf).1, (q5 hf).2⟩⟩
        obtain ⟨hsc, x', hx', hvr⟩ := q2 i v hv
        obtain ⟨_, x0, _, hvr0⟩ := p2 i v hv
        refine ⟨hsc, x', by rw [l2] at hx'; exact hx', hvr.conv (fun b' s' hD hs' => ?_) (V.inD_and (V.insD_iff.1 hin v (List.mem_of_getElem? hv)) hvr0.dom)⟩
        obtain ⟨⟨p, hp⟩, t, ht⟩ := hD
        have := fr.mono b' _ (B.gm2_g hp ht)
        rw [hs'] at this; cases this
        obtain ⟨z1, z2, z3⟩ := hush_like (some p) t
        exact ⟨t, hmono b' t ht, z1.symm, z2.symm, z3.symm⟩
    · have hs := mlo _ s (by omega) e
      have hs2 := fr.mono h.n s (by rw [B.gm2_n]; exact hs)
      obtain ⟨c, el, fz, q1, q2, q3, q4, q5⟩ := hr'.blk h.n s _ hs2 B.s1
      refine ⟨c, el, fz, q1, fun i v hv => ?_, q3, q4, q5⟩
      match i, hv with
      | 0, hv => obtain ⟨hsc, x', hx', hvr⟩ := q2 0 sn rfl; cases hv; exact ⟨(by cases sn <;> first | rfl | cases hsc), x', hx', hren hvr⟩
      | 1, hv => obtain ⟨hsc, x', hx', hvr⟩ := q2 1 ss rfl; cases hv; exact ⟨(by cases ss <;> first | rfl | cases hsc), x', hx', hren hvr⟩
      | i + 2, hv => cases hv
    · obtain ⟨c', el, fz, q1, q2, q3, q4, q5⟩ := hr'.blk _ s _ (mhi x s hx e) hox
      refine ⟨c', el, fz, q1, fun i v hv => ?_, q3, q4, q5⟩
      obtain ⟨hsc, x', hx', hvr⟩ := q2 i v hv
      exact ⟨hsc, x', hx', hvr.conv (D := fun _ => False) (fun _ _ hf => hf.elim) (hpl v (List.mem_of_getElem? hv)).inD⟩
  · intro x y sx sy cx ax cy ay hx hy gx gy hxy hcb
    have hiHi : ∀ z s c, m' z = some s → h1.get z = some (.arr c {}) → h.n + 2 ≤ z → w.heap.size ≤ s.cb := by
      intro z s c hz hgz hlo
      rcases Nat.lt_or_ge s.cb w.heap.size with h3 | h3
      · exfalso
        obtain ⟨b0, s0, e0, c0⟩ := fr.img z s hz h3
        have e0' := fr.mono _ _ e0
        have hb0 : b0 ≤ h.n ∧ ∃ c0 a0, h1.get b0 = some (.arr c0 a0) := by
          rcases B.gm2_inv e0 with ⟨o, t, e, ht, _⟩ | ⟨rfl, ht⟩
          · obtain ⟨k1, k2⟩ := B.lt e
            obtain ⟨c0, a0, rfl, _⟩ := B.gok _ _ e
            exact ⟨by omega, c0, a0, by rw [B.o1 _ k1]; exact k2⟩
          · exact ⟨Nat.le_refl _, _, _, B.s1⟩
        obtain ⟨hle, c0', a0, hg0⟩ := hb0
        rcases hr'.sep b0 z s0 s c0' a0 c {} e0' hz hg0 hgz (by omega) c0 with ⟨_, h4⟩ | ⟨_, _, h4, _⟩ <;> cases h4
      · exact h3
    have low : ∀ x s c a, (h3of h h1 h2 sn ss).get x = some (.arr c a) → x < h2.n → m3of h2.n m m' x = some s → ∃ c', h2.get x = some (.arr c' a) ∧ c'.length = c.length ∧ m x = some s := by
      intro x s c a ho hx hs
      rcases inv x _ ho with ⟨_, hne, hox⟩ | ⟨rfl, e⟩ | ⟨hx', _⟩
      · exact ⟨c, hox, rfl, mlo x s hx hs⟩
      · cases e; exact ⟨_, B.e2, rfl, mlo _ s hx hs⟩
      · omega
    by_cases hyl : y < h2.n
    · obtain ⟨cx', gx', lx, mx⟩ := low x sx cx ax gx (by omega) hx
      obtain ⟨cy', gy', ly, my⟩ := low y sy cy ay gy hyl hy
      have := hr.sep x y sx sy cx' ax cy' ay mx my gx' gy' hxy hcb
      rw [lx] at this; exact this
    · have hy' := mhi y sy (by omega) hy
      rcases inv y _ gy with ⟨h3, _⟩ | ⟨h3, _⟩ | ⟨_, hlo, ⟨c, e, _⟩, hoy⟩
      · omega
      · omega
      · cases e
        have := hiHi _ sy _ hy' hoy hlo
        by_cases hxl : x < h2.n
        · obtain ⟨cx', gx', lx, mx⟩ := low x sx cx ax gx hxl hx
          have := hr.lt x sx mx
          omega
        · have hx' := mhi x sx (by omega) hx
          rcases inv x _ gx with ⟨h3, _⟩ | ⟨h3, _⟩ | ⟨_, hlox, ⟨c, e, _⟩, hox⟩
          · omega
          · omega
          · cases e
            have := hr'.sep _ _ sx sy _ _ _ _ hx' hy' hox hoy (by omega) hcb
            rcases this with ⟨h3, _⟩ | ⟨_, _, h3, _⟩ <;> cases h3
  · intro x y sx sy o p hx hy gx gy ho hp hxy
    have low : ∀ x s o, (h3of h h1 h2 sn ss).get x = some o → o.other = true → m3of h2.n m m' x = some s → h2.get x = some o ∧ m x = some s := by
      intro x s o ho ht hs
      rcases inv x _ ho with ⟨hx, hne, hox⟩ | ⟨rfl, rfl⟩ | ⟨hx', _, ⟨c, rfl, _⟩, _⟩
      · exact ⟨hox, mlo x s hx hs⟩
      · cases ht
      · cases ht
    obtain ⟨gx', mx⟩ := low x sx o gx ho hx
    obtain ⟨gy', my⟩ := low y sy p gy hp hy
    exact hr.sepO x y sx sy o p mx my gx' gy' ho hp hxy
  · rintro cb hc ⟨b, s, e, ho, hcb⟩
    by_cases hb : b < h2.n
    · exact ⟨b, s, mlo b s hb e, ho, hcb⟩
    · exact mine2 cb (fr.mine cb hc ⟨_, s, mhi b s (by omega) e, ho, hcb⟩)
  · intro b s e hc
    by_cases hb : b < h2.n
    · exact ⟨b, s, mlo b s hb e, rfl⟩
    · obtain ⟨b0, s0, e0, c0⟩ := fr.img _ s (mhi b s (by omega) e) hc
      rcases B.gm2_inv e0 with ⟨o, t, _, ht, rfl⟩ | ⟨rfl, ht⟩
      · exact ⟨b0, t, ht, by rw [← c0]; exact (hush_like _ t).1.symm⟩
      · exact ⟨_, s0, ht, c0⟩
  · intro b hb
    have hb' : h2.n + h1.n ≤ b := hb
    simp only [m3of]
    rw [if_neg (by omega)]
    exact hf' _ (by omega)
end
end Go.Ax
end
section
set_option linter.unusedSectionVars false
namespace Go.Ax
variable [Globs]
open Go.RowKit
open Classical in
noncomputable def recWith (r : Rec FnR) (f : Nat) (as : List V) (h2 : HP) (out : V × HP) : Rec FnR :=
  ⟨fun f' as' h' => if f' = f ∧ as' = as ∧ h' = h2 then some out else r.call f' as' h', r.code⟩
theorem recWith_ok {P : Program} {r : Rec FnR} (ok : RecOk P r) {f : Nat} {as : List V} {h2 : HP} {out : V × HP} (hc : CallOk P f as h2 out.1 out.2) : RecOk P (recWith r f as h2 out) := by
  refine ⟨fun {f' args h h' v} e => ?_, ok.code⟩
  by_cases hq : f' = f ∧ args = as ∧ h = h2
  · simp only [recWith, if_pos hq, Option.some.injEq] at e
    obtain ⟨rfl, rfl, rfl⟩ := hq
    subst e; exact hc
  · simp only [recWith, if_neg hq] at e
    exact ok.call e
theorem recWith_n {r : Rec FnR} (ok : RecN r) {f : Nat} {as : List V} {h2 : HP} {out : V × HP} (hc : h2.n ≤ out.2.n) : RecN (recWith r f as h2 out) := by
  refine ⟨fun {f' args h h' v} e => ?_, ok.code⟩
  by_cases hq : f' = f ∧ args = as ∧ h = h2
  · simp only [recWith, if_pos hq, Option.some.injEq] at e
    obtain ⟨rfl, rfl, rfl⟩ := hq
    subst e; exact hc
  · simp only [recWith, if_neg hq] at e
    exact ok.call e
theorem recWith_hit {r : Rec FnR} {f : Nat} {as : List V} {h2 : HP} {out : V × HP} : (recWith r f as h2 out).call f as h2 = some out := by simp [recWith]
theorem recWith_miss {r : Rec FnR} {f : Nat} {as : List V} {h2 : HP} {out : V × HP} {f' : Nat} {as' : List V} {h' : HP} (hm : f' = f → as' ≠ as) : (recWith r f as h2 out).call f' as' h' = r.call f' as' h' := by
  have : ¬ (f' = f ∧ as' = as ∧ h' = h2) := fun ⟨a, b, _⟩ => hm a b
  simp only [recWith, if_neg this]
def againIr (sm : Nat) : IFun := ⟨15, (ICode.seq (ICode.region [⟨(some 2), (.mv (.c (.bool false))), none⟩])
  (ICode.seq (ICode.region [⟨(some 3), (.alloc (.agg [.nilslice, .nilslice])), none⟩,
    ⟨(some 4), (.alloc (.agg [.nilslice, .nilslice])), none⟩])
  (ICode.seq (ICode.region [⟨(some 6), (.mv (.t 0)), none⟩,
    ⟨(some 7), (.call (.t 6) [(.t 3)]), none⟩,
    ⟨(some 5), (.mv (.t 7)), none⟩])
  (ICode.seq (ICode.region [⟨(some 8), (.mv (.t 5)), none⟩,
    ⟨(some 9), (.call (.t 8) []), none⟩])
  (ICode.seq (ICode.region [⟨(some 10), (.mv (.t 0)), none⟩,
    ⟨(some 11), (.call (.t 10) [(.t 4)]), none⟩])
  (ICode.seq (ICode.region [⟨(some 12), (.ld true 2 (.t 3)), none⟩,
    ⟨(some 13), (.ld true 2 (.t 4)), none⟩,
    ⟨(some 14), (.call (.c (.func sm [] [])) [(.t 12), (.t 13)]), none⟩,
    ⟨(some 2), (.mv (.t 14)), none⟩])
  ICode.ret)))))), [.tmp 2]⟩
def SameOk (ft : FT FnR) (sm : Nat) : Prop := ∀ (h : HP) (sn ss sn' ss' : V) (cn cs : List V), LstIn h sn cn → LstIn h ss cs → LstIn h sn' cn → LstIn h ss' cs →
  (∀ v ∈ cn, ∃ n, v = .int .i64 n) → (∀ v ∈ cs, ∃ s, v = .str s) → cn.length ≤ limit → cs.length ≤ limit →
  ∃ n h', (recN ft n).call sm [.agg [sn, ss], .agg [sn', ss']] h = some (.bool true, h') ∧ ∀ b, b < h.n → h'.get b = h.get b
structure AgainP (ft : FT FnR) (fv : V) (h : HP) : Prop where
  ex : ∃ (g : Gz) (f : Nat) (first caps x2 y2 : List V) (gf N : Nat) (h1 h2 : HP) (v sn ss : V) (cn cs : List V), fv = .func f first caps ∧ Both g h h1 h2 sn ss cn cs ∧
    V.insD (fun c => ∃ p, g c = some p) first ∧ V.insD (fun c => ∃ p, g c = some p) caps ∧
    (recN ft N).call f (first ++ [.ptr h.n 0] ++ caps) ((h.push E2).push E2) = some (.func gf x2 y2, h1) ∧ gf ≠ f ∧
    (recN ft N).call gf (x2 ++ [] ++ y2) h1 = some (v, h2) ∧
    (∀ v ∈ cn, ∃ n, v = .int .i64 n) ∧ (∀ v ∈ cs, ∃ s, v = .str s) ∧ cn.length ≤ limit ∧ cs.length ≤ limit
section
variable {P : Program}
theorem second_ok (hmx : P.follows .mixedOrders = true) {ft : FT FnR} (htb : FtOk P ft) {g : Gz} {f : Nat} {first caps : List V} {N : Nat} {h h1 h2 : HP} {sn ss gv : V} {cn cs : List V} (B : Both g h h1 h2 sn ss cn cs)
    (hfirst : V.insD (fun c => ∃ p, g c = some p) first) (hcaps : V.insD (fun c => ∃ p, g c = some p) caps)
    (hrun : (recN ft N).call f (first ++ [.ptr h.n 0] ++ caps) ((h.push E2).push E2) = some (gv, h1)) :
    CallOk P f (first ++ [.ptr (h.n + 1) 0] ++ caps) h2 (gv.ren (· + h2.n)) (h3of h h1 h2 sn ss) := by
  intro m w as va hr hf
  have conv : ∀ {vs : List V} {xs : List Value}, V.insD (fun c => ∃ p, g c = some p) vs → VRs m vs xs → VRs (gm2 g h.n m) vs xs := by
    intro vs xs hd hv
    refine hv.conv (fun b s ⟨p, hp⟩ hs => ?_) hd
    obtain ⟨z1, z2, z3⟩ := hush_like (some p) s
    exact ⟨_, B.gm2_g hp hs, z1, z2, z3⟩
  have split : ∀ (x y : List V) (zs : List Value), VRs m (x ++ y) zs → ∃ u v, zs = u ++ v ∧ VRs m x u ∧ VRs m y v := by
    intro x
    induction x with
    | nil => intro y zs hz; exact ⟨[], zs, rfl, .nil, hz⟩
    | cons a x ih =>
      intro y zs hz
      cases hz with
      | cons h0 hs =>
        obtain ⟨u, v, rfl, h1, h2⟩ := ih y _ hs
        exact ⟨_ :: u, v, rfl, .cons h0 h1, h2⟩
  obtain ⟨as1, as3, rfl, v1, v3⟩ := split (first ++ [.ptr (h.n + 1) 0]) caps as va
  obtain ⟨as0, as2, rfl, v0, v2⟩ := split first [.ptr (h.n + 1) 0] as1 v1
  have v2' : VRs (gm2 g h.n m) [.ptr h.n 0] as2 := by
    cases v2 with
    | cons p0 hs => cases hs; cases p0 with
      | ptr o hm => exact .cons (.ptr 0 (by rw [B.gm2_n]; exact hm)) .nil
  have hf2 : Fresh (gm2 g h.n m) ((h.push E2).push E2).n := by
    intro b hb
    have hb' : h.n + 2 ≤ b := hb
    simp only [gm2]
    cases e : g b with
    | some o => have := (B.lt e).1; omega
    | none => simp only; rw [if_neg (by omega)]
  obtain ⟨hfn, hc⟩ := (recN_ok hmx htb N).call hrun (((conv hfirst v0).append v2').append (conv hcaps v3)) (B.begin_ hr) hf2
  refine ⟨hfn, hc.mono fun e w' ⟨vc, m', he, hv, hr', fr, hf'⟩ => ?_⟩
  obtain ⟨k1, k2, k3⟩ := B.end_ hr hf hr' fr hf'
  exact ⟨vc, _, he, hv.ren (fun b s e => ⟨s, by simp only [m3of]; rw [if_neg (by omega)]; simp [e], rfl, rfl, rfl⟩), k1, k2, k3⟩
theorem h3_n {h h1 h2 : HP} {sn ss : V} : (h3of h h1 h2 sn ss).n = h2.n + h1.n := rfl
theorem again_ok (hmx : P.follows .mixedOrders = true) {ft : FT FnR} (htb : FtOk P ft) {sm fa : Nat} {fn : Func} (hfa : P.funcs[fa]? = some fn) (hco : compFun P fn = some (againIr sm)) (hsame : SameOk ft sm) {fv : V} {h : HP} (hsm : ∀ f a b, fv = .func f a b → f ≠ sm)
    (hA : AgainP ft fv h) : CallOk P fa [fv] h (.bool true) h := by
  obtain ⟨g, f, first, caps, x2, y2, gf, N, h1, h2, v, sn, ss, cn, cs, rfl, B, hfirst, hcaps, hrun1, hne, hrun2, pn, ps, ln, ls⟩ := hA.ex
  have n1 := B.n1
  have n2 := B.n2
  have e3 : (h3of h h1 h2 sn ss).get (h.n + 1) = some (.arr [sn.ren (· + h2.n), ss.ren (· + h2.n)] {}) := by
    show (if h.n + 1 < h2.n then _ else _) = _
    rw [if_pos (by omega), if_pos rfl]
  have a3 : (h3of h h1 h2 sn ss).get h.n = some (.arr [sn, ss] {}) := by
    show (if h.n < h2.n then _ else _) = _
    rw [if_pos (by omega), if_neg (by omega), if_pos (Or.inl (Nat.le_refl _))]
    exact B.s2
  have o3 : ∀ b, b < h.n → (h3of h h1 h2 sn ss).get b = h.get b := by
    intro b hb
    show (if b < h2.n then _ else _) = _
    rw [if_pos (by omega), if_neg (by omega), if_pos (Or.inl (by omega))]
    exact B.o2 b hb
  have lst : ∀ (s : V) (c : List V), (s = sn ∨ s = ss) → LstIn h1 s c → LstIn h2 s c → LstIn (h3of h h1 h2 sn ss) s c ∧ LstIn (h3of h h1 h2 sn ss) (s.ren (· + h2.n)) c := by
    intro s c hs l1 l2
    rcases l1 with ⟨rfl, rfl⟩ | ⟨b, rfl, q1, q2⟩
    · exact ⟨Or.inl ⟨rfl, rfl⟩, Or.inl ⟨rfl, rfl⟩⟩
    · have hb : names (.slice b 0 c.length none 1) b = true := Nat.beq_refl b
      have hnm : names sn b = true ∨ names ss b = true := by rcases hs with rfl | rfl <;> simp [hb]
      have hlo := B.lo b hnm
      obtain ⟨p1, p2⟩ := names_in l2 hb
      refine ⟨Or.inr ⟨b, rfl, by rw [h3_n]; omega, ?_⟩, Or.inr ⟨b + h2.n, rfl, by rw [h3_n]; omega, ?_⟩⟩
      · show (if b < h2.n then _ else _) = _
        rw [if_pos (by omega), if_neg (by omega), if_pos (Or.inr hnm)]
        exact p2
      · show (if b + h2.n < h2.n then _ else (if names sn (b + h2.n - h2.n) = true ∨ names ss (b + h2.n - h2.n) = true then h1.get (b + h2.n - h2.n) else none)) = _
        rw [if_neg (by omega), Nat.add_sub_cancel, if_pos hnm]
        exact q2
  obtain ⟨lsn, lsn'⟩ := lst sn cn (Or.inl rfl) B.ln1 B.ln2
  obtain ⟨lss, lss'⟩ := lst ss cs (Or.inr rfl) B.ls1 B.ls2
  obtain ⟨N2, h4, hrun4, hk4⟩ := hsame _ _ _ _ _ cn cs lsn lss lsn' lss' pn ps ln ls
  let r0 := recN ft (max N N2)
  let out : V × HP := ((V.func gf x2 y2).ren (· + h2.n), h3of h h1 h2 sn ss)
  let r := recWith r0 f (first ++ [.ptr (h.n + 1) 0] ++ caps) h2 out
  have ok0 : RecOk P r0 := recN_ok hmx htb _
  have ok : RecOk P r := recWith_ok ok0 (second_ok hmx htb B hfirst hcaps hrun1)
  have okn : RecN r := recWith_n (recN_n htb.n _) (by show h2.n ≤ h2.n + h1.n; omega)
  have c1 : r.call f (first ++ [.ptr h.n 0] ++ caps) ((h.push E2).push E2) = some (.func gf x2 y2, h1) := by
    rw [recWith_miss (fun _ e => by
      have := List.append_cancel_right e
      have := List.append_cancel_left this
      simp at this)]
    exact (recN_le ft (Nat.le_max_left N N2)).call hrun1
  have c2 : r.call gf (x2 ++ [] ++ y2) h1 = some (v, h2) := by
    rw [recWith_miss (fun e => absurd e hne)]
    exact (recN_le ft (Nat.le_max_left N N2)).call hrun2
  have c3 : r.call f (first ++ [.ptr (h.n + 1) 0] ++ caps) h2 = some out := recWith_hit
  have c4 : r.call sm [.agg [sn, ss], .agg [sn.ren (· + h2.n), ss.ren (· + h2.n)]] (h3of h h1 h2 sn ss) = some (.bool true, h4) := by
    rw [recWith_miss (fun e => absurd e.symm (hsm f first caps rfl))]
    exact (recN_le ft (Nat.le_max_right N N2)).call hrun4
  have hcode : callF (fun x => if x = fa then some (againIr sm) else none) r fa [.func f first caps] h = some (.bool true, h4) := by
    have hz : ([V.nilslice, V.nilslice].all V.scalar) = true := rfl
    have hE : ∀ h' : HP, mkO (.alloc (.agg [.nilslice, .nilslice])) = fun _ => some (fun b => V.ptr b 0, E2) := fun _ => rfl
    simp only [callF, if_true, againIr, codeF, opsF, stepO, wanted, opF, iop, kindOf, puO, hE h, putD, initT, Option.map_some, List.length_cons, List.length_nil, List.map_cons, List.map_nil, callV, ev, Rep.get_set, Rep.get_emp, Option.getD_some]
    have hnn : (Hp.push h E2).n = h.n + 1 := rfl
    have a2 : h2.get h.n = some (.arr [sn, ss] {}) := B.s2
    simp only [hnn, Nat.reduceEqDiff, ↓reduceIte, reduceIte, Option.getD_some, c1, c2, c3, Option.map_some, Rep.get_set, out]
    simp only [rdO, ev, Rep.get_set, Nat.reduceEqDiff, ↓reduceIte, reduceIte, Option.getD_some, rdAgg, rdG, a3, e3, List.length_cons, List.length_nil, Nat.zero_add, Nat.le_refl, List.drop_zero, Option.map_some, Nat.reduceAdd, List.take_succ_cons, List.take_zero, List.nil_append, List.append_nil, c4, resF, packR]
    rfl
  refine fun {m w as} va hr hf => ?_
  obtain ⟨hfn, hc⟩ := callF_sound hmx (ft := fun x => if x = fa then some (againIr sm) else none) (fun f ifn e => by
    have e' : (if f = fa then some (againIr sm) else none) = some ifn := e
    by_cases hx : f = fa
    · subst hx; rw [if_pos rfl] at e'; cases e'; exact ⟨fn, hfa, hco⟩
    · rw [if_neg hx] at e'; cases e') okn ok hcode va hr hf
  refine ⟨hfn, hc.mono fun e w' ⟨vc, m', he, hv, hr', fr, hf'⟩ => ?_⟩
  obtain ⟨k1, k2⟩ := hr.back hr' fr fun b s e => by
    have hb : b < h.n := by
      rcases Nat.lt_or_ge b h.n with h3 | h3
      · exact h3
      · rw [hf b h3] at e; cases e
    rw [hk4 b (by rw [h3_n]; omega), o3 b hb]
  refine ⟨vc, m, he, ?_, k1, k2, hf⟩
  cases hv; exact .bool _
end
end Go.Ax
end
