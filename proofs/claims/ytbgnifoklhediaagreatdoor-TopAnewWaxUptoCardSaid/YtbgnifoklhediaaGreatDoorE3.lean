import Derived.Test.YtbgnifoklhediaaGreatDoorE2
import Derived.Test.YtbgnifoklhediaaGreatDoorE1
set_option linter.unusedSectionVars false
set_option linter.unusedVariables false
set_option linter.unusedSimpArgs false
section
namespace Go.Ax
open Go.Ax.Ir
theorem shl6 {n : Nat} (h : n ≤ 6) : binI .shl .i64 1 .i64 (n : Int) = some (.int .i64 ((2 ^ n : Nat) : Int)) := by
  have : n = 0 ∨ n = 1 ∨ n = 2 ∨ n = 3 ∨ n = 4 ∨ n = 5 ∨ n = 6 := by omega
  rcases this with rfl | rfl | rfl | rfl | rfl | rfl | rfl <;> rfl
theorem perm_75 (p : Nat × BP) (A Y X W : Mem) : (A ++ ((p :: Y) ++ (X ++ W))).Perm ([p] ++ (A ++ ((Y ++ X) ++ W))) := by
  rw [List.append_assoc Y X W]; exact List.perm_middle
theorem LstP.split {P : V → Prop} {s : V} {k : Nat} {X Y : Mem} (h : LstP P s k Y) (hs : ∀ p ∈ Y, p ∈ X) : ∃ X', X.Perm (Y ++ X') := by
  rcases h with ⟨_, _, rfl⟩ | ⟨b, cs, _, _, _, _, rfl⟩
  · exact ⟨X, List.Perm.refl _⟩
  · obtain ⟨s, t, rfl⟩ := List.append_of_mem (hs _ (List.mem_singleton.2 rfl))
    exact ⟨s ++ t, List.perm_middle⟩
theorem perm_75b {X Y X' : Mem} (h : X.Perm (Y ++ X')) (b c : Nat × BP) (M : Mem) : (b :: (X ++ (c :: M))).Perm ((Y ++ M) ++ (b :: c :: X')) := by
  refine (List.Perm.cons b ((h.append_right _).trans ?_)).trans (List.perm_middle (l₁ := Y ++ M) (a := b)).symm
  rw [List.append_assoc, List.append_assoc]
  refine List.Perm.append_left Y ?_
  exact (List.perm_append_comm (l₁ := X') (l₂ := c :: M)).trans (List.perm_middle (l₁ := M) (a := c) (l₂ := X')).symm
theorem perm_62 (Y : Mem) (a b m : Nat × BP) (M : Mem) : (Y ++ (a :: b :: m :: M)).Perm (m :: (Y ++ (a :: b :: M))) :=
  (List.Perm.append_left Y (List.perm_middle (l₁ := [a, b]) (a := m) (l₂ := M))).trans List.perm_middle
attribute [local irreducible] W1 WO WC WD WF WV
theorem f58 {g : Gz} {M : Mem} {t : WxD} {bs bm n : Nat} {s : V} {num : Nat → Int} (h : StF g t bs bm) (hs : ∀ M', Suf ((bm, MapOf A3 Fd) :: M) M' → Slc g M' s n 1 fun i _ => .int .i64 (num i)) (hn : n ≤ 1000000) (hb : ∀ i, i < n → 0 ≤ num i ∧ num i < 6) :
    WF tbl g 58 [.ptr bs 0, s] ((bm, MapOf A3 Fd) :: M) fun v M' => M' = (bm, MapOf A3 Fd) :: M ∧ ∃ k, v = .bool k := by
  refine WF.intro rfl (Nat.le_of_ble_eq_true rfl) ?_
  repeat' first
    | (refine W1.callV rfl rfl (WV.func ((f55 h hs (by omega) hb).mono fun v M' => ?_)); rintro ⟨rfl, a, b, c, rfl⟩)
    | (refine W1.callV rfl rfl (WV.func ((f54 h).mono fun v M' => ?_)); rintro ⟨rfl, q0, q1, q2, qk, rfl⟩)
    | refine WC.ret ?_
    | refine WC.seq ?_
    | refine WC.region ?_
    | refine WO.nil ?_
    | refine WO.cons ?_
    | refine W1.mv rfl ?_
    | refine W1.fldS rfl rfl ?_
    | refine W1.bld rfl rfl ?_
    | refine Exists.intro _ (And.intro (Res.tmp rfl Res.nil) ?_)
  exact ⟨rfl, _, rfl⟩
theorem f98n {g : Gz} {M : Mem} {fv : V} : WF tbl g 98 [.nilslice, .int .i64 0, .int .i64 0, fv] M fun _ M' => M' = M := by
  refine WF.intro rfl (Nat.le_of_ble_eq_true rfl) ?_
  repeat' first
    | refine W1.add rfl rfl (by omega) (by omega) ?_
    | refine WC.unroll ?_
    | refine WC.cond_f rfl rfl ?_
    | refine WC.seq ?_
    | refine WC.block ?_
    | refine WC.region ?_
    | refine WC.exit ?_
    | refine WO.nil ?_
    | refine WO.cons ?_
    | refine W1.mv rfl ?_
    | refine W1.lss rfl rfl ?_
    | refine Exists.intro _ (And.intro Res.nil ?_)
  rfl
theorem f90n {g : Gz} {M : Mem} {lim : Int} {fv : V} : WF tbl g 90 [.nilslice, .int .i64 0, .int .i64 0, .int .i64 lim, fv] M fun _ M' => M' = M := by
  refine WF.intro rfl (Nat.le_of_ble_eq_true rfl) ?_
  repeat' first
    | refine W1.sub rfl rfl (by omega) (by omega) ?_
    | refine WC.unroll ?_
    | refine WC.cond_t rfl rfl ?_
    | (refine W1.callV rfl rfl (WV.func (f98n.mono fun v M' => ?_)); rintro rfl)
    | refine WC.ret ?_
    | refine WC.seq ?_
    | refine WC.block ?_
    | refine WC.region ?_
    | refine WO.nil ?_
    | refine WO.cons ?_
    | refine W1.mv rfl ?_
    | refine W1.leq rfl rfl ?_
    | refine Exists.intro _ (And.intro Res.nil ?_)
  rfl
theorem f78n {g : Gz} {M : Mem} {fv : V} : WF tbl g 78 [.nilslice, fv] M fun _ M' => M' = M := by
  refine WF.intro rfl (Nat.le_of_ble_eq_true rfl) ?_
  repeat' first
    | refine W1.lenN rfl ?_
    | refine W1.convN rfl (by omega) (by omega) ?_
    | (refine W1.callV rfl rfl (WV.func ((f91 (by omega) (by omega)).mono fun v M' => ?_)); rintro ⟨rfl, k, rfl, hk⟩)
    | (refine W1.callV rfl rfl (WV.func (f90n.mono fun v M' => ?_)); rintro rfl)
    | refine WC.seq ?_
    | refine WC.region ?_
    | refine WO.nil ?_
    | refine WO.cons ?_
    | refine W1.mv rfl ?_
    | refine Exists.intro _ (And.intro Res.nil ?_)
  rfl
def RoundW (g : Gz) (t : WxD) (yv : V) (I : Nat → Mem → Prop) (J : Mem → Prop) : Prop := ∀ i l k Y M, i < 64 → LstP (Bd t.nH) l k Y → k ≤ 64 → I i M → WV tbl g yv [l] (Y ++ M) fun r M' => (r = .bool true ∧ ∃ M1, I (i + 1) M1 ∧ M' = Y ++ M1) ∨ (r = .bool false ∧ J M')
theorem roundX {g : Gz} {t : WxD} {yv v : V} {I : Nat → Mem → Prop} {J : Mem → Prop} {i : Nat} (hr : RoundW g t yv I J) {X M1 : Mem} {b c : Nat × BP} (hv : SX X t.nH v) (hi : i < 64) (hI : I i M1) : WV tbl g yv [v] (b :: (X ++ (c :: M1))) fun r M' => (r = .bool true ∧ ∃ M2, I (i + 1) M2 ∧ M' = b :: (X ++ (c :: M2))) ∨ (r = .bool false ∧ J M') := by
  obtain ⟨k, Y, hY, hk, hsub⟩ := hv
  obtain ⟨X', hX'⟩ := hY.split hsub
  refine WV.trim (((hr i v k Y M1 hi hY hk hI).frame (perm_75b hX' b c M1)).mono ?_)
  rintro r M' ⟨M2, (⟨rfl, M3, hI3, rfl⟩ | ⟨rfl, hJ⟩), rfl⟩
  · exact ⟨b :: (X ++ (c :: M3)), [], (perm_75b hX' b c M3).symm, Or.inl ⟨rfl, M3, hI3, rfl⟩⟩
  · exact ⟨M2, b :: c :: X', List.perm_append_comm, Or.inr ⟨rfl, hJ⟩⟩
set_option maxHeartbeats 2000000 in
theorem f75 {g : Gz} {t : WxD} {bs bm b1 : Nat} {yv : V} {M0 : Mem} {I : Nat → Mem → Prop} {J : Mem → Prop} (h : StF g t bs bm) (ht : TZ g) (hr : RoundW g t yv I J) (hI : I 0 M0) :
    WF tbl g 75 [yv, .ptr b1 0] ((b1, Arr1 [.ptr bs 0] {}) :: M0) fun _ M' => (∃ i, i ≤ 64 ∧ I i M') ∨ J M' := by
  obtain ⟨l0, l1, l2, l4, l5, _, l26⟩ := h.ld
  have h6 := h.val.nH
  have hp : (2 ^ t.nH : Nat) ≤ 64 := Nat.pow_le_pow_right (by decide : 0 < 2) h6
  refine WF.trim (WF.intro rfl (Nat.le_of_ble_eq_true rfl) ?_)
  repeat' first
    | refine W1.ldS rfl .here rfl ?_
    | refine W1.ldG rfl l4 ?_
    | refine W1.lenSlc rfl h.ok.hH.up.1 ?_
    | refine W1.bin rfl rfl (shl6 h6) ?_
    | refine WC.seq ?_
    | refine WC.region ?_
    | refine WO.nil ?_
    | refine WO.cons ?_
    | refine W1.mv rfl ?_
    | refine W1.nilck rfl ?_
    | refine W1.fa rfl ?_
  refine WC.forR (ι := V) (blk := 0) (n := 2 ^ t.nH) [0, 1, 14] (fun _ x => [(3, x)]) (fun i all M' => ∃ k A X, LstP (SX X t.nH) all k A ∧ k ≤ i ∧ M' = A ++ (X ++ ((b1, Arr1 [.ptr bs 0] {}) :: M0))) .nilslice (by omega) rfl (fun _ _ => rfl) (fun _ _ => rfl) (fun _ _ => rfl) (fun _ _ => rfl) ⟨rfl, rfl⟩ (subL.cons rfl (subL.nil _)) ⟨0, [], [], Or.inl ⟨rfl, rfl, rfl⟩, Nat.le_refl _, rfl⟩ ?_ ?_
  · rintro i all M' hi ⟨k, A, X, hA, hk, rfl⟩
    repeat' first
      | (refine W1.callV rfl rfl (WV.func ((f76 (nb := t.nH) ht (by omega) (Int.ofNat_lt.2 hi) h6).mono fun v M' => ?_)); rintro ⟨kl, Y, hY, hkl, rfl⟩; obtain ⟨num, hnum, hslc⟩ := hY.slc (g := g); have hY' := hY; rcases hY' with ⟨e1, _, _⟩ | ⟨bY, cY, e1, _⟩ <;> subst e1)
      | (refine W1.callV rfl rfl (WV.func ((f69 (R := fun _ _ => True) (hslc _ fun p hp => List.mem_append_left _ hp) (by omega) (fun i hi => WV.func ((f77 h (At.app (At.app (At.app .here))) (hnum i hi).1 (hnum i hi).2).mono fun v M' ⟨h1, k, h2⟩ => ⟨h1, k, h2, trivial⟩))).mono fun v M' => ?_)); rintro ⟨rfl, tt, rfl, _⟩)
      | refine W1.bldS rfl rfl rfl (fun bb => ?_)
      | refine W1.appP (P := SX (Y ++ X) t.nH) (A := _ :: Y) rfl (hA.mono fun v hv => hv.up Y) ⟨kl, Y, hY, hkl, fun p hp => List.mem_append_left _ hp⟩ rfl .here (by decide) (by omega) (fun s2 A2 hA2 => ?_)
      | exact ⟨s2, _, [_], rfl, subL.cons rfl (by repeat (first | exact subL.nil _ | refine subL.cons rfl ?_)), perm_75 _ _ _ _ _, k + 1, A2, Y ++ X, hA2, by omega, rfl⟩
      | exact ⟨all, _, Y, rfl, subL.cons rfl (by repeat (first | exact subL.nil _ | refine subL.cons rfl ?_)), List.Perm.refl _, k, A, X, hA, by omega, rfl⟩
      | refine WC.seq ?_
      | refine WC.block ?_
      | refine WC.region ?_
      | refine WC.skip ?_
      | refine WC.cond rfl (fun hc => ?_) (fun hc => ?_)
      | refine WO.nil ?_
      | refine WO.cons ?_
      | refine W1.mv rfl ?_
      | refine W1.mkfn rfl rfl ?_
      | refine W1.not rfl ?_
  · rintro all M' ⟨k, A, X, hA, hk, rfl⟩
    rcases hA with ⟨rfl, rfl, rfl⟩ | ⟨b, cs, rfl, hl, hc, h0, rfl⟩
    · repeat' first
        | (refine W1.callV rfl rfl (WV.func (f78n.mono fun v M' => ?_)); rintro rfl)
        | refine W1.lenN rfl ?_
        | refine WC.unroll ?_
        | refine WC.cond_f rfl rfl ?_
        | refine WC.seq ?_
        | refine WC.block ?_
        | refine WC.region ?_
        | refine WC.exit ?_
        | refine WO.nil ?_
        | refine WO.cons ?_
        | refine W1.mv rfl ?_
        | refine W1.lss rfl rfl ?_
        | refine Exists.intro _ (And.intro Res.nil ?_)
      exact ⟨M0, X ++ [_], by rw [List.append_assoc]; exact List.Perm.refl _, Or.inl ⟨0, by omega, hI⟩⟩
    · repeat' first
        | (refine W1.callV rfl rfl (WV.func ((f78 (S := SX X t.nH) (cmpX fun p hp => List.mem_append_left _ hp) (fun v hv => hv.scalar) (by omega) (Nat.le_refl _) ⟨hl, hc⟩).mono fun v M' => ?_)); rintro ⟨cs, hs, rfl⟩)
        | refine W1.len rfl ?_
        | refine WC.seq ?_
        | refine WC.region ?_
        | refine WO.nil ?_
        | refine WO.cons ?_
        | refine W1.mv rfl ?_
      refine WC.forR (blk := 2) (n := k) [0, 31, 32] (fun _ (_ : Unit) => []) (fun i _ M' => ∃ M1, I i M1 ∧ M' = (b, Arr1 cs {}) :: (X ++ ((b1, Arr1 [.ptr bs 0] {}) :: M1))) () (by omega) rfl (fun _ _ => rfl) (fun _ _ => rfl) (fun _ _ => rfl) (fun _ _ => rfl) ⟨rfl, rfl⟩ (subL.nil _) ⟨M0, hI, rfl⟩ ?_ ?_
      · rintro i u M' hi ⟨M1, hI1, rfl⟩
        repeat' first
          | refine W1.ia rfl rfl (by omega) (by omega) ?_
          | refine W1.ldSd rfl .here hs (by omega) (by omega) (fun v hv e => ?_)
          | (refine W1.callV rfl rfl ((roundX hr hv (by omega) hI1).mono fun r M' => ?_); rintro (⟨rfl, M2, hI2, rfl⟩ | ⟨rfl, hJ⟩))
          | exact ⟨(), _, [], rfl, by repeat (first | exact subL.nil _ | refine subL.cons rfl ?_), List.Perm.refl _, M2, hI2, rfl⟩
          | exact ⟨_, [], List.Perm.refl _, Or.inr hJ⟩
          | refine WC.ret ?_
          | refine WC.seq ?_
          | refine WC.block ?_
          | refine WC.region ?_
          | refine WC.skip ?_
          | refine WC.cond_t rfl (by first | assumption | rfl) ?_
          | refine WC.cond_f rfl (by first | assumption | rfl) ?_
          | refine WO.nil ?_
          | refine WO.cons ?_
          | refine W1.mv rfl ?_
          | refine W1.not rfl ?_
          | refine Exists.intro _ (And.intro Res.nil ?_)
      · rintro u M' ⟨M1, hI1, rfl⟩
        repeat' first
          | refine Exists.intro _ (And.intro Res.nil ?_)
        exact ⟨M1, _ :: (X ++ [_]), by rw [List.cons_append, List.append_assoc]; exact List.Perm.refl _, Or.inl ⟨k, by omega, hI1⟩⟩
theorem rangeW {g : Gz} {t : WxD} {bs bm b1 p0 : Nat} {asg body : ICode} {L : Env} {M0 : Mem} {K : X → Env → Mem → Prop} {fo : Opd} {I : Nat → Mem → Prop} {J : X → Mem → Prop} (h : StF g t bs bm) (ht : TZ g) (hf : lkO L fo = some (.func 75 [] [.ptr b1 0])) (hI : I 0 M0)
    (hr : ∀ l i v k Y M, i < 64 → LstP (Bd t.nH) v k Y → k ≤ 64 → I i M → WC tbl g (some l) asg ((p0, v) :: L) (Y ++ M) fun x L1 M1 => x = .normal ∧ WC tbl g (some l) body L1 M1 fun x _ M3 => (x = .normal → ∃ M4 R, M3.Perm (R ++ (Y ++ M4)) ∧ I (i + 1) M4) ∧ (x ≠ .normal → ∃ M4 R, M3.Perm (R ++ M4) ∧ J x M4))
    (hk : ∀ i M, i ≤ 64 → I i M → K .normal L M) (hj : ∀ x M, x ≠ .normal → J x M → K x L M) :
    WC tbl g none (.rangef fo [p0] asg body) L ((b1, Arr1 [.ptr bs 0] {}) :: M0) K := by
  refine WC.rangef hf fun l => ?_
  refine WV.func (WF.permM (List.Perm.swap _ _ _) ((f75 (I := fun i M => ∃ M2, I i M2 ∧ M = (l, LoopAt L [p0] asg body .ready .normal) :: M2) (J := fun M => ∃ x M2, x ≠ .normal ∧ J x M2 ∧ M = (l, LoopAt L [p0] asg body (roundSt x) x) :: M2) h ht (fun i v k Y M hi hY hk => ?_) ⟨M0, hI, rfl⟩).mono fun v M' => ?_))
  · rintro ⟨M2, hI2, rfl⟩
    refine WV.trim (WV.yield (At.app .here) (L0 := (p0, v) :: L) rfl ?_)
    refine ((hr l i v k Y M2 hi hY hk hI2).frame (R := [_]) (by rw [List.append_assoc]; exact List.Perm.append_left Y (List.perm_append_comm (l₁ := [_]) (l₂ := M2)))).mono ?_
    rintro x L1 _ ⟨M1, ⟨rfl, hb⟩, rfl⟩
    refine ⟨rfl, _, Up.app .here M1, ?_⟩
    refine (hb.frame (R := [_]) (List.Perm.refl _)).mono ?_
    rintro x _ _ ⟨M3, ⟨h1, h2⟩, rfl⟩
    refine ⟨.busy, .normal, _, Up.app .here M3, ?_⟩
    cases x with
    | normal =>
      obtain ⟨M4, R, hP, hI4⟩ := h1 rfl
      refine ⟨Y ++ ((l, LoopAt L [p0] asg body .ready .normal) :: M4), R, ?_, Or.inl ⟨rfl, _, ⟨M4, hI4, rfl⟩, rfl⟩⟩
      refine (hP.append_right _).trans ?_
      rw [List.append_assoc, List.append_assoc]
      exact List.Perm.append_left R (List.Perm.append_left Y (List.perm_append_comm (l₁ := M4) (l₂ := [_])))
    | ret =>
      obtain ⟨M4, R, hP, hJ4⟩ := h2 (by simp)
      refine ⟨_ :: M4, R, ?_, Or.inr ⟨rfl, .ret, M4, by simp, hJ4, rfl⟩⟩
      refine (hP.append_right _).trans ?_
      rw [List.append_assoc]
      exact List.Perm.append_left R (List.perm_append_comm (l₁ := M4) (l₂ := [_]))
    | exit e =>
      obtain ⟨M4, R, hP, hJ4⟩ := h2 (by simp)
      refine ⟨_ :: M4, R, ?_, Or.inr ⟨rfl, .exit e, M4, by simp, hJ4, rfl⟩⟩
      refine (hP.append_right _).trans ?_
      rw [List.append_assoc]
      exact List.Perm.append_left R (List.perm_append_comm (l₁ := M4) (l₂ := [_]))
  · rintro (⟨i, hi, M2, h, rfl⟩ | ⟨x, M2, hx, hj', rfl⟩)
    · exact ⟨.ready, .normal, _, by simp, .here, hk i _ hi h⟩
    · exact ⟨roundSt x, x, _, by cases x <;> simp [roundSt], .here, hj x _ hx hj'⟩
set_option maxHeartbeats 2000000 in
theorem f62 {g : Gz} {M : Mem} {t : WxD} {bs bm : Nat} (h : StF g t bs bm) (ht : TZ g) : WF tbl g 62 [.ptr bs 0] ((bm, MapOf A3 Fd) :: M) fun v M' => M' = (bm, MapOf A3 Fd) :: M ∧ ∃ k, v = .bool k := by
  have h6 := h.val.nH
  refine WF.trimS (Q := fun v => ∃ k, v = .bool k) (WF.intro rfl (Nat.le_of_ble_eq_true rfl) ?_)
  repeat' first
    | refine W1.box (d := 1) rfl rfl (fun b0 => ?_)
    | refine W1.alloc (d := 2) rfl (fun b2 => ?_)
    | (refine W1.callV rfl rfl (WV.func ((f53 rfl rfl).mono fun v M' => ?_)); rintro ⟨b1, rfl, rfl⟩)
    | (refine rangeW (I := fun _ M' => M' = (b2, Arr1 [.bool false] {}) :: (b0, Arr1 [.ptr bs 0] {}) :: (bm, MapOf A3 Fd) :: M) (J := fun x M' => x = .ret ∧ M' = (b2, Arr1 [.bool true] {}) :: (b0, Arr1 [.ptr bs 0] {}) :: (bm, MapOf A3 Fd) :: M) h ht rfl rfl ?_ ?_ ?_ <;> first | (rintro l i v k Y M' hi hY hk rfl) | (rintro i M' hi rfl) | (rintro x M' hx ⟨rfl, rfl⟩))
    | refine WC.ret ?_
    | refine WC.seq ?_
    | refine WC.block ?_
    | refine WC.region ?_
    | refine WO.nil ?_
    | refine WO.cons ?_
    | refine W1.mv rfl ?_
    | refine W1.ldS rfl (.there .here) rfl ?_
    | refine W1.st rfl rfl rfl rfl .here (Nat.le_of_ble_eq_true rfl) ?_
  · obtain ⟨num, hnum, hslc⟩ := hY.slc (g := g)
    skip
    refine ⟨rfl, ?_⟩
    repeat' first
      | refine W1.ldS rfl (At.app (.there .here)) rfl ?_
      | (refine W1.callV rfl rfl (WV.func (WF.permM (perm_62 Y _ _ _ M) (WF.monoP (f58 h (n := k) (num := num) (fun M' ⟨R, e⟩ => hslc _ fun p hp => by rw [e]; exact List.mem_append_right _ (List.mem_cons_of_mem _ (List.mem_append_left _ hp))) (by omega) (fun i hi => ⟨(hnum i hi).1, by have := (hnum i hi).2; omega⟩)) fun v M' hM => ?_))); obtain ⟨rfl, kk, rfl⟩ := hM; refine ⟨_, ?_, (perm_62 Y _ _ _ M).symm⟩)
      | refine W1.st rfl rfl rfl rfl (Up.app .here _) (Nat.le_of_ble_eq_true rfl) ?_
      | exact ⟨fun _ => ⟨_, [], List.Perm.refl _, rfl⟩, fun hx => absurd rfl hx⟩
      | (with_reducible refine blockK.rt ?_)
      | exact ⟨fun hx => absurd hx (by simp), fun _ => ⟨_, Y, List.Perm.refl _, rfl, rfl⟩⟩
      | refine WC.ret ?_
      | refine WC.seq ?_
      | refine WC.block ?_
      | refine WC.region ?_
      | refine WC.skip ?_
      | refine WC.cond rfl (fun hc => ?_) (fun hc => ?_)
      | refine WO.nil ?_
      | refine WO.cons ?_
      | refine W1.mv rfl ?_
  · exact ⟨_, Res.cell rfl .here (fun blk hb => by rw [hb]; rfl) Res.nil, by repeat (first | exact Suf.refl | apply Suf.cons), _, rfl⟩
  · simp only [blockK, thenC]
    exact ⟨_, Res.cell rfl .here (fun blk hb => by rw [hb]; rfl) Res.nil, by repeat (first | exact Suf.refl | apply Suf.cons), _, rfl⟩
end Go.Ax
end
section
namespace Go.Ax
open Go.Ax.Ir
abbrev Z3 : List V := [.int .i64 0, .int .i64 0, .int .i64 0]
theorem A3z : A3 (.agg Z3) := ⟨0, 0, 0, rfl⟩
theorem perm_50 (a b c d e f : Nat × BP) (M : Mem) : (a :: b :: c :: d :: e :: f :: M).Perm ([d, e, f] ++ (a :: b :: c :: M)) :=
  (List.perm_append_comm (l₁ := [a, b, c]) (l₂ := [d, e, f])).append_right M
def Post50 (t : WxD) (M : Mem) (v : V) (M' : Mem) : Prop :=
  (∃ a b c e, v = .tup [.nilptr, .agg [.int .i64 a, .int .i64 b, .int .i64 c], .int .i64 e] ∧ (!decide (e = 0)) = true ∧ M' = M) ∨
  (∃ bs br bm w ms a b c, v = .tup [.ptr bs 0, .agg [.int .i64 a, .int .i64 b, .int .i64 c], .int .i64 0] ∧ WxVal 40 t ∧ ms.length = 18 ∧ IntL ms ∧ M' = ST t w ms bs br bm :: RU br :: (bm, MapOf A3 Fd) :: M)
theorem W1.isGrd {ft : FT FnR} {g : Gz} (j : Nat) {d : Option Nat} {o : IOp} {w : Bool} {L : Env} {M : Mem} {K : Env → Mem → Prop} (h : W1 ft g ⟨d, o, some (j, w)⟩ L M K) : W1 ft g ⟨d, o, some (j, w)⟩ L M K := h
attribute [local irreducible] W1 WO WC WD WF WV
set_option maxHeartbeats 2000000 in
theorem f12 {g : Gz} {M : Mem} {t : WxD} {hd : Int} (ok : WxOk g t) : WF tbl g 12 [.agg t.cells, .int .i64 hd] M fun v M' => M' = M ∧ ∃ a e, v = .tup [a, .int .i64 e] ∧ A3 a := by
  have hnh := ok.nH
  refine WF.trimS (WF.intro rfl (Nat.le_of_ble_eq_true rfl) ?_)
  repeat' first
    | refine W1.box (d := 2) rfl ok.sc6 (fun b2 => ?_)
    | refine W1.alloc (d := 4) rfl (fun b4 => ?_)
    | ((with_reducible refine W1.isCall 48 ?_); refine W1.callV rfl rfl (WV.func ((f48 ok).mono fun v M' => ?_)); rintro (⟨e, rfl, he, rfl⟩ | ⟨bs, br, bm, w, ms, rfl, val, hl, hi, rfl⟩))
    | refine WC.store ok val.up hl hi (fun g' hg ok' hF => ?_)
    | refine W1.ldAll rfl (.there .here) rfl ?_
    | refine W1.ldS rfl (.there (.there .here)) rfl ?_
    | refine W1.lenSlc rfl ok'.hH.up.1 ?_
    | refine W1.sub rfl rfl (by omega) (by omega) ?_
    | ((with_reducible refine W1.isCall 38 ?_); refine W1.callV rfl rfl (WV.func ((f38L (k := 1) (o := 0) .here (lt1 ⟨_, rfl⟩) (by decide)).mono fun v M' => ?_)); rintro ⟨rfl, tt, rfl, ht⟩)
    | (refine W1.iaa rfl rfl (by have := (ht (by assumption) 0 (by decide) _ rfl).1; omega) (by have := (ht (by assumption) 0 (by decide) _ rfl).2; have := val.nH; omega) ?_; obtain ⟨ra, rb, rc, hr⟩ := hF.row (j := hd) (by have := (ht (by assumption) 0 (by decide) _ rfl).1; omega) (by have := (ht (by assumption) 0 (by decide) _ rfl).2; have := val.nH; omega))
    | refine W1.ldG rfl hr ?_
    | refine W1.stAll (p := Z3) rfl rfl rfl rfl rfl .here ?_
    | refine W1.stAll (p := Z3) rfl rfl rfl rfl rfl (.there (.there .here)) ?_
    | refine W1.stAll (p := [.int .i64 ra, .int .i64 rb, .int .i64 rc]) rfl rfl rfl rfl rfl (.there (.there .here)) ?_
    | exact ⟨_, Res.cell rfl .here (rdB_all rfl) (Res.tmp rfl Res.nil), by repeat (first | exact Suf.refl | apply Suf.cons), _, _, rfl, A3z⟩
    | exact ⟨_, Res.cell rfl (.there (.there (.there (.there .here)))) (rdB_all rfl) (Res.tmp rfl Res.nil), by repeat (first | exact Suf.refl | apply Suf.cons), _, _, rfl, _, _, _, rfl⟩
    | refine WC.ret ?_
    | (with_reducible refine blockK.nrm ?_)
    | (with_reducible refine thenC.nrm ?_)
    | refine WC.seq ?_
    | refine WC.block ?_
    | refine WC.region ?_
    | refine WC.skip ?_
    | refine WC.cond_t rfl (by first | assumption | rfl) ?_
    | refine WC.cond_f rfl (by first | assumption | rfl) ?_
    | refine WC.cond rfl (fun hc => ?_) (fun hc => ?_)
    | refine WO.nil ?_
    | refine WO.cons ?_
    | refine W1.mv rfl ?_
    | refine W1.nilck rfl ?_
    | refine W1.fa rfl ?_
    | refine W1.ext rfl rfl ?_
    | refine W1.neq rfl rfl ?_
    | refine W1.bld rfl rfl ?_
    | refine W1.bldS rfl rfl rfl (fun bb => ?_)
set_option maxHeartbeats 4000000 in
theorem f50 {g : Gz} {M : Mem} {t : WxD} {s : V} {n : Nat} {num : Nat → Int} {x y z : Int} (ok : WxOk g t) (hs : Slc g [] s n 1 fun i _ => .int .i64 (num i)) (hsc : s.scalar = true) (hn : n ≤ 2000000) : WF tbl g 50 [.agg t.cells, s, .agg [.int .i64 x, .int .i64 y, .int .i64 z]] M (Post50 t M) := by
  have hnh := ok.nH
  refine WF.trim (WF.intro rfl (Nat.le_of_ble_eq_true rfl) ?_)
  repeat' first
    | refine W1.box (d := 3) rfl ok.sc6 (fun b3 => ?_)
    | refine W1.box (d := 5) rfl rfl (fun b5 => ?_)
    | refine W1.alloc (d := 7) rfl (fun b7 => ?_)
    | ((with_reducible refine W1.isCall 48 ?_); refine W1.callV rfl rfl (WV.func ((f48 ok).mono fun v M' => ?_)); rintro (⟨e, rfl, he, rfl⟩ | ⟨bs, br, bm, w, ms, rfl, val, hl, hi, rfl⟩))
    | refine WC.store ok val.up hl hi (fun g' hg ok' hF => ?_)
    | ((with_reducible refine W1.isDst 14 ?_); refine W1.ldAll rfl (.there (.there .here)) rfl ?_)
    | ((with_reducible refine W1.isDst 21 ?_); refine W1.ldAll rfl .here rfl (conjR (ReC.ldAll rfl rfl .here rfl) (by simp) ?_))
    | ((with_reducible refine W1.isDst 30 ?_); refine W1.ldAll rfl (.there .here) rfl (conjR (ReC.ldAll rfl rfl (.there .here) rfl) (by simp) ?_))
    | refine W1.stAll (p := Z3) rfl rfl rfl rfl rfl .here ?_
    | refine W1.stAll (p := Z3) rfl rfl rfl rfl rfl (.there .here) ?_
    | refine W1.ldS rfl (.there (.there (.there .here))) rfl ?_
    | refine W1.lenSlc rfl ok'.hH.up.1 ?_
    | refine W1.lenSlc rfl (hs.lessG hg).up ?_
    | refine W1.sub rfl rfl (by omega) (by omega) ?_
    | ((with_reducible refine W1.isCall 38 ?_); refine W1.callV rfl rfl (WV.func ((f38 (hs.lessG hg).up (by omega)).mono fun v M' => ?_)); rintro ⟨rfl, tt, rfl, ht⟩)
    | exact ⟨_, Res.tmp rfl (Res.cell rfl .here (rdB_all rfl) (Res.tmp rfl Res.nil)), M, [_, _, _], List.Perm.refl _, Or.inl ⟨_, _, _, _, rfl, he, rfl⟩⟩
    | exact ⟨_, Res.tmp rfl (Res.cell rfl (.there (.there (.there .here))) (rdB_all rfl) (Res.tmp rfl Res.nil)), M, [_, _, _, _, _, _], List.Perm.refl _, Or.inl ⟨_, _, _, _, rfl, by decide, rfl⟩⟩
    | refine WC.ret ?_
    | (with_reducible refine blockK.nrm ?_)
    | (with_reducible refine thenC.nrm ?_)
    | refine WC.seq ?_
    | refine WC.region ?_
    | refine WC.draw ?_
    | refine WC.skip ?_
    | refine WC.cond_t rfl (by first | assumption | rfl) ?_
    | refine WC.cond_f rfl (by first | assumption | rfl) ?_
    | refine WC.cond rfl (fun hc => ?_) (fun hc => ?_)
    | refine WO.nil ?_
    | refine WO.cons ?_
    | refine WD.nil ?_
    | refine WD.cons0 ?_
    | refine WD.consH ?_
    | refine WD.consR ?_
    | refine W1.mv rfl ?_
    | refine W1.fa rfl ?_
    | refine W1.ext rfl rfl ?_
    | refine W1.neq rfl rfl ?_
    | refine WC.block (id := 0) ?_
  have hb : ∀ i, i < n → 0 ≤ num i ∧ num i ≤ t.nH - 1 := fun i hi => ht (by assumption) i hi
  have h6 := val.nH
  refine WC.forR (blk := 1) (n := n) [1, 3, 5, 6, 7, 8, 31, 32] (fun _ (_ : Unit) => []) (fun i _ M' => M' = (bm, MapOf A3 Fd) :: (b7, Arr1 Z3 {}) :: (b5, Arr1 [.int .i64 x, .int .i64 y, .int .i64 z] {}) :: (b3, Arr1 t.cells {}) :: M) () (by omega) rfl (fun _ _ => rfl) (fun _ _ => rfl) (fun _ _ => rfl) (fun _ _ => rfl) ⟨rfl, rfl⟩ (subL.nil _) rfl ?_ ?_
  · rintro i u M' hi rfl
    obtain ⟨hb0, hb1⟩ := hb i hi
    obtain ⟨nm, xa, xb, xc, xd, xe, hr⟩ := ok'.hrow (num i).toNat (by omega)
    have hs' : ∀ {M : Mem}, Slc g' M s n 1 fun i _ => .int .i64 (num i) := (hs.lessG hg).up
    repeat' first
      | (refine W1.iaSlc rfl rfl hs' (by omega) (by omega) (fun b o hrd => ?_))
      | ((with_reducible refine W1.isDst 37 ?_); refine W1.ldR (v := .int .i64 (num i)) rfl (hrd 0 (by omega)) ?_)
      | refine W1.ldR rfl (hrd 0 (by omega)) ?_
      | (refine W1.iaRow rfl rfl ok'.hH.up hb0 (by omega) (fun bq oq hrq => ?_); rw [hr] at hrq)
      | refine W1.ldR rfl (hrq.at 5 rfl) ?_
      | refine W1.ldS rfl (.there (.there (.there .here))) rfl ?_
      | refine W1.guard_y rfl (by first | assumption | rfl) ?_
      | refine W1.guard_n rfl (by first | assumption | rfl) ?_
      | ((with_reducible refine W1.isGrd 40 ?_); refine W1.guardD rfl (fun hp hd => ?_) (fun hp hd => ?_))
      | refine W1.sub rfl rfl (by omega) (by omega) ?_
      | refine W1.ldAll rfl (.there .here) rfl (conjR (ReC.ldAll rfl rfl (.there .here) rfl) (by simp) ?_)
      | refine W1.stAll (p := Z3) rfl rfl rfl rfl rfl (.there .here) ?_
      | exact ⟨_, Res.tmp rfl (Res.cell rfl (.there (.there (.there .here))) (rdB_all rfl) (Res.tmp rfl Res.nil)), M, [_, _, _, _, _, _], List.Perm.refl _, Or.inl ⟨_, _, _, _, rfl, by decide, rfl⟩⟩
      | exact ⟨(), _, [], rfl, by repeat (first | exact subL.nil _ | refine subL.cons rfl ?_), List.Perm.refl _, rfl⟩
      | refine WC.ret ?_
      | (with_reducible refine thenC.nrm ?_)
      | refine WC.seq ?_
      | refine WC.block ?_
      | refine WC.region ?_
      | refine WC.draw ?_
      | refine WC.skip ?_
      | refine WC.cond_t rfl (by first | assumption | rfl) ?_
      | refine WC.cond rfl (fun hc => ?_) (fun hc => ?_)
      | refine WO.nil ?_
      | refine WO.cons ?_
      | refine WD.nil ?_
      | refine WD.cons0 ?_
      | refine WD.consH ?_
      | refine WD.consR ?_
      | refine W1.guard rfl (fun hc => ?_) (fun hc => ?_)
      | refine W1.pick_t rfl (by first | assumption | rfl) rfl ?_
      | refine W1.pick_f rfl (by first | assumption | rfl) rfl ?_
      | refine W1.mv rfl ?_
      | refine W1.fa rfl ?_
      | refine W1.leq rfl rfl ?_
      | refine W1.gtr rfl rfl ?_
  · rintro u M' rfl
    repeat' first
      | ((with_reducible refine W1.isDst 59 ?_); refine W1.ldAll rfl (.there (.there .here)) rfl ?_)
      | ((with_reducible refine W1.isDst 75 ?_); refine W1.ldAll rfl (.there (.there .here)) rfl ?_)
      | exact ⟨_, Res.tmp rfl (Res.cell rfl (.there (.there (.there .here))) (rdB_all rfl) (Res.tmp rfl Res.nil)), _, [_, _, _], perm_50 _ _ _ _ _ _ _, Or.inr ⟨bs, br, bm, w, ms, ra, rb, rc, rfl, val, hl, ‹IntL ms›, rfl⟩⟩
      | (refine WC.forO (blk := 3) (n := 3) [1, 3, 5, 6, 7, 8, 59] (fun _ (_ : Unit) => []) (fun i _ M' => M' = (bm, MapOf A3 Fd) :: (b7, Arr1 Z3 {}) :: (b5, Arr1 [.int .i64 x, .int .i64 y, .int .i64 z] {}) :: (b3, Arr1 t.cells {}) :: M) () (by decide) rfl (fun _ _ => rfl) (fun _ _ => rfl) (fun _ _ => rfl) (fun _ _ => rfl) ⟨rfl, rfl⟩ (subL.nil _) rfl ?_ ?_ <;> first | (rintro j u M' hj rfl; obtain ⟨p, hp⟩ := intL3 (a := x) (b := y) (c := z) (j := ((j : Int)).toNat * 1) (by omega); obtain ⟨q, hq⟩ : ∃ q, t.cells[0 + 0 + ((j : Int)).toNat * 1]? = some (.int .i64 q) := (lt3 (P := fun j => ∃ q, t.cells[0 + 0 + ((j : Int)).toNat * 1]? = some (.int .i64 q)) ⟨_, rfl⟩ ⟨_, rfl⟩ ⟨_, rfl⟩) j hj) | (rintro u M' rfl))
      | refine W1.ixS rfl rfl (by omega) (by omega) hp ?_
      | refine W1.iaa rfl rfl (by omega) (by omega) ?_
      | refine W1.ldS rfl (.there (.there (.there .here))) hq ?_
      | ((with_reducible refine W1.isCall 38 ?_); refine W1.callV rfl rfl (WV.func ((f38L (k := 1) (o := 0) .here (lt1 ⟨_, rfl⟩) (by decide)).mono fun v M' => ?_)); rintro ⟨rfl, tt, rfl, ht⟩)
      | refine W1.ldAll rfl (.there (.there .here)) rfl (conjR (ReC.ldAll rfl rfl (.there (.there .here)) rfl) (by simp) ?_)
      | refine W1.stAll (p := Z3) rfl rfl rfl rfl rfl (.there (.there .here)) ?_
      | exact ⟨_, Res.tmp rfl (Res.cell rfl (.there (.there (.there (.there .here)))) (rdB_all rfl) (Res.tmp rfl Res.nil)), M, [_, _, _, _, _, _, _], List.Perm.refl _, Or.inl ⟨_, _, _, _, rfl, by decide, rfl⟩⟩
      | exact ⟨(), _, [_], rfl, by repeat (first | exact subL.nil _ | refine subL.cons rfl ?_), List.Perm.refl _, rfl⟩
      | ((with_reducible refine W1.isCall 55 ?_); refine W1.callV rfl rfl (WV.func ((f55 hF (fun M' _ => (hs.lessG hg).up) hn (fun i hi => ⟨(hb i hi).1, by have := (hb i hi).2; omega⟩)).mono fun v M' => ?_)); rintro ⟨rfl, ra, rb, rc, rfl⟩)
      | refine W1.stAll (p := [.int .i64 ra, .int .i64 rb, .int .i64 rc]) rfl rfl rfl rfl rfl (.there .here) ?_
      | refine WC.ret ?_
      | (with_reducible refine thenC.nrm ?_)
      | refine WC.seq ?_
      | refine WC.block ?_
      | refine WC.region ?_
      | refine WC.draw ?_
      | refine WC.skip ?_
      | refine WC.cond rfl (fun hc => ?_) (fun hc => ?_)
      | refine WO.nil ?_
      | refine WO.cons ?_
      | refine WD.nil ?_
      | refine WD.cons0 ?_
      | refine WD.consH ?_
      | refine WD.consR ?_
      | refine W1.mv rfl ?_
      | refine W1.fa rfl ?_
      | refine W1.bldS rfl rfl rfl (fun bb => ?_)
set_option maxHeartbeats 2000000 in
theorem f15 {g : Gz} {M : Mem} {t : WxD} {s : V} {n : Nat} {num : Nat → Int} {x y z : Int} (ok : WxOk g t) (hs : Slc g [] s n 1 fun i _ => .int .i64 (num i)) (hsc : s.scalar = true) (hn : n ≤ 2000000) : WF tbl g 15 [.agg t.cells, s, .agg [.int .i64 x, .int .i64 y, .int .i64 z]] M fun v M' => M' = M ∧ ∃ a e, v = .tup [a, .int .i64 e] ∧ A3 a := by
  refine WF.trimS (WF.intro rfl (Nat.le_of_ble_eq_true rfl) ?_)
  repeat' first
    | refine W1.box (d := 3) rfl ok.sc6 (fun b3 => ?_)
    | refine W1.box (d := 5) rfl rfl (fun b5 => ?_)
    | refine W1.alloc (d := 6) rfl (fun b6 => ?_)
    | refine W1.alloc (d := 9) rfl (fun b9 => ?_)
    | ((with_reducible refine W1.isDst 12 ?_); refine W1.ldAll rfl (.there (.there .here)) rfl ?_)
    | ((with_reducible refine W1.isDst 14 ?_); refine W1.ldAll rfl (.there .here) rfl ?_)
    | ((with_reducible refine W1.isDst 19 ?_); refine W1.ldAll rfl .here rfl ?_)
    | ((with_reducible refine W1.isCall 50 ?_); refine W1.callV rfl rfl (WV.func ((f50 ok hs hsc hn).mono fun v M' => ?_)); rintro (⟨a, b, c, e, rfl, he, rfl⟩ | ⟨bs, br, bm, w, ms, a, b, c, rfl, val, hl, hi, rfl⟩))
    | refine W1.stAll (p := [.int .i64 a, .int .i64 b, .int .i64 c]) rfl rfl rfl rfl rfl .here ?_
    | refine W1.stAll (p := [.int .i64 a, .int .i64 b, .int .i64 c]) rfl rfl rfl rfl rfl (.there .here) ?_
    | refine W1.stAll (p := [.int .i64 a, .int .i64 b, .int .i64 c]) rfl rfl rfl rfl rfl (.there (.there (.there (.there .here)))) ?_
    | exact ⟨_, Res.cell rfl (.there .here) (rdB_all rfl) (Res.tmp rfl Res.nil), by repeat (first | exact Suf.refl | apply Suf.cons), _, _, rfl, _, _, _, rfl⟩
    | exact ⟨_, Res.cell rfl (.there (.there (.there (.there .here)))) (rdB_all rfl) (Res.tmp rfl Res.nil), by repeat (first | exact Suf.refl | apply Suf.cons), _, _, rfl, _, _, _, rfl⟩
    | refine WC.ret ?_
    | refine WC.seq ?_
    | refine WC.region ?_
    | refine WO.nil ?_
    | refine WO.cons ?_
    | refine W1.mv rfl ?_
    | refine W1.ext rfl rfl ?_
set_option maxHeartbeats 2000000 in
theorem f17 {g : Gz} {M : Mem} {t : WxD} {s : V} {n : Nat} {num : Nat → Int} {x y z : Int} (ok : WxOk g t) (hs : Slc g [] s n 1 fun i _ => .int .i64 (num i)) (hsc : s.scalar = true) (hn : n ≤ 2000000) : WF tbl g 17 [.agg t.cells, s, .agg [.int .i64 x, .int .i64 y, .int .i64 z]] M fun v M' => M' = M ∧ ∃ a e, v = .tup [.int .i64 a, .int .i64 e] := by
  have hno := ok.nO
  refine WF.trimS (WF.intro rfl (Nat.le_of_ble_eq_true rfl) ?_)
  repeat' first
    | refine W1.box (d := 3) rfl ok.sc6 (fun b3 => ?_)
    | refine W1.box (d := 5) rfl rfl (fun b5 => ?_)
    | refine W1.alloc (d := 9) rfl (fun b9 => ?_)
    | refine W1.alloc (d := 12) rfl (fun b12 => ?_)
    | ((with_reducible refine W1.isDst 14 ?_); refine W1.ldAll rfl (.there .here) rfl ?_)
    | ((with_reducible refine W1.isDst 16 ?_); refine W1.ldAll rfl .here rfl ?_)
    | ((with_reducible refine W1.isCall 50 ?_); refine W1.callV rfl rfl (WV.func ((f50 ok hs hsc hn).mono fun v M' => ?_)); rintro (⟨a, b, c, e, rfl, he, rfl⟩ | ⟨bs, br, bm, w, ms, a, b, c, rfl, val, hl, hi, rfl⟩))
    | refine WC.permM (perm_h _ _ _ _) (WC.store ok val.up hl hi (fun g' hg ok' hF => ?_))
    | refine W1.stAll (p := [.int .i64 a, .int .i64 b, .int .i64 c]) rfl rfl rfl rfl rfl .here ?_
    | refine W1.ldS rfl (.there (.there (.there .here))) rfl ?_
    | refine W1.lenSlc rfl ok'.hO.up.1 ?_
    | (obtain ⟨l0, l1, l2, l4, l5, ⟨w6, l6⟩, l26⟩ := hF.ld; refine WC.forR (blk := 0) (n := t.nO) [3, 5, 6, 7, 8, 9, 25, 26] (fun _ (_ : Unit) => []) (fun i _ M' => M' = (b9, Arr1 [.int .i64 a, .int .i64 b, .int .i64 c] {}) :: (bm, MapOf A3 Fd) :: (b5, Arr1 [.int .i64 x, .int .i64 y, .int .i64 z] {}) :: (b3, Arr1 t.cells {}) :: M) () (by omega) rfl (fun _ _ => rfl) (fun _ _ => rfl) (fun _ _ => rfl) (fun _ _ => rfl) ⟨rfl, rfl⟩ (subL.nil _) rfl ?_ ?_ <;> first | (rintro j u M' hj rfl; obtain ⟨nm, xa, xb, xc, xd, xe, hrow⟩ := ok'.orow j hj) | (rintro u M' rfl))
    | (refine W1.iaRow rfl rfl ok'.hO.up (by omega) (by omega) (fun bq oq hrd => ?_); rw [Int.toNat_natCast, hrow] at hrd)
    | refine W1.ldV (vs := [.str nm, .int .i64 xa, .int .i64 xb, .int .i64 xc, .int .i64 xd, .int .i64 xe]) rfl rfl hrd ?_
    | refine W1.stAll rfl rfl rfl rfl rfl .here ?_
    | ((with_reducible refine W1.isDst 33 ?_); refine W1.ldAll rfl (.there .here) rfl ?_)
    | ((with_reducible refine W1.isDst 34 ?_); refine W1.ldAll rfl .here rfl ?_)
    | ((with_reducible refine W1.isDst 39 ?_); refine W1.ldAll rfl .here rfl (conjR (ReC.ldAll rfl rfl .here rfl) (by simp) ?_))
    | ((with_reducible refine W1.isCall 51 ?_); refine W1.callV rfl rfl (WV.func ((f51 hF).mono fun v M' => ?_)); rintro ⟨rfl, kk, rfl⟩)
    | ((with_reducible refine W1.isCall 52 ?_); refine W1.callV rfl rfl (WV.func (f52.mono fun v M' => ?_)); rintro ⟨rfl, kw, rfl⟩)
    | refine W1.ldG rfl l6 (conjR (ReC.ldG rfl rfl l6) (by simp) ?_)
    | exact ⟨by repeat (first | exact Suf.refl | apply Suf.cons), _, _, rfl⟩
    | exact ⟨(), _, [_], rfl, by repeat (first | exact subL.nil _ | refine subL.cons rfl ?_), List.Perm.refl _, rfl⟩
    | refine WC.ret ?_
    | (with_reducible refine blockK.rt ?_)
    | (with_reducible refine thenC.nrm ?_)
    | (with_reducible refine thenC.rt ?_)
    | refine WC.seq ?_
    | refine WC.block ?_
    | refine WC.region ?_
    | refine WC.draw ?_
    | refine WC.skip ?_
    | refine WC.cond_t rfl (by first | assumption | rfl) ?_
    | refine WC.cond_f rfl (by first | assumption | rfl) ?_
    | refine WC.cond rfl (fun hc => ?_) (fun hc => ?_)
    | refine WO.nil ?_
    | refine WO.cons ?_
    | refine WD.nil ?_
    | refine WD.cons0 ?_
    | refine WD.consH ?_
    | refine WD.consR ?_
    | refine W1.mv rfl ?_
    | refine W1.nilck rfl ?_
    | refine W1.fa rfl ?_
    | refine W1.ext rfl rfl ?_
    | refine W1.lss rfl rfl ?_
    | refine W1.neq rfl rfl ?_
    | refine W1.not rfl ?_
    | refine Exists.intro _ (And.intro (Res.tmp rfl (Res.tmp rfl Res.nil)) ?_)
end Go.Ax
end
section
namespace Go.Ax
open Go.Ax.Ir
theorem catA_nilW (n : Nat) : catA (fun _ => ([] : Bks)) n = [] := by
  induction n with
  | zero => rfl
  | succ n ih => simp only [catA, ih, List.append_nil]
theorem OwnC.flatW {row : List Ty} {n b c k : Nat} (hk : n * c + n + 1 ≤ k) {cap : Option Nat} {cs : List V} (hw : row.length ≠ 0) (hn : n ≤ 1099511627776) (hc : ∀ c, cap = some c → n ≤ c) (h : ∀ i, i < n → OwnRow row ((cs.drop (i * row.length)).take row.length) [] c) :
    OwnC (.sl row) (.slice b 0 n cap row.length) [(b, cs)] k := by
  simp only [OwnC]
  refine ⟨n, cs, fun i => (cs.drop (i * row.length)).take row.length, fun _ => [], fun _ => c, h, hw, hn, by omega, by rw [sumTo_const]; omega, Or.inr ⟨b, 0, cap, rfl, hc, ?_, by rw [catA_nilW]⟩⟩
  intro i _ j hj
  rw [List.getElem?_take, if_pos hj, List.getElem?_drop]
  congr 1; omega
def LQ (Q : V → Bks → Prop) (s : V) (n : Nat) (R : Bks) : Prop := (s = .nilslice ∧ n = 0 ∧ R = []) ∨ ∃ b cs Rs, s = .slice b 0 n none 1 ∧ cs.length = n ∧ n ≠ 0 ∧ (∀ i, i < n → ∃ v, cs[i]? = some v ∧ Q v (Rs i)) ∧ R = (b, cs) :: catA Rs n
def Q1 (v : V) (R : Bks) : Prop := ∃ b k c, v = .slice b 0 k (some k) 1 ∧ k ≤ 64 ∧ c.length = k ∧ IntL c ∧ R = [(b, c)]
theorem Q1.own {v : V} {R : Bks} (h : Q1 v R) : OwnC (.sl [.int]) v R 200 := by
  obtain ⟨b, k, c, rfl, hk, hl, hi, rfl⟩ := h
  refine OwnC.flatW (row := [.int]) (n := k) (c := 1) (k := 200) (by omega) (by decide) (by omega) (by intro c e; injection e with e; omega) fun i hik => ownRow_ints (w := 1) (hi.dt _ _) ?_
  simp only [List.length_take, List.length_drop, List.length_singleton]
  omega
theorem LQ.scalar {Q : V → Bks → Prop} {s : V} {n : Nat} {R : Bks} (h : LQ Q s n R) : s.scalar = true := by
  rcases h with ⟨rfl, _, _⟩ | ⟨b, cs, Rs, rfl, _⟩ <;> rfl
theorem LQ.own {s : V} {n : Nat} {R : Bks} (h : LQ Q1 s n R) (hn : n ≤ 64) : ∃ k, OwnC (.sl [.sl [.int]]) s R k ∧ k ≤ 20000 := by
  rcases h with ⟨rfl, rfl, rfl⟩ | ⟨b, cs, Rs, rfl, hl, h0, hr, rfl⟩
  · exact ⟨1, OwnC.nil (by decide), by decide⟩
  · refine ⟨20000, ?_, Nat.le_refl _⟩
    unfold OwnC
    refine ⟨n, cs, fun i => (cs.drop i).take 1, Rs, fun _ => 200, fun i hi => ?_, by decide, by omega, by omega, by rw [sumTo_const]; omega, Or.inr ⟨b, 0, none, rfl, by simp, fun i hi j hj => ?_, rfl⟩⟩
    · obtain ⟨v, h1, h2⟩ := hr i hi
      have e : (cs.drop i).take 1 = [v] := by
        apply List.ext_getElem?
        intro j
        rw [List.getElem?_take, List.getElem?_drop]
        rcases j with _ | j
        · exact h1
        · rw [if_neg (by omega)]; rfl
      show OwnRow [.sl [.int]] ((cs.drop i).take 1) (Rs i) 200
      rw [e]
      simp only [OwnRow]
      exact ⟨v, [], Rs i, [], 200, 0, rfl, h2.own, ⟨rfl, rfl⟩, by simp, by omega⟩
    · simp only [List.length_singleton] at hj
      rw [List.getElem?_take, if_pos hj, List.getElem?_drop]
      simp
section
variable {ft : FT FnR} {g : Gz}
theorem W1.permM {o : IOper} {L : Env} {M M' : Mem} {K : Env → Mem → Prop} (hp : M.Perm M') (h : W1 ft g o L M' K) : W1 ft g o L M K := by
  intro τ hh hl hs
  obtain ⟨n, τ', h', L', M1, e, l, s, k, hK⟩ := h τ hh hl (hs.perm hp)
  exact ⟨n, τ', h', L', M1, e, l, s, k.perm hp.symm (List.Perm.refl _), hK⟩
theorem W1.appLQ {Q : V → Bks → Prop} {L : Env} {A B : Mem} {K : Env → Mem → Prop} {d n bq : Nat} {x y : Opd} {s v : V} {R : Bks} {c : Option Nat} {M1 : Mem} (hs : lkO L x = some s) (hX : LQ Q s n R) (hy : lkO L y = some (.slice bq 0 1 c 1)) (hbq : At (A ++ (toM R ++ B)) bq (Arr1 [v] {}) M1) (hn : n ≤ 1000)
    (h : ∀ s' b' cs' RR, (∀ Rv, Q v Rv → LQ Q s' (n + 1) (((b', cs') :: RR) ++ Rv)) → K ((d, s') :: L) ((b', Arr1 cs' {}) :: (A ++ (toM RR ++ B)))) : W1 ft g ⟨some d, .app 1 24 x y, none⟩ L (A ++ (toM R ++ B)) K := by
  have hlm : limit = 35184372088832 := rfl
  rcases hX with ⟨rfl, rfl, rfl⟩ | ⟨b, cs, Rs, rfl, hl, h0, hr, rfl⟩
  · refine W1.appN (n := 1) hs hy (Src.row hbq (Nat.le_of_ble_eq_true rfl)) (by decide) (by omega) (fun b' => ?_)
    refine h _ b' _ [] fun Rv hv => Or.inr ⟨b', [v], fun _ => Rv, rfl, rfl, by decide, fun i hi => ?_, rfl⟩
    obtain rfl : i = 0 := by omega
    exact ⟨v, rfl, hv⟩
  · refine W1.app (cs := cs) (n := 1) hs hy (Src.row hbq (Nat.le_of_ble_eq_true rfl)) (by decide) (At.app .here) (by omega) (by omega) (fun b' => ?_)
    refine h _ b' (cs.drop 0 ++ [v]) (catA Rs n) fun Rv hv => Or.inr ⟨b', cs.drop 0 ++ [v], fun i => if i = n then Rv else Rs i, rfl, ?_, by omega, fun i hi => ?_, ?_⟩
    · show (cs.drop 0 ++ [v]).length = n + 1
      simp [hl]
    · show ∃ w, (cs.drop 0 ++ [v])[i]? = some w ∧ _
      by_cases e : i = n
      · subst e
        refine ⟨v, ?_, by simpa using hv⟩
        rw [List.drop_zero, List.getElem?_append_right (by omega), hl, Nat.sub_self]; rfl
      · obtain ⟨w, h1, h2⟩ := hr i (by omega)
        refine ⟨w, ?_, by simpa [e] using h2⟩
        rw [List.drop_zero, List.getElem?_append_left (by omega)]; exact h1
    · rw [catA, if_pos rfl, catA_congr (f' := Rs) n fun i hi => if_neg (by omega)]
      rfl
end
theorem LstP.src {g : Gz} {n : Nat} {s : V} {k : Nat} {Y : Mem} (h : LstP (Bd n) s k Y) : ∃ xs, xs.length = k ∧ IntL xs ∧ ∀ M, (∀ p ∈ Y, p ∈ M) → Src g M 1 s xs k := by
  rcases h with ⟨rfl, rfl, rfl⟩ | ⟨b, cs, rfl, hl, hi, h0, rfl⟩
  · exact ⟨[], rfl, fun v hv => by simp at hv, fun M _ => Src.nil⟩
  · have hci : IntL cs := fun c hc => by obtain ⟨q, e, _⟩ := hi c hc; exact ⟨q, e⟩
    refine ⟨(cs.drop 0).take (k * 1), by simp [hl], hci.dt _ _, fun M hM => ?_⟩
    obtain ⟨M', hat⟩ := At.of_mem (hM _ (List.mem_singleton.2 rfl))
    exact Src.row hat (by omega)
theorem perm_m1 (Y : Mem) (a m : Nat × BP) (M : Mem) : (Y ++ (a :: m :: M)).Perm (m :: (Y ++ (a :: M))) :=
  (List.Perm.append_left Y (List.Perm.swap _ _ _)).trans List.perm_middle
theorem perm_24 (p2 p' pb p7 p5 pm p1 : Nat × BP) (Y T M : Mem) : (p2 :: p' :: pb :: p7 :: (Y ++ (p5 :: pm :: p1 :: (T ++ M)))).Perm ([pb] ++ (Y ++ (p5 :: pm :: p2 :: p1 :: ((p' :: (T ++ [p7])) ++ M)))) := by
  refine (List.perm_middle (l₁ := [p2, p']) (a := pb)).trans (List.Perm.cons pb ?_)
  refine (perm_sw [p2, p', p7] Y _).trans (List.Perm.append_left Y ?_)
  refine (perm_sw [p2, p', p7] [p5, pm] _).trans (List.Perm.append_left [p5, pm] ?_)
  refine List.Perm.cons p2 ((perm_sw [p', p7] [p1] _).trans (List.Perm.cons p1 ?_))
  show (p' :: p7 :: (T ++ M)).Perm (p' :: ((T ++ [p7]) ++ M))
  rw [List.append_assoc]
  exact List.Perm.cons p' (List.perm_middle (l₁ := T) (a := p7) (l₂ := M)).symm
theorem perm_24b (p' pb p7 p5 pm p2 p1 : Nat × BP) (Y Z : Mem) : (p' :: ((pb :: p7 :: (Y ++ [p5, pm, p2, p1])) ++ Z)).Perm (p2 :: p' :: pb :: p7 :: (Y ++ (p5 :: pm :: p1 :: Z))) := by
  rw [List.cons_append, List.cons_append, List.append_assoc]
  refine ((List.Perm.cons p' (List.Perm.cons pb (List.Perm.cons p7 ?_))).trans (List.perm_middle (l₁ := [p', pb, p7]) (a := p2)))
  exact (List.Perm.append_left Y (List.perm_middle (l₁ := [p5, pm]) (a := p2) (l₂ := p1 :: Z))).trans List.perm_middle
def Post24 (nh : Nat) (M : Mem) (v : V) (M' : Mem) : Prop := ∃ s n R e, v = .tup [s, .int .i64 e] ∧ LQ Q1 s n R ∧ n ≤ 64 ∧ (e = 0 → ∃ t, WxVal 40 t ∧ t.nH = nh) ∧ M' = toM R ++ M
def Post19 (M : Mem) (v : V) (M' : Mem) : Prop := ∃ s R k a e, v = .tup [s, a, .int .i64 e] ∧ A3 a ∧ OwnC (.sl (List.replicate 1 .int)) s R k ∧ k ≤ 1000 ∧ M' = toM R ++ M
attribute [local irreducible] W1 WO WC WD WF WV
set_option maxHeartbeats 4000000 in
theorem f24 {g : Gz} {M : Mem} {t : WxD} (ok : WxOk g t) (ht : TZ g) : WF tbl g 24 [.agg t.cells] M (Post24 t.nH M) := by
  refine WF.trim (WF.intro rfl (Nat.le_of_ble_eq_true rfl) ?_)
  repeat' first
    | refine W1.box (d := 1) rfl ok.sc6 (fun b1 => ?_)
    | refine W1.alloc (d := 2) rfl (fun b2 => ?_)
    | refine W1.alloc (d := 5) rfl (fun b5 => ?_)
    | ((with_reducible refine W1.isDst 9 ?_); refine W1.ldAll rfl (.there .here) rfl ?_)
    | ((with_reducible refine W1.isCall 48 ?_); refine W1.callV rfl rfl (WV.func ((f48 ok).mono fun v M' => ?_)); rintro (⟨e, rfl, he, rfl⟩ | ⟨bs, br, bm, w, ms, rfl, val, hl, hi, rfl⟩))
    | refine WC.store ok val.up hl hi (fun g' hg ok' hF => ?_)
    | (refine W1.st rfl rfl rfl rfl .here (Nat.le_of_ble_eq_true rfl) ?_)
    | exact ⟨_, Res.cell rfl .here (fun blk hb => by rw [hb]; rfl) (Res.tmp rfl Res.nil), M, [_, _], List.Perm.refl _, _, 0, [], _, rfl, Or.inl ⟨rfl, rfl, rfl⟩, by decide, fun h => absurd h (by simpa using he), rfl⟩
    | ((with_reducible refine W1.isCall 53 ?_); refine W1.callV rfl rfl (WV.func ((f53 rfl rfl).mono fun v M' => ?_)); rintro ⟨bl, rfl, rfl⟩)
    | (refine rangeW (I := fun i M' => ∃ s n R, LQ Q1 s n R ∧ n ≤ i ∧ M' = (b5, Arr1 [.func 58 [.ptr bs 0] []] {}) :: (bm, MapOf A3 Fd) :: (b2, Arr1 [s] {}) :: (b1, Arr1 t.cells {}) :: (toM R ++ M)) (J := fun _ _ => False) hF (ht.lessG hg) rfl ⟨.nilslice, 0, [], Or.inl ⟨rfl, rfl, rfl⟩, Nat.le_refl _, rfl⟩ ?_ ?_ ?_ <;> first | (rintro l i v k Y M' hi64 hY hk ⟨s, n, R, hR, hni, rfl⟩) | (rintro i M' hi64 ⟨s, n, R, hR, hni, rfl⟩) | (rintro x M' hx h; exact h.elim))
    | refine WC.ret ?_
    | (with_reducible refine blockK.nrm ?_)
    | (with_reducible refine thenC.nrm ?_)
    | refine WC.seq ?_
    | refine WC.block ?_
    | refine WC.region ?_
    | refine WC.skip ?_
    | refine WC.cond_t rfl (by first | assumption | rfl) ?_
    | refine WC.cond_f rfl (by first | assumption | rfl) ?_
    | refine WO.nil ?_
    | refine WO.cons ?_
    | refine W1.mv rfl ?_
    | refine W1.ext rfl rfl ?_
    | refine W1.mkfn rfl rfl ?_
    | refine W1.neq rfl rfl ?_
  · obtain ⟨num, hnum, hslc⟩ := hY.slc (g := g')
    obtain ⟨xs, hxl, hxi, hsrc⟩ := hY.src (g := g')
    have h6 := val.nH
    have hlm : limit = 35184372088832 := rfl
    have hcl : (splice (rep k [.int .i64 0]) 0 (xs.take (min k k * 1))).length = k := (spl_len (by rw [rep_len, List.length_take]; omega)).trans (rep_len _ _)
    have hci : IntL (splice (rep k [.int .i64 0]) 0 (xs.take (min k k * 1))) := (rep_int _ _).spl (hxi.tk _)
    skip
    refine ⟨rfl, ?_⟩
    repeat' first
      | refine W1.ldS rfl (At.app .here) rfl ?_
      | (refine W1.callV rfl rfl (WV.func (WF.permM (perm_m1 Y _ _ _) (WF.monoP (f58 hF (n := k) (num := num) (fun M' ⟨R, e⟩ => hslc _ fun p hp => by rw [e]; exact List.mem_append_right _ (List.mem_cons_of_mem _ (List.mem_append_left _ hp))) (by omega) (fun i hi => ⟨(hnum i hi).1, by have := (hnum i hi).2; omega⟩)) fun v M' hM => ?_))); obtain ⟨rfl, kk, rfl⟩ := hM; refine ⟨_, ?_, (perm_m1 Y _ _ _).symm⟩)
      | refine W1.lenSlc rfl (hslc _ fun p hp => List.mem_append_left _ hp) ?_
      | (refine W1.mksl rfl rfl (by omega) (by omega) (by omega) (by omega) rfl (fun b7 => ?_); rw [Int.toNat_natCast])
      | (refine W1.cpyI (n2 := k) rfl rfl (hsrc _ fun p hp => List.mem_cons_of_mem _ (List.mem_append_left _ hp)) hxi.allSc hxl (rep_len _ _) .here (fun q => ?_))
      | refine W1.ldS rfl (.there (At.app (.there (.there .here)))) rfl ?_
      | refine W1.bldS rfl rfl rfl (fun bb => ?_)
      | (refine W1.permM (M' := (_ :: _ :: (Y ++ [_, _, _, _])) ++ (toM R ++ M)) (by rw [List.cons_append, List.cons_append, List.append_assoc]; exact List.Perm.refl _) (W1.appLQ (Q := Q1) rfl hR rfl .here (by omega) (fun s2 b' cs' RR hRR => ?_)); have hR2 := hRR [(b7, _)] ⟨b7, k, _, rfl, hk, hcl, hci, rfl⟩)
      | (refine W1.permM (perm_24b _ _ _ _ _ _ _ _ _) (W1.st0 rfl rfl hR2.scalar .here ?_))
      | exact ⟨fun _ => ⟨(b5, _) :: (bm, _) :: (b2, _) :: (b1, _) :: (toM (((b', cs') :: RR) ++ [(b7, _)]) ++ M), [_], by rw [toM_app]; exact perm_24 _ _ _ _ _ _ _ _ _ _, s2, n + 1, _, hR2, by omega, rfl⟩, fun hx => absurd rfl hx⟩
      | exact ⟨fun _ => ⟨_, [], List.Perm.refl _, _, _, _, hR, by omega, rfl⟩, fun hx => absurd rfl hx⟩
      | (with_reducible refine thenC.nrm ?_)
      | refine WC.seq ?_
      | refine WC.block ?_
      | refine WC.region ?_
      | refine WC.skip ?_
      | refine WC.cond rfl (fun hc => ?_) (fun hc => ?_)
      | refine WO.nil ?_
      | refine WO.cons ?_
      | refine W1.mv rfl ?_
  · repeat' first
      | refine W1.ldS rfl (.there (.there .here)) rfl ?_
      | refine W1.st0 rfl rfl hR.scalar (.there (.there .here)) ?_
      | exact ⟨_, Res.cell rfl (.there (.there (.there (.there .here)))) (fun blk hb => by rw [hb]; rfl) (Res.tmp rfl Res.nil), toM R ++ M, [_, _, _, _, _, _], List.Perm.refl _, s, n, R, 0, rfl, hR, by omega, fun _ => ⟨t, val, rfl⟩, rfl⟩
      | refine WC.ret ?_
      | refine WO.nil ?_
      | refine WO.cons ?_
      | refine W1.mv rfl ?_
end Go.Ax
end
section
namespace Go.Ax
open Go.Ax.Ir
attribute [local irreducible] W1 WO WC WD WF WV
set_option maxHeartbeats 4000000 in
theorem f19 {g : Gz} {M : Mem} {t : WxD} (ok : WxOk g t) (ht : TZ g) : WF tbl g 19 [.agg t.cells] M (Post19 M) := by
  refine WF.trim (WF.intro rfl (Nat.le_of_ble_eq_true rfl) ?_)
  have nilP : ∀ {M1 R : Mem} {e : Int}, M1 = R ++ M → ∃ M2 R, M1.Perm (R ++ M2) ∧ Post19 M (.tup [.nilslice, .agg Z3, .int .i64 e]) M2 := fun {M1 R e} hm => ⟨M, R, by rw [hm], _, [], 1, _, e, rfl, A3z, OwnC.nil (by decide), by decide, rfl⟩
  repeat' first
    | refine W1.box (d := 1) rfl ok.sc6 (fun b1 => ?_)
    | refine W1.alloc (d := 2) rfl (fun b2 => ?_)
    | refine W1.alloc (d := 3) rfl (fun b3 => ?_)
    | refine W1.alloc (d := 4) rfl (fun b4 => ?_)
    | refine W1.alloc (d := 5) rfl (fun b5 => ?_)
    | ((with_reducible refine W1.isDst 9 ?_); refine W1.ldAll rfl (.there (.there (.there .here))) rfl ?_)
    | ((with_reducible refine W1.isCall 48 ?_); refine W1.callV rfl rfl (WV.func ((f48 ok).mono fun v M' => ?_)); rintro (⟨e, rfl, he, rfl⟩ | ⟨bs, br, bm, w, ms, rfl, val, hl, hi, rfl⟩))
    | refine WC.permM (perm_h _ _ _ _) (WC.store ok val.up hl hi (fun g' hg ok' hF => ?_))
    | ((with_reducible refine W1.isDst 15 ?_); refine W1.ldAll rfl (.there (.there .here)) rfl (conjR (ReC.ldAll rfl rfl (.there (.there .here)) rfl) (by simp) ?_))
    | ((with_reducible refine W1.isDst 16 ?_); refine W1.ldS rfl (.there .here) rfl (conjR (ReC.ldS rfl rfl (.there .here) rfl) (by simp) ?_))
    | ((with_reducible refine W1.isDst 13 ?_); refine W1.ldS rfl (.there .here) rfl ?_)
    | ((with_reducible refine W1.isDst 13 ?_); refine W1.ldS rfl (.there (.there .here)) rfl ?_)
    | ((with_reducible refine W1.isDst 17 ?_); refine W1.ldS rfl .here rfl ?_)
    | refine W1.st (v := .nilslice) rfl rfl rfl rfl (.there (.there (.there .here))) (Nat.le_of_ble_eq_true rfl) (And.intro (rs2 (ReC.ldAll rfl rfl (.there (.there .here)) rfl) (ReC.ldS rfl rfl (.there .here) rfl)) (And.intro (by simp) ?_))
    | refine W1.stAll (p := Z3) rfl rfl rfl rfl rfl (.there (.there .here)) (And.intro (rs1 (ReC.ldS rfl rfl (.there .here) rfl)) (And.intro (by simp) ?_))
    | refine W1.st rfl rfl rfl rfl .here (Nat.le_of_ble_eq_true rfl) ?_
    | refine W1.st rfl rfl rfl rfl (.there .here) (Nat.le_of_ble_eq_true rfl) ?_
    | refine W1.st rfl rfl rfl rfl (.there (.there (.there (.there .here)))) (Nat.le_of_ble_eq_true rfl) ?_
    | exact ⟨_, Res.cell rfl (.there (.there (.there .here))) (fun blk hb => by rw [hb]; rfl) (Res.cell rfl (.there (.there .here)) (rdB_all rfl) (Res.cell rfl (.there .here) (fun blk hb => by rw [hb]; rfl) Res.nil)), nilP (R := [_, _, _, _, _]) rfl⟩
    | ((with_reducible refine W1.isCall 53 ?_); refine W1.callV rfl rfl (WV.func ((f53 rfl rfl).mono fun v M' => ?_)); rintro ⟨bl, rfl, rfl⟩)
    | (refine rangeW (I := fun _ M' => M' = (b5, Arr1 [.ptr bs 0] {}) :: (bm, MapOf A3 Fd) :: (b4, Arr1 [.int .i64 0] {}) :: (b3, Arr1 Z3 {}) :: (b2, Arr1 [.nilslice] {}) :: (b1, Arr1 t.cells {}) :: M) (J := fun x M' => x = .ret ∧ ∃ v k Y a b c, LstP (Bd t.nH) v k Y ∧ k ≤ 64 ∧ M' = Y ++ ((b5, Arr1 [.ptr bs 0] {}) :: (bm, MapOf A3 Fd) :: (b4, Arr1 [.int .i64 0] {}) :: (b3, Arr1 [.int .i64 a, .int .i64 b, .int .i64 c] {}) :: (b2, Arr1 [v] {}) :: (b1, Arr1 t.cells {}) :: M)) hF (ht.lessG hg) rfl rfl ?_ ?_ ?_ <;> first | (rintro l i v k Y M' hi64 hY hk rfl) | (rintro i M' hi64 rfl) | (rintro x M' hx ⟨rfl, v, k, Y, a, b, c, hY, hk, rfl⟩))
    | refine WC.ret ?_
    | (with_reducible refine blockK.nrm ?_)
    | (with_reducible refine blockK.rt ?_)
    | (with_reducible refine thenC.nrm ?_)
    | (with_reducible refine thenC.rt ?_)
    | refine WC.seq ?_
    | refine WC.block ?_
    | refine WC.region ?_
    | refine WC.draw ?_
    | refine WC.skip ?_
    | refine WC.cond_t rfl (by first | assumption | rfl) ?_
    | refine WC.cond_f rfl (by first | assumption | rfl) ?_
    | refine WO.nil ?_
    | refine WO.cons ?_
    | refine WD.nil ?_
    | refine WD.consH ?_
    | refine WD.consR ?_
    | refine W1.mv rfl ?_
    | refine W1.ext rfl rfl ?_
    | refine W1.neq rfl rfl ?_
    | refine WD.cons ?_
  · obtain ⟨num, hnum, hslc⟩ := hY.slc (g := g')
    have h6 := val.nH
    skip
    refine ⟨rfl, ?_⟩
    repeat' first
      | refine W1.ldS rfl (At.app .here) rfl (conjR (ReC.ldS rfl rfl (At.app .here) rfl) (by simp) ?_)
      | ((with_reducible refine W1.isCall 55 ?_); refine W1.callV rfl rfl (WV.func ((f55 hF (n := k) (num := num) (fun M' ⟨R, e⟩ => hslc _ fun p hp => by rw [e]; exact List.mem_append_right _ (List.mem_append_left _ hp)) (by omega) (fun i hi => ⟨(hnum i hi).1, by have := (hnum i hi).2; omega⟩)).mono fun v M' => ?_)); rintro ⟨rfl, xa, xb, xc, rfl⟩)
      | refine And.intro (rs1 (ReC.ldS rfl rfl (At.app .here) rfl)) (And.intro (by simp) ?_)
      | ((with_reducible refine W1.isCall 54 ?_); refine W1.callV rfl rfl (WV.func (WF.permM (perm_m1 Y _ _ _) (WF.monoP (f54 hF) fun v M' hM => ?_))); obtain ⟨rfl, qa, qb, qc, qk, rfl⟩ := hM; refine ⟨_, ?_, (perm_m1 Y _ _ _).symm⟩)
      | refine W1.alloc (d := 7) rfl (fun b7 => ?_)
      | refine W1.stAll (p := [.int .i64 qa, .int .i64 qb, .int .i64 qc, .bool qk]) rfl rfl rfl rfl rfl .here ?_
      | ((with_reducible refine W1.isDst 27 ?_); refine W1.ldS rfl .here rfl ?_)
      | refine W1.ldX (vs := [.int .i64 qa, .int .i64 qb, .int .i64 qc]) rfl .here (Nat.le_of_ble_eq_true rfl) rfl (conjR (ReC.ldX rfl rfl .here (Nat.le_of_ble_eq_true rfl) rfl) (by simp) ?_)
      | refine W1.st0 rfl rfl hY.scalar (.there (Up.app (.there (.there (.there (.there .here)))) Y)) (And.intro (rs1 (ReC.ldX rfl rfl .here (Nat.le_of_ble_eq_true rfl) rfl)) (And.intro (by simp) ?_))
      | refine W1.stAll (p := [.int .i64 qa, .int .i64 qb, .int .i64 qc]) rfl rfl rfl rfl rfl (.there (Up.app (.there (.there (.there .here))) Y)) ?_
      | refine W1.st (v := .int .i64 0) rfl rfl rfl rfl (.there (Up.app (.there (.there .here)) Y)) (Nat.le_of_ble_eq_true rfl) ?_
      | (with_reducible refine blockK.rt ?_)
      | exact ⟨fun hx => absurd hx (by simp), fun _ => ⟨_, [(b7, _)], List.Perm.refl _, rfl, v, k, Y, qa, qb, qc, hY, hk, rfl⟩⟩
      | exact ⟨fun _ => ⟨_, [(b7, _)], List.Perm.refl _, rfl⟩, fun hx => absurd rfl hx⟩
      | refine WC.ret ?_
      | (with_reducible refine thenC.nrm ?_)
      | refine WC.seq ?_
      | refine WC.block ?_
      | refine WC.region ?_
      | refine WC.draw ?_
      | refine WC.skip ?_
      | refine WC.cond rfl (fun hc => ?_) (fun hc => ?_)
      | refine WO.nil ?_
      | refine WO.cons ?_
      | refine WD.nil ?_
      | refine WD.cons0 ?_
      | refine WD.consH ?_
      | refine WD.consR ?_
      | refine W1.mv rfl ?_
      | refine W1.fa rfl ?_
      | refine W1.bld rfl rfl ?_
      | refine WD.cons ?_
  · repeat' first
      | ((with_reducible refine W1.isDst 31 ?_); refine W1.ldAll rfl (.there (.there (.there .here))) rfl (conjR (ReC.ldAll rfl rfl (.there (.there (.there .here))) rfl) (by simp) ?_))
      | refine W1.st (v := .nilslice) rfl rfl rfl rfl (.there (.there (.there (.there .here)))) (Nat.le_of_ble_eq_true rfl) (And.intro (rs1 (ReC.ldAll rfl rfl (.there (.there (.there .here))) rfl)) (And.intro (by simp) ?_))
      | refine W1.stAll (p := Z3) rfl rfl rfl rfl rfl (.there (.there (.there .here))) ?_
      | refine W1.st (v := .int .i64 9) rfl rfl rfl rfl (.there (.there .here)) (Nat.le_of_ble_eq_true rfl) ?_
      | exact ⟨_, Res.cell rfl (.there (.there (.there (.there (.there (.there .here)))))) (fun blk hb => by rw [hb]; rfl) (Res.cell rfl (.there (.there (.there (.there (.there .here))))) (rdB_all rfl) (Res.cell rfl (.there (.there (.there (.there .here)))) (fun blk hb => by rw [hb]; rfl) Res.nil)), nilP (R := [_, _, _, _, _, _, _, _]) rfl⟩
      | refine WC.ret ?_
      | refine WD.nil ?_
      | refine WD.consH ?_
      | refine WD.cons ?_
  · obtain ⟨R, rfl, own⟩ := hY.lst.own (by omega)
    simp only [blockK, thenC]
    exact ⟨_, Res.cell rfl (.there (.there (At.app (.there (.there (.there (.there .here))))))) (fun blk hb => by rw [hb]; rfl) (Res.cell rfl (.there (.there (At.app (.there (.there (.there .here)))))) (rdB_all rfl) (Res.cell rfl (.there (.there (At.app (.there (.there .here))))) (fun blk hb => by rw [hb]; rfl) Res.nil)), toM R ++ M, [_, _, _, _, _, _, _, _], List.Perm.cons _ (List.Perm.cons _ (perm_sw (toM R) [_, _, _, _, _, _] M)), v, R, k + 1, _, 0, rfl, ⟨a, b, c, rfl⟩, own, by omega, rfl⟩
end Go.Ax
end
section
namespace Go.Ax
open Go.Ax.Ir
attribute [local irreducible] W1 WO WC WD WF WV
theorem f58o {g : Gz} {M : Mem} {t : WxD} {w : Int} {ms : List V} {bs br bm : Nat} (ok : WxOk g t) (val : WxVal 100 t) (hl : ms.length = 18) (hi : IntL ms) :
    WF tbl g 58 [.ptr bs 0, .nilslice] (ST t w ms bs br bm :: RU br :: (bm, MapOf A3 Fd) :: M) fun v M' => M' = ST t w ms bs br bm :: RU br :: (bm, MapOf A3 Fd) :: M ∧ ∃ k, v = .bool k := by
  refine WF.freeze .here fun hb => WF.freeze .here fun hb2 => ?_
  have hle : g.le ((g.add bs (.arr (STC t w ms (.slice br 0 2 (some 2) 2) (.map bm)) {})).add br (.arr RUL {})) := fun c p e => Gz.le_add hb2 c p (Gz.le_add hb c p e)
  have hF : StF ((g.add bs (.arr (STC t w ms (.slice br 0 2 (some 2) 2) (.map bm)) {})).add br (.arr RUL {})) t bs bm := ⟨ok.lessG hle, val, w, ms, br, hl, hi, Gz.le_add hb2 _ _ (Gz.add_eq _ _ _), Gz.add_eq _ _ _⟩
  refine (f58 hF (n := 0) (num := fun _ => 0) (fun M' _ => Or.inl ⟨rfl, rfl⟩) (by omega) (fun i hi => by omega)).mono ?_
  rintro v M' ⟨rfl, k, rfl⟩
  exact ⟨rfl, k, rfl⟩
theorem f62o {g : Gz} {M : Mem} {t : WxD} {w : Int} {ms : List V} {bs br bm : Nat} (ok : WxOk g t) (ht : TZ g) (val : WxVal 100 t) (hl : ms.length = 18) (hi : IntL ms) :
    WF tbl g 62 [.ptr bs 0] (ST t w ms bs br bm :: RU br :: (bm, MapOf A3 Fd) :: M) fun v M' => M' = ST t w ms bs br bm :: RU br :: (bm, MapOf A3 Fd) :: M ∧ ∃ k, v = .bool k := by
  refine WF.freeze .here fun hb => WF.freeze .here fun hb2 => ?_
  have hle : g.le ((g.add bs (.arr (STC t w ms (.slice br 0 2 (some 2) 2) (.map bm)) {})).add br (.arr RUL {})) := fun c p e => Gz.le_add hb2 c p (Gz.le_add hb c p e)
  have hF : StF ((g.add bs (.arr (STC t w ms (.slice br 0 2 (some 2) 2) (.map bm)) {})).add br (.arr RUL {})) t bs bm := ⟨ok.lessG hle, val, w, ms, br, hl, hi, Gz.le_add hb2 _ _ (Gz.add_eq _ _ _), Gz.add_eq _ _ _⟩
  refine (f62 hF (ht.lessG hle)).mono ?_
  rintro v M' ⟨rfl, k, rfl⟩
  exact ⟨rfl, k, rfl⟩
def WxD.lots (t : WxD) (a b c : Int) : WxD := { t with l0 := a, l1 := b, l2 := c }
theorem WxOk.lots {g : Gz} {t : WxD} (h : WxOk g t) (a b c : Int) : WxOk g (t.lots a b c) := ⟨h.hH, h.hO, h.nH, h.nO, h.cH, h.cO, h.hrow, h.orow⟩
theorem WxVal.lots {t : WxD} (h : WxVal 40 t) {a b c : Int} (ha : 0 ≤ a ∧ a ≤ 100) (hb : 0 ≤ b ∧ b ≤ 100) (hc : 0 ≤ c ∧ c ≤ 100) : WxVal 100 (t.lots a b c) := ⟨ha, hb, hc, h.fd, h.nH, h.nO⟩
set_option maxHeartbeats 4000000 in
theorem f32 {g : Gz} {M : Mem} {t : WxD} (ok : WxOk g t) : WF tbl g 32 [.agg t.cells] M fun v M' => M' = M ∧ ∃ a b e, v = .tup [.int .i64 a, .int .i64 b, .int .i64 e] := by
  refine WF.trimS (WF.intro rfl (Nat.le_of_ble_eq_true rfl) ?_)
  repeat' first
    | refine W1.box (d := 1) rfl ok.sc6 (fun b1 => ?_)
    | ((with_reducible refine W1.isDst 9 ?_); refine W1.ldAll rfl .here rfl ?_)
    | ((with_reducible refine W1.isCall 48 ?_); refine W1.callV rfl rfl (WV.func ((f48 ok).mono fun v M' => ?_)); rintro (⟨e, rfl, he, rfl⟩ | ⟨bs, br, bm, w, ms, rfl, val, hl, hi, rfl⟩) <;> try (have hv0 := val.l0; have hv1 := val.l1; have hv2 := val.l2))
    | ((with_reducible refine W1.isCall 58 ?_); refine W1.callV rfl rfl (WV.func ((f58o ok val.up hl hi).mono fun v M' => ?_)); rintro ⟨rfl, kk, rfl⟩)
    | exact ⟨by repeat (first | exact Suf.refl | apply Suf.cons), _, _, _, rfl⟩
    | ((with_reducible refine WC.isLoop 1 ?_); refine WC.forO (blk := 1) (n := 40) [1, 5] (fun _ (_ : Unit) => []) (fun i _ M' => ∃ a b c, (0 ≤ a ∧ a ≤ 100) ∧ (0 ≤ b ∧ b ≤ 100) ∧ (0 ≤ c ∧ c ≤ 100) ∧ M' = ST (t.lots a b c) w ms bs br bm :: RU br :: (bm, MapOf A3 Fd) :: (b1, Arr1 t.cells {}) :: M) () (by decide) rfl (fun _ _ => rfl) (fun _ _ => rfl) (fun _ _ => rfl) (fun _ _ => rfl) ⟨rfl, rfl⟩ (subL.nil _) ⟨t.l0, t.l1, t.l2, val.up.l0, val.up.l1, val.up.l2, rfl⟩ ?_ ?_ <;> first | rintro i u M' hi40 ⟨a, b, c, ha, hb, hc0, rfl⟩ | rintro u M' ⟨a, b, c, ha, hb, hc0, rfl⟩)
    | ((with_reducible refine WC.isLoop 3 ?_); refine WC.forO (blk := 3) (n := 3) [1, 5, 6, 20] (fun _ (_ : Unit) => []) (fun i _ M' => ∃ a b c, (0 ≤ a ∧ a ≤ 100) ∧ (0 ≤ b ∧ b ≤ 100) ∧ (0 ≤ c ∧ c ≤ 100) ∧ M' = ST (t.lots a b c) w ms bs br bm :: RU br :: (bm, MapOf A3 Fd) :: (b1, Arr1 t.cells {}) :: M) () (by decide) rfl (fun _ _ => rfl) (fun _ _ => rfl) (fun _ _ => rfl) (fun _ _ => rfl) ⟨rfl, rfl⟩ (subL.nil _) ⟨a, b, c, ha, hb, hc0, rfl⟩ ?_ ?_ <;> first | (rintro j u M' hj3 ⟨a, b, c, ha, hb, hc0, rfl⟩; rcases (show j = 0 ∨ j = 1 ∨ j = 2 by omega) with rfl | rfl | rfl) | rintro u M' ⟨a, b, c, ha, hb, hc0, rfl⟩)
    | exact ⟨(), _, [], rfl, by repeat (first | exact subL.nil _ | refine subL.cons rfl ?_), List.Perm.refl _, a, b, c, ha, hb, hc0, rfl⟩
    | ((with_reducible refine W1.isDst 28 ?_); refine W1.ldX (vs := [.int .i64 t.l0, .int .i64 t.l1, .int .i64 t.l2]) rfl (.there (.there (.there .here))) (Nat.le_of_ble_eq_true rfl) rfl ?_)
    | refine W1.st (M' := ST (t.lots t.l0 t.l1 t.l2) w ms bs br bm :: _) rfl rfl rfl rfl .here (by simp [STC]) ?_
    | refine W1.iaa rfl rfl (by decide) (by decide) ?_
    | refine W1.ldS (v := .int .i64 t.l0) rfl .here rfl (conjR (ReC.ldS rfl rfl .here rfl) (by simp) ?_)
    | refine W1.ldS (v := .int .i64 t.l1) rfl .here rfl (conjR (ReC.ldS rfl rfl .here rfl) (by simp) ?_)
    | refine W1.ldS (v := .int .i64 t.l2) rfl .here rfl (conjR (ReC.ldS rfl rfl .here rfl) (by simp) ?_)
    | refine W1.add rfl rfl (by omega) (by omega) ?_
    | refine W1.st (v := .int .i64 (t.l0 + ((i : Int) + 1))) (M' := ST (t.lots (t.l0 + ((i : Int) + 1)) t.l1 t.l2) w ms bs br bm :: _) rfl rfl rfl rfl .here (by simp [STC]) ?_
    | refine W1.st (v := .int .i64 (t.l1 + ((i : Int) + 1))) (M' := ST (t.lots t.l0 (t.l1 + ((i : Int) + 1)) t.l2) w ms bs br bm :: _) rfl rfl rfl rfl .here (by simp [STC]) ?_
    | refine W1.st (v := .int .i64 (t.l2 + ((i : Int) + 1))) (M' := ST (t.lots t.l0 t.l1 (t.l2 + ((i : Int) + 1))) w ms bs br bm :: _) rfl rfl rfl rfl .here (by simp [STC]) ?_
    | refine W1.ldS rfl .here (STC.m hl) ?_
    | refine W1.clr rfl (.there (.there .here)) ?_
    | ((with_reducible refine W1.isCall 58 ?_); refine W1.callV rfl rfl (WV.func ((f58o (ok.lots _ _ _) (val.lots (by omega) (by omega) (by omega)) hl hi).mono fun v M' => ?_)); rintro ⟨rfl, kk, rfl⟩)
    | exact ⟨(), _, [], rfl, by repeat (first | exact subL.nil _ | refine subL.cons rfl ?_), List.Perm.refl _, _, _, _, by omega, by omega, by omega, rfl⟩
    | refine WC.ret ?_
    | (with_reducible refine blockK.nrm ?_)
    | (with_reducible refine blockK.rt ?_)
    | (with_reducible refine thenC.nrm ?_)
    | (with_reducible refine thenC.rt ?_)
    | refine WC.seq ?_
    | refine WC.block ?_
    | refine WC.region ?_
    | refine WC.draw ?_
    | refine WC.skip ?_
    | refine WC.cond_t rfl (by first | assumption | rfl) ?_
    | refine WC.cond_f rfl (by first | assumption | rfl) ?_
    | refine WC.cond rfl (fun hc => ?_) (fun hc => ?_)
    | refine WO.nil ?_
    | refine WO.cons ?_
    | refine WD.nil ?_
    | refine WD.cons0 ?_
    | refine WD.consH ?_
    | refine WD.consR ?_
    | refine W1.mv rfl ?_
    | refine W1.nilck rfl ?_
    | refine W1.fa rfl ?_
    | refine W1.ext rfl rfl ?_
    | refine W1.neq rfl rfl ?_
    | refine Exists.intro _ (And.intro (Res.tmp rfl (Res.tmp rfl (Res.tmp rfl Res.nil))) ?_)
  all_goals trace_state
end Go.Ax
end
section
namespace Go.Ax
open Go.Ax.Ir
theorem mem_catW {α : Type} {f : Nat → List α} {p : α} : ∀ {n i : Nat}, i < n → p ∈ f i → p ∈ catA f n
  | n + 1, i, hi, hp => by
    simp only [catA, List.mem_append]
    by_cases e : i = n
    · subst e; exact Or.inr hp
    · exact Or.inl (mem_catW (by omega) hp)
theorem mem_toM {R : Bks} {b : Nat} {cs : List V} (h : (b, cs) ∈ R) : (b, Arr1 cs {}) ∈ toM R := List.mem_map.2 ⟨_, h, rfl⟩
theorem intSlc {g : Gz} {M : Mem} {b k : Nat} {cap : Option Nat} {c : List V} (hl : c.length = k) (hi : IntL c) (hc : ∀ x, cap = some x → k ≤ x) (hm : (b, Arr1 c {}) ∈ M) : ∃ num : Nat → Int, Slc g M (.slice b 0 k cap 1) k 1 fun i _ => .int .i64 (num i) := by
  refine ⟨fun i => match c[i]? with | some (.int _ n) => n | _ => 0, Slc.memB hm hc fun i hik j hj => ?_⟩
  obtain rfl : j = 0 := by omega
  obtain ⟨q, hq⟩ := hi.get (i := i) (by omega)
  simp only [Nat.mul_one, Nat.add_zero, hq]
theorem perm_29 (p : Nat × BP) (X Y Z : Mem) : (X ++ ((p :: Y) ++ Z)).Perm ([p] ++ (Y ++ (X ++ Z))) :=
  (List.perm_middle (l₁ := X) (a := p) (l₂ := Y ++ Z)).trans (List.Perm.cons p (perm_sw X Y Z))
theorem perm_29c (X Y T M : Mem) (b : Nat × BP) : (X ++ (Y ++ (T ++ (b :: M)))).Perm ((T ++ [b]) ++ (X ++ (Y ++ M))) := by
  have h : (X ++ (Y ++ (T ++ (b :: M)))).Perm ((X ++ Y) ++ ((T ++ [b]) ++ M)) := by simp
  refine h.trans ?_
  have h2 := perm_sw (X ++ Y) (T ++ [b]) M
  refine h2.trans ?_
  rw [List.append_assoc X Y M]
def Post29 (M : Mem) (v : V) (M' : Mem) : Prop := ∃ s1 R1 k1 s2 R2 k2 e, v = .tup [s1, s2, .int .i64 e] ∧ OwnC (.sl (List.replicate 1 .int)) s1 R1 k1 ∧ OwnC (.sl (List.replicate 1 .int)) s2 R2 k2 ∧ k1 ≤ 1000 ∧ k2 ≤ 1000 ∧ M' = toM R1 ++ (toM R2 ++ M)
attribute [local irreducible] W1 WO WC WD WF WV
theorem f82 {g : Gz} {M : Mem} {s : V} {x : Int} {n : Nat} {num : Nat → Int} (hs : Slc g M s n 1 fun i _ => .int .i64 (num i)) (hn : n ≤ 1000000) : WF tbl g 82 [s, .int .i64 x] M fun v M' => M' = M ∧ ∃ k, v = .int .i64 k := by
  refine WF.intro rfl (Nat.le_of_ble_eq_true rfl) ?_
  repeat' first
    | refine W1.lenSlc rfl hs ?_
    | (refine WC.forR (blk := 0) (n := n) [0, 1, 7] (fun _ (_ : Unit) => []) (fun i _ M' => M' = M) () (by omega) rfl (fun _ _ => rfl) (fun _ _ => rfl) (fun _ _ => rfl) (fun _ _ => rfl) ⟨rfl, rfl⟩ (subL.nil _) rfl ?_ ?_ <;> first | rintro i u M' hi rfl | rintro u M' rfl)
    | (refine W1.iaSlc rfl rfl hs (by omega) (by omega) (fun b o hrd => ?_))
    | refine W1.ldR rfl (hrd 0 (by omega)) ?_
    | exact ⟨rfl, _, rfl⟩
    | exact ⟨(), _, [], rfl, by repeat (first | exact subL.nil _ | refine subL.cons rfl ?_), List.Perm.refl _, rfl⟩
    | refine WC.ret ?_
    | refine WC.seq ?_
    | refine WC.block ?_
    | refine WC.region ?_
    | refine WC.skip ?_
    | refine WC.cond rfl (fun hc => ?_) (fun hc => ?_)
    | refine WO.nil ?_
    | refine WO.cons ?_
    | refine W1.mv rfl ?_
    | refine W1.eql rfl rfl ?_
    | refine Exists.intro _ (And.intro (Res.tmp rfl Res.nil) ?_)
theorem f61 {g : Gz} {M : Mem} {s : V} {x : Int} {n : Nat} {num : Nat → Int} (hs : Slc g M s n 1 fun i _ => .int .i64 (num i)) (hn : n ≤ 1000000) : WF tbl g 61 [s, .int .i64 x] M fun v M' => M' = M ∧ ∃ k, v = .bool k := by
  refine WF.intro rfl (Nat.le_of_ble_eq_true rfl) ?_
  repeat' first
    | (refine W1.callV rfl rfl (WV.func ((f82 hs hn).mono fun v M' => ?_)); rintro ⟨rfl, k, rfl⟩)
    | refine WC.ret ?_
    | refine WC.seq ?_
    | refine WC.region ?_
    | refine WO.nil ?_
    | refine WO.cons ?_
    | refine W1.mv rfl ?_
    | refine W1.geq rfl rfl ?_
    | refine Exists.intro _ (And.intro (Res.tmp rfl Res.nil) ?_)
  exact ⟨rfl, _, rfl⟩
set_option maxHeartbeats 4000000 in
theorem f29 {g : Gz} {M : Mem} {t : WxD} (ok : WxOk g t) (ht : TZ g) : WF tbl g 29 [.agg t.cells] M (Post29 M) := by
  refine WF.trim (WF.intro rfl (Nat.le_of_ble_eq_true rfl) ?_)
  have nilP : ∀ {M1 : Mem} {R : Bks} {b : Nat × BP} {e : Int}, M1 = toM R ++ (b :: M) → ∃ M2 R, M1.Perm (R ++ M2) ∧ Post29 M (.tup [.nilslice, .nilslice, .int .i64 e]) M2 := fun {M1 R b e} hm => ⟨M, toM R ++ [b], by rw [hm]; simp, _, [], 1, _, [], 1, e, rfl, OwnC.nil (by decide), OwnC.nil (by decide), by decide, by decide, rfl⟩
  repeat' first
    | refine W1.box (d := 1) rfl ok.sc6 (fun b1 => ?_)
    | refine W1.ldAll rfl .here rfl ?_
    | ((with_reducible refine W1.isCall 24 ?_); refine W1.callV rfl rfl (WV.func ((f24 ok ht).mono fun v M' => ?_)); rintro ⟨s, n, R, e, rfl, hR, hn, hval, rfl⟩; rcases hR with ⟨rfl, rfl, rfl⟩ | ⟨b, cs, Rs, rfl, hl, h0, hr, rfl⟩)
    | refine WC.cond (c := .t 16) rfl (fun hc => ?_) (fun he0 => ?_)
    | refine W1.lenN rfl ?_
    | refine W1.len rfl ?_
    | refine WC.condD rfl (fun hp hd => ?_) (fun hp hd => ?_)
    | refine W1.ldS rfl (At.app .here) rfl ?_
    | refine W1.lenSlc rfl ok.hH.up.1 ?_
    | exact nilP (R := []) rfl
    | exact nilP (R := (b, cs) :: catA Rs n) rfl
    | refine WC.ret ?_
    | (with_reducible refine blockK.nrm ?_)
    | (with_reducible refine blockK.rt ?_)
    | (with_reducible refine thenC.nrm ?_)
    | (with_reducible refine thenC.rt ?_)
    | refine WC.seq ?_
    | refine WC.region ?_
    | refine WC.skip ?_
    | refine WO.nil ?_
    | refine WO.cons ?_
    | refine W1.mv rfl ?_
    | refine W1.fa rfl ?_
    | refine W1.ext rfl rfl ?_
    | refine W1.eql rfl rfl ?_
    | refine W1.neq rfl rfl ?_
    | refine Exists.intro _ (And.intro (Res.tmp rfl (Res.tmp rfl (Res.tmp rfl Res.nil))) ?_)
    | refine WC.block (id := 0) ?_
  · exact absurd rfl hp
  obtain ⟨t', val, hnh⟩ := hval (by simpa using he0)
  have h6 : t.nH ≤ 6 := by have := val.nH; omega
  have hat : ∀ X1 X2 : Mem, At (X1 ++ (X2 ++ (toM ((b, cs) :: catA Rs n) ++ ((b1, Arr1 t.cells {}) :: M)))) b (Arr1 cs {}) (X1 ++ (X2 ++ (toM (catA Rs n) ++ ((b1, Arr1 t.cells {}) :: M)))) := fun X1 X2 => At.app (At.app .here)
  have hel : ∀ i, i < n → ∃ b' k, cs[0 + ((i : Int)).toNat * 1]? = some (.slice b' 0 k (some k) 1) ∧ ∀ X1 X2, ∃ num : Nat → Int, k ≤ 1000000 ∧ Slc g (X1 ++ (X2 ++ (toM ((b, cs) :: catA Rs n) ++ ((b1, Arr1 t.cells {}) :: M)))) (.slice b' 0 k (some k) 1) k 1 fun i _ => .int .i64 (num i) := by
    intro i hi
    obtain ⟨v, e1, b', k, c, rfl, hk, hcl, hci, e2⟩ := hr i hi
    refine ⟨b', k, by rw [← e1]; congr 1; omega, fun X1 X2 => ?_⟩
    obtain ⟨num, hnum⟩ := intSlc (g := g) (cap := some k) (M := X1 ++ (X2 ++ (toM ((b, cs) :: catA Rs n) ++ ((b1, Arr1 t.cells {}) :: M)))) hcl hci (by intro x hx; injection hx with hx; omega) (List.mem_append_right _ (List.mem_append_right _ (List.mem_append_left _ (mem_toM (List.mem_cons_of_mem _ (mem_catW hi (by rw [e2]; exact List.mem_singleton.2 rfl)))))))
    exact ⟨num, by omega, hnum⟩
  obtain ⟨bz, kz, ez, _⟩ := hel 0 (by omega)
  refine WC.forR (ι := V × V) (blk := 1) (n := t.nH) [1, 5, 25, 26] (fun _ x => [(2, x.1), (3, x.2)]) (fun i x M' => ∃ k1 X1 k2 X2, LstI x.1 k1 X1 ∧ LstI x.2 k2 X2 ∧ k1 ≤ i ∧ k2 ≤ i ∧ M' = X1 ++ (X2 ++ (toM ((b, cs) :: catA Rs n) ++ ((b1, Arr1 t.cells {}) :: M)))) (.nilslice, .nilslice) (by omega) rfl (fun _ _ => rfl) (fun _ _ => rfl) (fun _ _ => rfl) (fun _ _ => rfl) ⟨rfl, rfl⟩ (subL.cons rfl (subL.cons rfl (subL.nil _))) ⟨0, [], 0, [], Or.inl ⟨rfl, rfl, rfl⟩, Or.inl ⟨rfl, rfl, rfl⟩, Nat.le_refl _, Nat.le_refl _, rfl⟩ ?_ ?_
  · rintro i ⟨x1, x2⟩ M' hi ⟨k1, X1, k2, X2, hX1, hX2, hk1, hk2, rfl⟩
    dsimp only at hX1 hX2 ⊢
    repeat' first
      | refine W1.len rfl ?_
      | ((with_reducible refine WC.isReg 51 ?_); refine WC.cutS (ι := V) (fun x => [(1, .ptr b1 0), (2, x), (3, x2), (5, .slice b 0 n none 1), (6, .int .i64 i), (8, .int .i64 y8), (25, t.sH), (26, .int .i64 t.nH), (27, .int .i64 i)]) (fun x M' => ∃ k1 X1, LstI x k1 X1 ∧ k1 ≤ i + 1 ∧ M' = X1 ++ (X2 ++ (toM ((b, cs) :: catA Rs n) ++ ((b1, Arr1 t.cells {}) :: M)))) ?_ ?_; rotate_left; (rintro x1 M' ⟨k1, X1, hX1, hk1, rfl⟩); rotate_right)
      | ((with_reducible refine WC.isLoop 3 ?_); refine WC.forR (ι := Int × Int) (blk := 3) (n := n) [1, 2, 3, 5, 6, 25, 26, 27, 30, 31] (fun _ x => [(7, .int .i64 x.1), (8, .int .i64 x.2)]) (fun j _ M' => M' = X1 ++ (X2 ++ (toM ((b, cs) :: catA Rs n) ++ ((b1, Arr1 t.cells {}) :: M)))) (0, 0) (by omega) rfl (fun _ _ => rfl) (fun _ _ => rfl) (fun _ _ => rfl) (fun _ _ => rfl) ⟨rfl, rfl⟩ (subL.cons rfl (subL.cons rfl (subL.nil _))) rfl ?_ ?_ <;> first | (rintro j ⟨y7, y8⟩ M' hj rfl; obtain ⟨b', k, e1, hsl⟩ := hel j hj; obtain ⟨num, hk, hnum⟩ := hsl X1 X2; dsimp only) | (rintro ⟨y7, y8⟩ M' rfl; dsimp only))
      | refine W1.ia rfl rfl (by omega) (by omega) ?_
      | refine W1.ldS rfl (hat X1 X2) e1 ?_
      | refine W1.ldS rfl (hat X1 X2) ez ?_
      | ((with_reducible refine W1.isCall 61 ?_); refine W1.callV rfl rfl (WV.func ((f61 hnum hk).mono fun v M' => ?_)); rintro ⟨rfl, kk, rfl⟩)
      | refine W1.addU rfl rfl (fun z => ?_)
      | refine W1.bldS rfl rfl rfl (fun bb => ?_)
      | refine W1.appL (A := [_]) rfl hX1 rfl .here (by omega) (fun s1 Z1 hZ1 => ?_)
      | refine W1.appL (A := _ :: X1) rfl hX2 rfl .here (by omega) (fun s2 Z2 hZ2 => ?_)
      | ((with_reducible refine MC.mk ?_); exact ⟨s1, Z1 ++ (X2 ++ (toM ((b, cs) :: catA Rs n) ++ ((b1, Arr1 t.cells {}) :: M))), [_], (by repeat (first | exact subL.nil _ | refine subL.cons rfl ?_)), perm_sw _ [_] _, k1 + 1, Z1, hZ1, by omega, rfl⟩)
      | ((with_reducible refine MC.mk ?_); exact ⟨x1, _, [], (by repeat (first | exact subL.nil _ | refine subL.cons rfl ?_)), List.Perm.refl _, k1, X1, hX1, by omega, rfl⟩)
      | exact ⟨(z, y8), _, [], rfl, subL.cons rfl (subL.cons rfl (by repeat (first | exact subL.nil _ | refine subL.cons rfl ?_))), List.Perm.refl _, rfl⟩
      | exact ⟨(y7, y8), _, [], rfl, subL.cons rfl (subL.cons rfl (by repeat (first | exact subL.nil _ | refine subL.cons rfl ?_))), List.Perm.refl _, rfl⟩
      | exact ⟨(_, _), _, [], rfl, subL.cons rfl (subL.cons rfl (by repeat (first | exact subL.nil _ | refine subL.cons rfl ?_))), List.Perm.refl _, rfl⟩
      | exact ⟨(x1, s2), _, [_], rfl, subL.cons rfl (subL.cons rfl (by repeat (first | exact subL.nil _ | refine subL.cons rfl ?_))), perm_29 _ _ _ _, k1, X1, k2 + 1, Z2, hX1, hZ2, by omega, by omega, rfl⟩
      | exact ⟨(x1, x2), _, [], rfl, subL.cons rfl (subL.cons rfl (by repeat (first | exact subL.nil _ | refine subL.cons rfl ?_))), List.Perm.refl _, k1, X1, k2, X2, hX1, hX2, by omega, by omega, rfl⟩
      | (with_reducible refine thenC.nrm ?_)
      | refine WC.seq ?_
      | refine WC.block ?_
      | refine WC.region ?_
      | refine WC.skip ?_
      | refine WC.cond rfl (fun hc => ?_) (fun hc => ?_)
      | refine WO.nil ?_
      | refine WO.cons ?_
      | refine W1.mv rfl ?_
      | refine W1.gtr rfl rfl ?_
      | refine W1.eql rfl rfl ?_
    all_goals trace_state
  · rintro ⟨x1, x2⟩ M' ⟨k1, X1, k2, X2, hX1, hX2, hk1, hk2, rfl⟩
    dsimp only at hX1 hX2 ⊢
    obtain ⟨R1, rfl, own1⟩ := hX1.own (by omega)
    obtain ⟨R2, rfl, own2⟩ := hX2.own (by omega)
    repeat' first
      | exact ⟨toM R1 ++ (toM R2 ++ M), _, perm_29c _ _ _ _ _, x1, R1, _, x2, R2, _, 0, rfl, own1, own2, by omega, by omega, rfl⟩
      | refine WC.ret ?_
      | refine WC.seq ?_
      | refine WC.region ?_
      | refine WO.nil ?_
      | refine WO.cons ?_
      | refine W1.mv rfl ?_
      | refine Exists.intro _ (And.intro (Res.tmp rfl (Res.tmp rfl (Res.tmp rfl Res.nil))) ?_)
end Go.Ax
end
