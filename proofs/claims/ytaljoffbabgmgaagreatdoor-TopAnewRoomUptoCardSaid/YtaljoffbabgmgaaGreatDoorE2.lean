import Derived.Test.YtaljoffbabgmgaaGreatDoorE1
import Derived.Test.YtaljoffbabgmgaaGreatDoorA7
import Derived.Test.YtaljoffbabgmgaaGreatDoorA4
import Derived.Test.YtaljoffbabgmgaaGreatDoorD
set_option linter.unusedSectionVars false
set_option linter.unusedVariables false
set_option linter.unusedSimpArgs false
section
namespace Go.Ax
open Go.Ax.Ir
theorem perm_17 (a b x c d e f : Nat × BP) (l : Mem) : (a :: b :: x :: c :: d :: e :: f :: l).Perm ([a, b, c, d, e, f] ++ (x :: l)) :=
  List.Perm.cons _ (List.Perm.cons _ (List.perm_middle (a := x) (l₁ := [c, d, e, f]) (l₂ := l)).symm)
theorem perm_h (x a b : Nat × BP) (l : Mem) : (x :: a :: b :: l).Perm (a :: b :: x :: l) := (List.Perm.swap a x _).trans (List.Perm.cons a (List.Perm.swap b x l))
theorem IntL.dt {cs : List V} (h : IntL cs) (o n : Nat) : IntL ((cs.drop o).take n) := fun v hv => h v (List.mem_of_mem_drop (List.mem_of_mem_take hv))
theorem SpOk.len6 {t : HsD} {p : List V} {f : Nat → Int} (h : SpOk t p f) {lit : Int} : (V.int .i64 lit :: p).length = 6 := by simp [h.1]
theorem SpOk.all6 {t : HsD} {p : List V} {f : Nat → Int} (h : SpOk t p f) {lit : Int} : (V.int .i64 lit :: p).all V.scalar = true := by
  have h6 := h.sc; simp only [V.cells, List.all_eq_true] at h6; simp only [List.all_cons, Bool.and_eq_true, List.all_eq_true]; exact ⟨rfl, h6⟩
attribute [local irreducible] W1 WO WC WD WF WV
set_option maxHeartbeats 2000000 in
theorem f17 {g : Gz} {M : Mem} {t : HsD} {sp : V} {np : Nat} {pl : Nat → Int} {lit : Int} (ok : HsOk g t) (hs : Slc g [] sp np 1 fun i _ => .int .i64 (pl i)) (hsc : sp.scalar = true) (hnp : np ≤ 1000000000) :
    WF tbl g 17 [.agg t.cells, .agg [.int .i64 lit, sp]] M (PostL 1 M) := by
  refine WF.trim (WF.intro rfl (Nat.le_of_ble_eq_true rfl) ?_)
  repeat' first
    | exact absurd (by simpa using ‹(!decide (e = 0)) = false›) he
    | refine W1.box (d := 2) rfl ok.sc7 (fun b2 => ?_)
    | refine W1.box (d := 3) rfl (by simp [V.cells, hsc]; rfl) (fun b3 => ?_)
    | refine W1.alloc (d := 7) rfl (fun b7 => ?_)
    | refine W1.alloc (d := 9) rfl (fun b9 => ?_)
    | (refine W1.callV rfl rfl (WV.func ((f60 ok hs hsc hnp).mono fun v M' => ?_)); rintro (⟨z, e, rfl, hz, hi, he, rfl⟩ | ⟨bT, bR, lit', p, f, rfl, hv, hp, rfl⟩))
    | refine W1.ldAll rfl .here rfl ?_
    | refine W1.ldAll rfl (.there .here) rfl ?_
    | refine W1.stAll rfl rfl hz rfl hi.allSc .here ?_
    | refine W1.stAll rfl rfl hp.len6 rfl hp.all6 .here ?_
    | refine WC.permM (perm_h _ _ _ _) (WC.house ok (fun g' hg ok' hF => ?_))
    | refine W1.ldX (vs := p) rfl .here (show 1 + 5 ≤ (V.int .i64 lit' :: p).length by simp [hp.1]) (show p.take 5 = p from List.take_of_length_le (by have := hp.1; omega)) ?_
    | (refine W1.callV rfl rfl (WV.func ((f61 (hF hv) hp).mono fun v M' => ?_)); rintro ⟨rfl, cs, rfl, hcs, hci⟩)
    | refine W1.stAll rfl rfl hcs rfl hci.allSc .here ?_
    | refine W1.lenSlc rfl ok'.hH.up ?_
    | refine W1.slcaTo rfl rfl (by omega) (by have := hv.nH; omega) .here (by omega) ?_
    | (refine W1.callV rfl rfl (WV.func ((f62 .here (by have := hv.nH; omega) (by have := hv.nH; omega)).mono fun v M' => ?_)); rintro ⟨b', cap', rfl, hc', rfl⟩)
    | refine WC.ret ?_
    | refine WC.seq ?_
    | refine WC.region ?_
    | refine WC.skip ?_
    | refine WC.cond_f rfl (by first | assumption | rfl) ?_
    | refine WC.cond rfl (fun hc => ?_) (fun hc => ?_)
    | refine WO.nil ?_
    | refine WO.cons ?_
    | refine W1.mv rfl ?_
    | refine W1.fa rfl ?_
    | refine W1.ext rfl rfl ?_
    | refine W1.neq rfl rfl ?_
    | refine Exists.intro _ (And.intro (Res.tmp rfl (Res.tmp rfl Res.nil)) ?_)
    | refine W1.ldS rfl (.there (.there (.there .here))) rfl ?_
  · exact ⟨M, [_, _, _], List.Perm.refl _, _, [], 1, _, rfl, OwnC.nil (by decide), by decide, rfl⟩
  · rw [Int.toNat_natCast] at hc' ⊢
    have hn := hv.nH
    exact ⟨(b', _) :: M, [_, _, _, _, _, _], perm_17 _ _ _ _ _ _ _ _, _, [(b', (cs.drop 0).take (t.nH * 1))], t.nH * 1 + 1, _, rfl, OwnC.ints (by decide) (by rw [List.length_take, List.length_drop]; omega) (hci.dt _ _) (by omega) hc', by omega, rfl⟩
end Go.Ax
end
section
namespace Go.Ax
open Go.Ax.Ir
theorem perm_66 (x y a b c d : Nat × BP) (l : Mem) : (x :: y :: a :: b :: c :: d :: l).Perm ([a, b, c, d] ++ (x :: y :: l)) :=
  List.perm_append_comm (l₁ := [x, y]) (l₂ := [a, b, c, d]) |>.append_right l
theorem SpOk.intL {t : HsD} {p : List V} {f : Nat → Int} (h : SpOk t p f) : IntL p := by
  obtain rfl := h.eq
  intro v hv
  simp only [List.mem_cons, List.mem_nil_iff, or_false] at hv
  rcases hv with rfl | rfl | rfl | rfl | rfl <;> exact ⟨_, rfl⟩
theorem IntL.cons {x : Int} {p : List V} (h : IntL p) : IntL (.int .i64 x :: p) := fun v hv => by
  rcases List.mem_cons.1 hv with rfl | h2
  · exact ⟨_, rfl⟩
  · exact h v h2
attribute [local irreducible] W1 WO WC WD WF WV
set_option maxHeartbeats 4000000 in
theorem f66 {g : Gz} {M : Mem} {t : HsD} {sp : V} {np : Nat} {pl : Nat → Int} {lit : Int} (ok : HsOk g t) (hs : Slc g [] sp np 1 fun i _ => .int .i64 (pl i)) (hsc : sp.scalar = true) (hnp : np ≤ 1000000000) :
    WF tbl g 66 [.agg t.cells, .agg [.int .i64 lit, sp]] M (Pl60 t M) := by
  have hpp := ok.nP
  refine WF.trim (WF.intro rfl (Nat.le_of_ble_eq_true rfl) ?_)
  repeat' first
    | exact absurd (by simpa using ‹(!decide (e = 0)) = false›) he
    | refine W1.box (d := 2) rfl ok.sc7 (fun b2 => ?_)
    | refine W1.box (d := 3) rfl (by simp [V.cells, hsc]; rfl) (fun b3 => ?_)
    | refine W1.alloc (d := 5) rfl (fun b5 => ?_)
    | refine W1.alloc (d := 8) rfl (fun b8 => ?_)
    | (refine W1.callV rfl rfl (WV.func ((f60 ok hs hsc hnp).mono fun v M' => ?_)); rintro (⟨z, e, rfl, hz, hi, he, rfl⟩ | ⟨bT, bR, lit', p, f, rfl, hv, hp, rfl⟩))
    | refine W1.ldAll rfl (.there .here) rfl ?_
    | refine W1.ldAll rfl (.there (.there .here)) rfl ?_
    | refine W1.stAll rfl rfl hz rfl hi.allSc .here ?_
    | refine W1.stAll rfl rfl hp.len6 rfl hp.all6 .here ?_
    | refine WC.permM (perm_h _ _ _ _) (WC.house ok (fun g' hg ok' hF => ?_))
    | refine W1.ldAll rfl .here hz (conjR (ReC.ldAll rfl rfl .here hz) (by simp) ?_)
    | refine W1.stAll rfl rfl hz rfl hi.allSc (.there .here) ?_
    | exact ⟨_, Res.tmp rfl (Res.cell rfl (.there .here) (rdB_all hz) (Res.tmp rfl Res.nil)), Pl60.bad (R := [_, _, _, _]) rfl hz hi he⟩
    | refine WC.ret ?_
    | refine W1.ldX (vs := p) rfl .here (show 1 + 5 ≤ (V.int .i64 lit' :: p).length by simp [hp.1]) (show p.take 5 = p from List.take_of_length_le (by have := hp.1; omega)) ?_
    | refine WC.seq ?_
    | refine WC.region ?_
    | refine WC.draw ?_
    | refine WC.skip ?_
    | refine WC.cond_f rfl (by first | assumption | rfl) ?_
    | refine WC.cond rfl (fun hc => ?_) (fun hc => ?_)
    | refine WO.nil ?_
    | refine WO.cons ?_
    | refine WD.nil ?_
    | refine WD.cons0 ?_
    | refine WD.consH ?_
    | refine WD.consR ?_
    | refine W1.mv rfl ?_
    | refine W1.fa rfl ?_
    | refine W1.ext rfl rfl ?_
    | refine W1.neq rfl rfl ?_
  refine WC.forO (blk := 0) (n := 5) [5, 7, 8, 24] (fun _ (_ : Unit) => []) (fun i _ M' => M' = (b8, Arr1 (.int .i64 lit' :: p) {}) :: (b5, Arr1 Z6 {}) :: (b3, Arr1 [.int .i64 lit, sp] {}) :: (b2, Arr1 t.cells {}) :: M) () (by decide) rfl (fun _ _ => rfl) (fun _ _ => rfl) (fun _ _ => rfl) (fun _ _ => rfl) ⟨rfl, rfl⟩ (subL.nil _) rfl ?_ ?_
  · rintro i a M' hi rfl
    have hl6 : (V.int .i64 lit' :: p).length = 6 := hp.len6
    have hp2 := hp.2 i hi
    repeat' first
      | exact ⟨_, Res.tmp rfl (Res.cell rfl (.there (.there (.there .here))) (rdB_all hl6) (Res.tmp rfl Res.nil)), Pl60.bad (R := [_, _, _, _, _, _]) rfl hl6 hp.intL.cons (by decide)⟩
      | exact ⟨(), _, [], rfl, by repeat (first | exact subL.nil _ | refine subL.cons rfl ?_), List.Perm.refl _, rfl⟩
      | refine W1.ixS rfl rfl (by omega) (by omega) (hp.at hi) ?_
      | refine W1.sub rfl rfl (by omega) (by omega) ?_
      | (refine W1.callV rfl rfl (WV.func ((f59 (hF hv) (fi := i) (pl := f i - 1) (by omega) (by have h3 := of_decide_eq_true ‹decide (0 < f i) = true›; have := hp2.2.2.2 (by omega); omega) (by have h3 := of_decide_eq_true ‹decide (0 < f i) = true›; omega) (by omega)).mono fun v M' => ?_)); rintro ⟨rfl, q, rfl⟩)
      | refine W1.ldAll rfl .here hl6 (conjR (ReC.ldAll rfl rfl .here hl6) (by simp) ?_)
      | refine W1.stAll rfl rfl hl6 rfl hp.all6 (.there .here) ?_
      | refine WC.ret ?_
      | refine WC.seq ?_
      | refine WC.block ?_
      | refine WC.region ?_
      | refine WC.draw ?_
      | refine WC.skip ?_
      | refine WC.cond_f rfl (by first | assumption | rfl) ?_
      | refine WC.cond rfl (fun hc => ?_) (fun hc => ?_)
      | refine WO.nil ?_
      | refine WO.cons ?_
      | refine WD.nil ?_
      | refine WD.cons0 ?_
      | refine WD.consH ?_
      | refine WD.consR ?_
      | refine W1.guard_y rfl (by first | assumption | rfl) ?_
      | refine W1.guard_n rfl (by first | assumption | rfl) ?_
      | refine W1.guard rfl (fun hc => ?_) (fun hc => ?_)
      | refine W1.pick_t rfl (by first | assumption | rfl) rfl ?_
      | refine W1.pick_f rfl (by first | assumption | rfl) rfl ?_
      | refine W1.mv rfl ?_
      | refine W1.fa rfl ?_
      | refine W1.gtr rfl rfl ?_
      | refine W1.neq rfl rfl ?_
      | refine W1.ldS rfl .here rfl ?_
  · rintro a M' rfl
    have hl6 : (V.int .i64 lit' :: p).length = 6 := hp.len6
    repeat' first
      | exact ⟨_, Res.tmp rfl (Res.cell rfl (.there (.there (.there .here))) (rdB_all hl6) (Res.tmp rfl Res.nil)), Pl60.bad (R := [_, _, _, _, _, _]) rfl hl6 hp.intL.cons (by decide)⟩
      | exact ⟨_, Res.tmp rfl (Res.cell rfl (.there (.there (.there .here))) (rdB_all hl6) (Res.tmp rfl Res.nil)), _, _, perm_66 _ _ _ _ _ _ _, Or.inr ⟨_, _, _, p, f, rfl, hv, hp, rfl⟩⟩
      | refine W1.ldX (vs := p) rfl .here (show 1 + 5 ≤ (V.int .i64 lit' :: p).length by simp [hp.1]) (show p.take 5 = p from List.take_of_length_le (by have := hp.1; omega)) ?_
      | (refine W1.callV rfl rfl (WV.func ((f88 (hF hv) hp).mono fun v M' => ?_)); rintro ⟨rfl, tk, rfl⟩)
      | refine W1.ldAll rfl .here hl6 (conjR (ReC.ldAll rfl rfl .here hl6) (by simp) ?_)
      | refine W1.stAll rfl rfl hl6 rfl hp.all6 (.there .here) ?_
      | refine WC.ret ?_
      | refine WC.seq ?_
      | refine WC.region ?_
      | refine WC.draw ?_
      | refine WC.skip ?_
      | refine WC.cond rfl (fun hc => ?_) (fun hc => ?_)
      | refine WO.nil ?_
      | refine WO.cons ?_
      | refine WD.nil ?_
      | refine WD.cons0 ?_
      | refine WD.consH ?_
      | refine WD.consR ?_
      | refine W1.mv rfl ?_
      | refine W1.fa rfl ?_
      | refine W1.not rfl ?_
end Go.Ax
end
section
namespace Go.Ax
open Go.Ax.Ir
theorem rangeR {g : Gz} {t : HsD} {bT b1 p0 : Nat} {asg body : ICode} {L : Env} {M0 : Mem} {K : X → Env → Mem → Prop} {fo : Opd} {I : Mem → Prop} {J : X → Mem → Prop} (h : HsF g t bT) (hf : lkO L fo = some (.func 89 [] [.ptr b1 0])) (hI : I M0)
    (hr : ∀ l p f lit M, SpOk t p f → I M → WC tbl g (some l) asg ((p0, .agg (.int .i64 lit :: p)) :: L) M fun x L1 M1 => x = .normal ∧ WC tbl g (some l) body L1 M1 fun x _ M3 => ∃ M4 R, M3.Perm (R ++ M4) ∧ (x = .normal → I M4) ∧ (x ≠ .normal → J x M4))
    (hk : ∀ M, I M → K .normal L M) (hj : ∀ x M, x ≠ .normal → J x M → K x L M) :
    WC tbl g none (.rangef fo [p0] asg body) L ((b1, Arr1 [.ptr bT 0] {}) :: M0) K := by
  refine WC.rangef hf fun l => ?_
  refine WV.func (WF.permM (List.Perm.swap _ _ _) ((f89 (I := fun M => ∃ M2, I M2 ∧ M = (l, LoopAt L [p0] asg body .ready .normal) :: M2) (J := fun M => ∃ x M2, x ≠ .normal ∧ J x M2 ∧ M = (l, LoopAt L [p0] asg body (roundSt x) x) :: M2) h (fun b2 b3 b4 b5 b6 lit => ?_) ⟨M0, hI, rfl⟩).mono fun v M' => ?_))
  · rintro p f M hp ⟨M2, hI2, rfl⟩
    unfold C90
    refine WV.trim (WV.yield (.there (.there (.there (.there (.there (.there .here)))))) (L0 := (p0, .agg (.int .i64 lit :: p)) :: L) rfl ?_)
    refine ((hr l p f lit M2 hp hI2).frame (R := [_, _, _, _, _, _, _]) (List.perm_append_comm (l₁ := [_, _, _, _, _, _, _]) (l₂ := M2))).mono ?_
    rintro x L1 _ ⟨M1, ⟨rfl, hb⟩, rfl⟩
    refine ⟨rfl, _, Up.app (.there (.there (.there (.there (.there (.there .here)))))) M1, ?_⟩
    refine (hb.frame (R := [_, _, _, _, _, _, _]) (List.Perm.refl _)).mono ?_
    rintro x _ _ ⟨M3, ⟨M4, R, hP, h1, h2⟩, rfl⟩
    refine ⟨.busy, .normal, _, Up.app (.there (.there (.there (.there (.there (.there .here)))))) M3, _, R, ?_, roundB x, (l, LoopAt L [p0] asg body (roundSt x) x) :: M4, rfl, rfl, ?_, ?_⟩
    · refine (hP.append_right _).trans ?_
      rw [List.append_assoc]
      exact List.Perm.append_left R (List.perm_append_comm (l₁ := M4) (l₂ := [_, _, _, _, _, _, _]))
    · intro hx
      cases x with
      | normal => exact ⟨M4, h1 rfl, rfl⟩
      | _ => cases hx
    · intro hx
      cases x with
      | normal => cases hx
      | _ => exact ⟨_, M4, by simp, h2 (by simp), rfl⟩
  · rintro (⟨M2, h, rfl⟩ | ⟨x, M2, hx, hj', rfl⟩)
    · exact ⟨.ready, .normal, _, by simp, .here, hk _ h⟩
    · exact ⟨roundSt x, x, _, by cases x <;> simp [roundSt], .here, hj x _ hx hj'⟩
attribute [local irreducible] W1 WO WC WD WF WV
set_option maxHeartbeats 1000000 in
theorem f71 {g : Gz} {M : Mem} {t : HsD} {bT : Nat} (h : HsF g t bT) : WF tbl g 71 [.ptr bT 0] M fun v M' => M' = M ∧ ∃ tt, v = .bool tt := by
  refine WF.trimS (WF.intro rfl (Nat.le_of_ble_eq_true rfl) ?_)
  repeat' first
    | (refine W1.callV rfl rfl (WV.func (f68.mono fun v M' => ?_)); rintro ⟨b1, rfl, rfl⟩)
    | (refine rangeR (I := fun M' => M' = (b2, Arr1 [.bool false] {}) :: M) (J := fun x M' => x = .ret ∧ M' = (b2, Arr1 [.bool true] {}) :: M) h rfl rfl ?_ ?_ ?_ <;> first | (rintro l p f lit M' hp rfl) | (rintro M' rfl) | (rintro x M' hx ⟨rfl, rfl⟩))
    | refine WC.ret ?_
    | refine W1.alloc (d := 2) rfl (fun b2 => ?_)
    | refine WC.skip ?_
    | refine WC.seq ?_
    | refine WC.block ?_
    | refine WC.region ?_
    | refine WO.nil ?_
    | refine WO.cons ?_
    | refine W1.mv rfl ?_
    | refine W1.st rfl rfl rfl rfl .here (Nat.le_of_ble_eq_true rfl) ?_
  · refine ⟨rfl, ?_⟩
    repeat' first
      | refine WC.ret ?_
      | refine WC.seq ?_
      | refine WC.block ?_
      | refine WC.region ?_
      | refine WO.nil ?_
      | refine WO.cons ?_
      | refine W1.st rfl rfl rfl rfl .here (Nat.le_of_ble_eq_true rfl) ?_
    exact ⟨_, [], List.Perm.refl _, by simp, fun _ => ⟨rfl, rfl⟩⟩
  · exact ⟨_, Res.cell rfl .here (fun blk hb => by rw [hb]; rfl) Res.nil, by repeat (first | exact Suf.refl | apply Suf.cons), _, rfl⟩
  · simp only [blockK, thenC]
    exact ⟨_, Res.cell rfl .here (fun blk hb => by rw [hb]; rfl) Res.nil, by repeat (first | exact Suf.refl | apply Suf.cons), _, rfl⟩
end Go.Ax
end
section
namespace Go.Ax
open Go.Ax.Ir
def TZ (g : Gz) : Prop := ∃ cs, g 1 = some (.arr cs { ro := true }) ∧ ∀ i, i < 64 → ∃ n, cs[i]? = some (.int .u8 n)
theorem TZ.lessG {g g' : Gz} (hg : g.le g') (h : TZ g) : TZ g' := by
  obtain ⟨cs, h1, h2⟩ := h
  exact ⟨cs, hg _ _ h1, h2⟩
theorem TZ.ld {g : Gz} (h : TZ g) {z : Int} (h0 : 0 ≤ z) (h1 : z < 64) : ∃ n, rdAgg g false 1 (0 + z.toNat * 1) 1 = some (.int .u8 n) := by
  obtain ⟨cs, e1, h2⟩ := h
  obtain ⟨n, e2⟩ := h2 z.toNat (by omega)
  exact ⟨n, by simp [rdAgg, e1, e2]⟩
theorem wrap64U (n : Int) : IntKind.u64.wrap n = n % 18446744073709551616 := rfl
theorem W1.mulW {ft : FT FnR} {g : Gz} {L : Env} {M : Mem} {K : Env → Mem → Prop} {d : Nat} {x y : Opd} {a b : Int} (hx : lkO L x = some (.int .u64 a)) (hy : lkO L y = some (.int .u64 b)) (h : ∀ n : Int, 0 ≤ n → n < 18446744073709551616 → K ((d, .int .u64 n) :: L) M) : W1 ft g ⟨some d, .bin .mul x y, none⟩ L M K :=
  W1.bin hx hy rfl (h _ (by rw [wrap64U]; omega) (by rw [wrap64U]; omega))
theorem W1.shr58 {ft : FT FnR} {g : Gz} {L : Env} {M : Mem} {K : Env → Mem → Prop} {d : Nat} {x y : Opd} {a : Int} (hx : lkO L x = some (.int .u64 a)) (hy : lkO L y = some (.int .u64 58)) (h0 : 0 ≤ a) (h1 : a < 18446744073709551616) (h : ∀ n : Int, 0 ≤ n → n < 64 → K ((d, .int .u64 n) :: L) M) : W1 ft g ⟨some d, .bin .shr x y, none⟩ L M K := by
  have e : binI .shr .u64 a .u64 58 = some (.int .u64 (a / 288230376151711744)) := by
    show some (V.int .u64 (a.fdiv (2 ^ 58))) = _
    rw [Int.fdiv_eq_ediv_of_nonneg _ (by decide)]; rfl
  exact W1.bin hx hy e (h _ (by omega) (by omega))
theorem and_less {s : Int} (h0 : 0 < s) (h1 : s ≤ 7) : ∃ s' : Int, 0 ≤ s' ∧ s' < s ∧ binI .and .i64 s .i64 (s - 1) = some (.int .i64 s') := by
  have : s = 1 ∨ s = 2 ∨ s = 3 ∨ s = 4 ∨ s = 5 ∨ s = 6 ∨ s = 7 := by omega
  rcases this with rfl | rfl | rfl | rfl | rfl | rfl | rfl
  · exact ⟨0, by decide, by decide, rfl⟩
  · exact ⟨0, by decide, by decide, rfl⟩
  · exact ⟨2, by decide, by decide, rfl⟩
  · exact ⟨0, by decide, by decide, rfl⟩
  · exact ⟨4, by decide, by decide, rfl⟩
  · exact ⟨4, by decide, by decide, rfl⟩
  · exact ⟨6, by decide, by decide, rfl⟩
theorem perm_sw (X A B : Mem) : (X ++ (A ++ B)).Perm (A ++ (X ++ B)) := by
  rw [← List.append_assoc, ← List.append_assoc]; exact List.perm_append_comm.append_right B
attribute [local irreducible] W1 WO WC WD WF WV
theorem f103 {g : Gz} {M : Mem} {a : Int} (ht : TZ g) : WF tbl g 103 [.int .u64 a] M fun v M' => M' = M ∧ ∃ k : Int, v = .int .i64 k := by
  refine WF.intro rfl (Nat.le_of_ble_eq_true rfl) ?_
  repeat' first
    | refine W1.negU rfl (fun z => ?_)
    | refine W1.andU rfl rfl (fun z => ?_)
    | refine W1.mulW rfl rfl (fun z h0 h1 => ?_)
    | refine W1.shr58 rfl rfl h0 h1 (fun q h2 h3 => ?_)
    | refine W1.iaa rfl rfl h2 h3 ?_
    | refine W1.ldG rfl (ht.ld h2 h3).choose_spec ?_
    | refine W1.convU rfl ?_
    | refine WC.ret ?_
    | refine WC.seq ?_
    | refine WC.region ?_
    | refine WC.skip ?_
    | refine WC.cond rfl (fun hc => ?_) (fun hc => ?_)
    | refine WO.nil ?_
    | refine WO.cons ?_
    | refine W1.mv rfl ?_
    | refine W1.eql rfl rfl ?_
    | refine Exists.intro _ (And.intro (Res.tmp rfl Res.nil) ?_)
  all_goals exact ⟨rfl, _, rfl⟩
theorem f91 {g : Gz} {M : Mem} {a : Int} (ht : TZ g) : WF tbl g 91 [.int .u64 a] M fun v M' => M' = M ∧ ∃ k : Int, v = .int .i64 k := by
  refine WF.intro rfl (Nat.le_of_ble_eq_true rfl) ?_
  repeat' first
    | (refine W1.callV rfl rfl (WV.func ((f103 ht).mono fun v M' => ?_)); rintro ⟨rfl, k, rfl⟩)
    | refine WC.cond_f rfl rfl ?_
    | refine WC.ret ?_
    | refine WC.seq ?_
    | refine WC.region ?_
    | refine WC.skip ?_
    | refine WO.nil ?_
    | refine WO.cons ?_
    | refine W1.mv rfl ?_
    | refine Exists.intro _ (And.intro (Res.tmp rfl Res.nil) ?_)
  all_goals exact ⟨rfl, _, rfl⟩
set_option maxHeartbeats 1000000 in
theorem f69 {g : Gz} {M : Mem} {s : Int} (ht : TZ g) (h0 : 0 ≤ s) (h7 : s ≤ 7) : WF tbl g 69 [.int .i64 s] M fun v M' => ∃ k X, LstI v k X ∧ k ≤ 7 ∧ M' = X ++ M := by
  refine WF.intro rfl (Nat.le_of_ble_eq_true rfl) ?_
  repeat' first
    | (refine WC.loopT (ι := Int × V) (fun x => x.1.toNat) (fun x => [(0, .int .i64 x.1), (2, x.2)]) (fun x M' => 0 ≤ x.1 ∧ x.1 ≤ 7 ∧ ∃ (k : Nat) (X : Mem), LstI x.2 k X ∧ k + x.1 ≤ 7 ∧ M' = X ++ M) ?_ (s, .nilslice) _ _ (subL.cons rfl (subL.cons rfl (subL.nil _))) ⟨h0, h7, 0, [], Or.inl ⟨rfl, rfl, rfl⟩, by simpa using h7, rfl⟩)
    | refine WC.seq ?_
    | refine WC.block ?_
    | refine WC.region ?_
    | refine WO.nil ?_
    | refine WO.cons ?_
    | refine W1.mv rfl ?_
  rintro ⟨s, l⟩ M' ⟨h0, h7, k, X, hX, hk, rfl⟩
  dsimp only at h0 h7 hX hk ⊢
  by_cases hs : s = 0
  · subst hs
    repeat' first
      | refine WC.cond_f rfl rfl ?_
      | refine WC.ret ?_
      | refine WC.seq ?_
      | refine WC.region ?_
      | refine WC.exit ?_
      | refine WO.nil ?_
      | refine WO.cons ?_
      | refine W1.mv rfl ?_
      | refine W1.neq rfl rfl ?_
      | refine Exists.intro _ (And.intro (Res.tmp rfl Res.nil) ?_)
    exact ⟨k, X, hX, by omega, rfl⟩
  · obtain ⟨s', g0, g1, ha⟩ := and_less (s := s) (by omega) h7
    have hdec : (!decide (s = 0)) = true := by simp [hs]
    repeat' first
      | refine WC.cond_t rfl hdec ?_
      | refine W1.convU rfl ?_
      | (refine W1.callV rfl rfl (WV.func ((f91 ht).mono fun v M' => ?_)); rintro ⟨rfl, q, rfl⟩)
      | refine W1.bldS rfl rfl rfl (fun bs => ?_)
      | refine W1.appL (A := [_]) rfl hX rfl .here (by omega) (fun s2 X2 hX2 => ?_)
      | refine W1.bin rfl rfl ha ?_
      | refine WC.seq ?_
      | refine WC.block ?_
      | refine WC.region ?_
      | refine WC.skip ?_
      | refine WO.nil ?_
      | refine WO.cons ?_
      | refine W1.mv rfl ?_
      | refine W1.neq rfl rfl ?_
      | refine W1.sub rfl rfl (by omega) (by omega) ?_
    exact ⟨(s', s2), X2 ++ M, [_], by simp only; omega, by repeat (first | exact subL.nil _ | refine subL.cons rfl ?_), perm_sw _ _ _, g0, by simp only; omega, k + 1, X2, hX2, by simp only; omega, rfl⟩
end Go.Ax
end
section
namespace Go.Ax
open Go.Ax.Ir
attribute [local irreducible] W1 WO WC WD WF WV
set_option maxHeartbeats 2000000 in
theorem f22 {g : Gz} {M : Mem} {t : HsD} {sp : V} {np : Nat} {pl : Nat → Int} {lit : Int} (ok : HsOk g t) (hs : Slc g [] sp np 1 fun i _ => .int .i64 (pl i)) (hsc : sp.scalar = true) (hnp : np ≤ 1000000000) :
    WF tbl g 22 [.agg t.cells, .agg [.int .i64 lit, sp]] M fun v M' => M' = M ∧ ∃ n e, v = .tup [.int .i64 n, .int .i64 e] := by
  refine WF.trimS (WF.intro rfl (Nat.le_of_ble_eq_true rfl) ?_)
  repeat' first
    | exact absurd (by simpa using ‹(!decide (e = 0)) = false›) he
    | refine W1.box (d := 2) rfl ok.sc7 (fun b2 => ?_)
    | refine W1.box (d := 3) rfl (by simp [V.cells, hsc]; rfl) (fun b3 => ?_)
    | refine W1.alloc (d := 7) rfl (fun b7 => ?_)
    | (refine W1.callV rfl rfl (WV.func ((f66 ok hs hsc hnp).mono fun v M' => ?_)); rintro (⟨z, e, rfl, hz, hi, he, rfl⟩ | ⟨bT, bR, lit', p, f, rfl, hv, hp, rfl⟩))
    | refine W1.ldAll rfl .here rfl ?_
    | refine W1.ldAll rfl (.there .here) rfl ?_
    | refine W1.stAll rfl rfl hz rfl hi.allSc .here ?_
    | refine W1.stAll rfl rfl hp.len6 rfl hp.all6 .here ?_
    | refine WC.permM (perm_h _ _ _ _) (WC.house ok (fun g' hg ok' hF => ?_))
    | refine W1.ldX (vs := p) rfl .here (show 1 + 5 ≤ (V.int .i64 lit' :: p).length by simp [hp.1]) (show p.take 5 = p from List.take_of_length_le (by have := hp.1; omega)) ?_
    | (refine W1.callV rfl rfl (WV.func ((f67 (hF hv) hp).mono fun v M' => ?_)); rintro ⟨rfl, k, rfl⟩)
    | refine WC.ret ?_
    | refine WC.seq ?_
    | refine WC.region ?_
    | refine WC.skip ?_
    | refine WC.cond_f rfl (by first | assumption | rfl) ?_
    | refine WC.cond rfl (fun hc => ?_) (fun hc => ?_)
    | refine WO.nil ?_
    | refine WO.cons ?_
    | refine W1.mv rfl ?_
    | refine W1.fa rfl ?_
    | refine W1.ext rfl rfl ?_
    | refine W1.neq rfl rfl ?_
    | refine Exists.intro _ (And.intro (Res.tmp rfl (Res.tmp rfl Res.nil)) ?_)
  all_goals exact ⟨by repeat (first | exact Suf.refl | apply Suf.cons), _, _, rfl⟩
set_option maxHeartbeats 4000000 in
theorem f37 {g : Gz} {M : Mem} {t : HsD} {sp : V} {np : Nat} {pl : Nat → Int} {lit : Int} (ok : HsOk g t) (hs : Slc g [] sp np 1 fun i _ => .int .i64 (pl i)) (hsc : sp.scalar = true) (hnp : np ≤ 1000000000) :
    WF tbl g 37 [.agg t.cells, .agg [.int .i64 lit, sp]] M fun v M' => M' = M ∧ ∃ n m e, v = .tup [.int .i64 n, .int .i64 m, .int .i64 e] := by
  have hpp := ok.nP
  refine WF.trimS (WF.intro rfl (Nat.le_of_ble_eq_true rfl) ?_)
  repeat' first
    | exact absurd (by simpa using ‹(!decide (e = 0)) = false›) he
    | refine W1.box (d := 2) rfl ok.sc7 (fun b2 => ?_)
    | refine W1.box (d := 3) rfl (by simp [V.cells, hsc]; rfl) (fun b3 => ?_)
    | refine W1.alloc (d := 8) rfl (fun b8 => ?_)
    | (refine W1.callV rfl rfl (WV.func ((f66 ok hs hsc hnp).mono fun v M' => ?_)); rintro (⟨z, e, rfl, hz, hi, he, rfl⟩ | ⟨bT, bR, lit', p, f, rfl, hv, hp, rfl⟩))
    | refine W1.ldAll rfl .here rfl ?_
    | refine W1.ldAll rfl (.there .here) rfl ?_
    | refine W1.stAll rfl rfl hz rfl hi.allSc .here ?_
    | refine W1.stAll rfl rfl hp.len6 rfl hp.all6 .here ?_
    | refine WC.permM (perm_h _ _ _ _) (WC.house ok (fun g' hg ok' hF => ?_))
    | refine W1.ldX (vs := p) rfl .here (show 1 + 5 ≤ (V.int .i64 lit' :: p).length by simp [hp.1]) (show p.take 5 = p from List.take_of_length_le (by have := hp.1; omega)) ?_
    | exact ⟨by repeat (first | exact Suf.refl | apply Suf.cons), _, _, _, rfl⟩
    | refine WC.ret ?_
    | refine WC.seq ?_
    | refine WC.region ?_
    | refine WC.skip ?_
    | refine WC.cond_f rfl (by first | assumption | rfl) ?_
    | refine WC.cond rfl (fun hc => ?_) (fun hc => ?_)
    | refine WO.nil ?_
    | refine WO.cons ?_
    | refine W1.mv rfl ?_
    | refine W1.fa rfl ?_
    | refine W1.ext rfl rfl ?_
    | refine W1.neq rfl rfl ?_
    | refine Exists.intro _ (And.intro (Res.tmp rfl (Res.tmp rfl (Res.tmp rfl Res.nil))) ?_)
  refine WC.forO (blk := 0) (n := 5) [7, 8, 25] (fun _ (q : Int × Int) => [(4, .int .i64 q.1), (5, .int .i64 q.2)]) (fun i _ M' => M' = (b8, Arr1 (.int .i64 lit' :: p) {}) :: (b3, Arr1 [.int .i64 lit, sp] {}) :: (b2, Arr1 t.cells {}) :: M) (-1, 0) (by decide) rfl (fun _ _ => rfl) (fun _ _ => rfl) (fun _ _ => rfl) (fun _ _ => rfl) ⟨rfl, rfl⟩ (subL.cons rfl (subL.cons rfl (subL.nil _))) rfl ?_ ?_
  · rintro i a M' hi rfl
    have hF' := hF hv
    obtain ⟨l0, l2, l3, l4, l5, l6⟩ := hF'.ld
    have hp2 := hp.2 i hi
    repeat' first
      | exact ⟨(_, _), _, [], rfl, by repeat (first | exact subL.nil _ | refine subL.cons rfl ?_), List.Perm.refl _, rfl⟩
      | exact ⟨(_, _), _, [_, _], rfl, by repeat (first | exact subL.nil _ | refine subL.cons rfl ?_), List.Perm.refl _, rfl⟩
      | refine W1.ixS rfl rfl (by omega) (by omega) (hp.at hi) ?_
      | refine WC.cond (c := .t 31) rfl (fun hc => ?_) (fun h0 => ?_)
      | refine W1.sub rfl rfl (by omega) (by omega) ?_
      | (refine W1.callV rfl rfl (WV.func ((f58 hF' (pl := f i - 1) (by have h3 := of_decide_eq_false h0; omega) (by omega)).mono fun v M' => ?_)); rintro ⟨rfl, x, y, rfl⟩)
      | refine W1.ldG rfl l5 (And.intro (ReC.ldG rfl rfl l5) (And.intro (bk1 (.head _) (ReC.ldG rfl rfl l5)) ?_))
      | (refine W1.iaRow0 (n := t.nF) rfl rfl hF'.ok.hF (by omega) (by have h3 := of_decide_eq_false h0; have := hp2.2.2.2 h3; omega) (fun br o hrd => ?_); obtain ⟨nm', fa, fb, fc, fd, fe, hrf⟩ := hF'.ok.frow i (hp2.2.2.2 (of_decide_eq_false h0)); rw [show ((i : Int)).toNat = i from by omega, hrf] at hrd)
      | refine W1.ldV (vs := [.str nm', .int .i64 fa, .int .i64 fb, .int .i64 fc, .int .i64 fd, .int .i64 fe]) rfl rfl (hrd _) (And.intro (ReC.ldV rfl rfl rfl (hrd _)) (And.intro (bk1 (.head _) (ReC.ldV rfl rfl rfl (hrd _))) ?_))
      | refine W1.alloc (d := 11) rfl (fun b11 => ?_)
      | refine W1.alloc (d := 12) rfl (fun b12 => ?_)
      | refine W1.stAll rfl rfl rfl rfl rfl (.there .here) (And.intro (rs2 (ReC.ldG rfl rfl l5) (ReC.ldV rfl rfl rfl (hrd _))) (And.intro (by simp) ?_))
      | refine W1.stAll rfl rfl rfl rfl rfl .here ?_
      | refine W1.subU rfl rfl (fun z => ?_)
      | refine W1.mnU rfl rfl (fun z => ?_)
      | refine WC.seq ?_
      | refine WC.block ?_
      | refine WC.region ?_
      | refine WC.draw ?_
      | refine WC.skip ?_
      | refine WC.exit ?_
      | refine WC.cond_t rfl (by first | assumption | rfl) ?_
      | refine WC.cond rfl (fun hc => ?_) (fun hc => ?_)
      | refine WO.nil ?_
      | refine WO.cons ?_
      | refine WD.nil ?_
      | refine WD.cons0 ?_
      | refine WD.consH ?_
      | refine WD.consR ?_
      | refine W1.guard_y rfl (by first | assumption | rfl) ?_
      | refine W1.guard_n rfl (by first | assumption | rfl) ?_
      | refine W1.guard rfl (fun hc => ?_) (fun hc => ?_)
      | refine W1.pick_t rfl (by first | assumption | rfl) rfl ?_
      | refine W1.pick_f rfl (by first | assumption | rfl) rfl ?_
      | refine W1.mv rfl ?_
      | refine W1.nilck rfl ?_
      | refine W1.fa rfl ?_
      | refine W1.lss rfl rfl ?_
      | refine W1.eql rfl rfl ?_
      | refine WD.cons ?_
      | refine W1.ldS rfl .here rfl (conjR (ReC.ldS rfl rfl .here rfl) (by simp) ?_)
      | refine W1.ldS rfl .here rfl ?_
      | refine W1.ldS rfl (.there .here) rfl ?_
  · rintro a M' rfl
    repeat' first
      | exact ⟨by repeat (first | exact Suf.refl | apply Suf.cons), _, _, _, rfl⟩
      | refine WC.ret ?_
      | refine WC.seq ?_
      | refine WC.region ?_
      | refine WC.skip ?_
      | refine WC.cond rfl (fun hc => ?_) (fun hc => ?_)
      | refine WO.nil ?_
      | refine WO.cons ?_
      | refine W1.mv rfl ?_
      | refine W1.lss rfl rfl ?_
      | refine Exists.intro _ (And.intro (Res.tmp rfl (Res.tmp rfl (Res.tmp rfl Res.nil))) ?_)
end Go.Ax
end
section
namespace Go.Ax
open Go.Ax.Ir
theorem W1.shl1' {ft : FT FnR} {g : Gz} {L : Env} {M : Mem} {K : Env → Mem → Prop} {d : Nat} {st : Int} {x y : Opd} (hx : lkO L x = some (.int .i64 1)) (hy : lkO L y = some (.int .i64 st)) (h0 : 0 ≤ st) (hn : st ≤ 4) (h : ∀ k : Nat, k ≤ 16 → K ((d, .int .i64 k) :: L) M) : W1 ft g ⟨some d, .bin .shl x y, none⟩ L M K := by
  obtain ⟨n, rfl⟩ : ∃ n : Nat, st = n := ⟨st.toNat, by omega⟩
  refine W1.shl1 hx hy (by omega) fun k h1 h2 => ?_
  obtain ⟨m, rfl⟩ : ∃ n : Nat, k = n := ⟨k.toNat, by omega⟩
  exact h m (by omega)
attribute [local irreducible] W1 WO WC WD WF WV
set_option maxHeartbeats 4000000 in
theorem f35 {g : Gz} {M : Mem} {t : HsD} {fi : Int} (ok : HsOk g t) : WF tbl g 35 [.agg t.cells, .int .i64 fi] M fun v M' => M' = M ∧ ∃ n e, v = .tup [.int .i64 n, .int .i64 e] := by
  have hnf := ok.nF
  have hnp := ok.nP
  refine WF.trimS (WF.intro rfl (Nat.le_of_ble_eq_true rfl) ?_)
  repeat' first
    | refine W1.box rfl ok.sc7 (fun b2 => ?_)
    | refine W1.ldAll rfl .here rfl ?_
    | refine W1.lenSlc rfl ok'.hF.up.1 ?_
    | refine W1.lenSlc rfl ok'.hP.up.1 ?_
    | (refine W1.callV rfl rfl (WV.func ((f56 ok).mono fun v M' => ?_)); rintro ⟨bT, bR, e, rfl, hv, rfl⟩)
    | refine WC.house ok (fun g' hg ok' hF => ?_)
    | (refine W1.callV rfl rfl (WV.func ((f42one .here).mono fun v M' => ?_)); rintro ⟨rfl, tt, rfl, ht⟩)
    | (refine W1.callV rfl rfl (WV.func ((f59 (hF (hv (by simpa using ‹(!decide (e = 0)) = false›))) (ht (by assumption)).1 (by have := (ht (by assumption)).2; omega) (pl := j) (by omega) (by omega)).mono fun v M' => ?_)); rintro ⟨rfl, x, rfl⟩)
    | (refine W1.callV rfl rfl (WV.func (f72.mono fun v M' => ?_)); rintro ⟨rfl, oc, rfl⟩)
    | refine W1.convU rfl ?_
    | refine W1.shl1' rfl rfl (hv (by simpa using ‹(!decide (e = 0)) = false›)).st.1 (by have := (hv (by simpa using ‹(!decide (e = 0)) = false›)).st.2; omega) (fun kn hkn => ?_)
    | (refine WC.forO (blk := 1) (n := kn) [1, 2, 6, 30] (fun _ (q : Int) => [(8, .int .i64 q)]) (fun i _ M' => M' = (bb, Arr1 [.int .i64 fi] {}) :: (b2, Arr1 t.cells {}) :: M) (-1) (by omega) rfl (fun _ _ => rfl) (fun _ _ => rfl) (fun _ _ => rfl) (fun _ _ => rfl) ⟨rfl, rfl⟩ (subL.cons rfl (subL.nil _)) rfl ?_ ?_ <;> first | rintro i a M' hi rfl | rintro a M' rfl)
    | (refine WC.forO (blk := 3) (n := t.nP) [1, 2, 6, 9, 30, 31, 47] (fun _ (q : Int) => [(8, .int .i64 q)]) (fun i _ M' => M' = (bb, Arr1 [.int .i64 fi] {}) :: (b2, Arr1 t.cells {}) :: M) _ (by omega) rfl (fun _ _ => rfl) (fun _ _ => rfl) (fun _ _ => rfl) (fun _ _ => rfl) ⟨rfl, rfl⟩ (subL.cons rfl (subL.nil _)) rfl ?_ ?_ <;> first | rintro j a M' hj rfl | rintro a M' rfl)
    | exact ⟨_, _, [], rfl, by repeat (first | exact subL.nil _ | refine subL.cons rfl ?_), List.Perm.refl _, rfl⟩
    | exact ⟨by repeat (first | exact Suf.refl | apply Suf.cons), _, _, rfl⟩
    | refine WC.ret ?_
    | refine WC.seq ?_
    | refine WC.block ?_
    | refine WC.region ?_
    | refine WC.skip ?_
    | refine WC.exit ?_
    | refine WC.cond_f rfl (by first | assumption | rfl) ?_
    | refine WC.cond rfl (fun hc => ?_) (fun hc => ?_)
    | refine WO.nil ?_
    | refine WO.cons ?_
    | refine W1.guard_y rfl (by first | assumption | rfl) ?_
    | refine W1.guard_n rfl (by first | assumption | rfl) ?_
    | refine W1.guard rfl (fun hc => ?_) (fun hc => ?_)
    | refine W1.pick_t rfl (by first | assumption | rfl) rfl ?_
    | refine W1.pick_f rfl (by first | assumption | rfl) rfl ?_
    | refine W1.mv rfl ?_
    | refine W1.fa rfl ?_
    | refine W1.ext rfl rfl ?_
    | refine W1.lss rfl rfl ?_
    | refine W1.geq rfl rfl ?_
    | refine W1.eql rfl rfl ?_
    | refine W1.neq rfl rfl ?_
    | refine W1.bldS rfl rfl rfl (fun bb => ?_)
    | refine Exists.intro _ (And.intro (Res.tmp rfl (Res.tmp rfl Res.nil)) ?_)
    | refine W1.ldS rfl .here rfl ?_
    | refine W1.ldS rfl (.there .here) rfl ?_
    | refine W1.sub rfl rfl (by omega) (by omega) ?_
end Go.Ax
end
section
namespace Go.Ax
open Go.Ax.Ir
theorem IntL.at1 {cs : List V} (h : IntL cs) {n : Nat} (hl : cs.length = n) {i : Nat} (hi : i < n) : ∃ q, cs[0 + ((i : Int)).toNat * 1]? = some (.int .i64 q) := by
  rw [show 0 + ((i : Int)).toNat * 1 = i by omega]
  exact h.get (by omega)
abbrev Z5 : List V := [.int .i64 0, .int .i64 0, .int .i64 0, .int .i64 0, .int .i64 0]
theorem IntL.Z5 : IntL Z5 := fun v hv => by simp at hv; exact ⟨0, hv⟩
attribute [local irreducible] W1 WO WC WD WF WV
set_option maxHeartbeats 4000000 in
theorem f32 {g : Gz} {M : Mem} {t : HsD} (ok : HsOk g t) : WF tbl g 32 [.agg t.cells] M (PostL 1 M) := by
  have hnf := ok.nF
  refine WF.trim (WF.intro rfl (Nat.le_of_ble_eq_true rfl) ?_)
  repeat' first
    | refine W1.box rfl ok.sc7 (fun b1 => ?_)
    | refine W1.alloc (d := 5) rfl (fun b5 => ?_)
    | refine W1.alloc (d := 6) rfl (fun b6 => ?_)
    | refine W1.ldAll rfl .here rfl ?_
    | (refine W1.callV rfl rfl (WV.func ((f56 ok).mono fun v M' => ?_)); rintro ⟨bT, bR, e, rfl, hv, rfl⟩)
    | refine WC.house ok (fun g' hg ok' hF => ?_)
    | (refine W1.callV rfl rfl (WV.func (f68.mono fun v M' => ?_)); rintro ⟨bf, rfl, rfl⟩)
    | refine WC.ret ?_
    | refine WC.cond (c := .t 17) rfl (fun hc => ?_) (fun he0 => ?_)
    | exact ⟨M, [_, _, _], List.Perm.refl _, _, [], 1, _, rfl, OwnC.nil (by decide), by decide, rfl⟩
    | refine WC.seq ?_
    | refine WC.region ?_
    | refine WC.skip ?_
    | refine WO.nil ?_
    | refine WO.cons ?_
    | refine W1.mv rfl ?_
    | refine W1.ext rfl rfl ?_
    | refine W1.neq rfl rfl ?_
    | refine Exists.intro _ (And.intro (Res.tmp rfl (Res.tmp rfl Res.nil)) ?_)
    | refine W1.st rfl rfl rfl rfl .here (Nat.le_of_ble_eq_true rfl) ?_
  have val := hv (by simpa using he0)
  have h5 := val.nF
  refine WC.block (id := 0) (rangeR (I := fun M' => ∃ q cs, cs.length = 5 ∧ IntL cs ∧ M' = (b6, Arr1 cs {}) :: (b5, Arr1 [.int .i64 q] {}) :: (b1, Arr1 t.cells {}) :: M) (J := fun _ _ => False) (hF val) rfl ⟨0, _, rfl, IntL.Z5, rfl⟩ ?_ ?_ ?_)
  · rintro l p f lit M' hp ⟨q, cs, hl, hci, rfl⟩
    repeat' first
      | refine W1.alloc (d := 7) rfl (fun b7 => ?_)
      | refine W1.stAll rfl rfl hp.len6 rfl hp.all6 .here ?_
      | refine WC.region ?_
      | refine WO.nil ?_
      | refine WO.cons ?_
    refine ⟨rfl, ?_⟩
    repeat' first
      | refine W1.ldX (vs := p) rfl .here (show 1 + 5 ≤ (V.int .i64 lit :: p).length by simp [hp.1]) (show p.take 5 = p from List.take_of_length_le (by have := hp.1; omega)) ?_
      | (refine WC.forO (blk := 2) (n := 5) [6, 25] (fun _ (_ : Unit) => []) (fun i _ M' => ∃ q cs, cs.length = 5 ∧ IntL cs ∧ M' = (b7, Arr1 (.int .i64 lit :: p) {}) :: (b6, Arr1 cs {}) :: (b5, Arr1 [.int .i64 q] {}) :: (b1, Arr1 t.cells {}) :: M) () (by decide) rfl (fun _ _ => rfl) (fun _ _ => rfl) (fun _ _ => rfl) (fun _ _ => rfl) ⟨rfl, rfl⟩ (subL.nil _) ⟨_, cs, hl, hci, rfl⟩ ?_ ?_ <;> first | (rintro i a M' hi ⟨q, cs, hl, hci, rfl⟩; obtain ⟨w, hw⟩ := hci.at1 hl hi; have hl2 : 0 + ((i : Int)).toNat * 1 + 1 ≤ cs.length := by omega) | rintro a M' ⟨q, cs, hl, hci, rfl⟩)
      | refine W1.ixS rfl rfl (by omega) (by omega) (hp.at hi) ?_
      | refine W1.iaa rfl rfl (by omega) (by omega) ?_
      | refine W1.ldS rfl (.there .here) hw ?_
      | refine W1.mxU rfl rfl (fun z => ?_)
      | refine W1.addU rfl rfl (fun z => ?_)
      | refine W1.st (v := .int .i64 z) rfl rfl rfl rfl (.there .here) hl2 ?_
      | exact ⟨(), _, [], rfl, by repeat (first | exact subL.nil _ | refine subL.cons rfl ?_), List.Perm.refl _, _, _, (spl_len hl2).trans hl, hci.set, rfl⟩
      | exact ⟨_, [_], List.Perm.refl _, fun _ => ⟨q, cs, hl, hci, rfl⟩, fun h => absurd rfl h⟩
      | refine WC.seq ?_
      | refine WC.block ?_
      | refine WC.region ?_
      | refine WO.nil ?_
      | refine WO.cons ?_
      | refine W1.mv rfl ?_
      | refine W1.fa rfl ?_
      | refine W1.ldS rfl (.there (.there .here)) rfl ?_
      | refine W1.st rfl rfl rfl rfl (.there (.there .here)) (Nat.le_of_ble_eq_true rfl) ?_
  · rintro M' ⟨q, cs, hl, hci, rfl⟩
    repeat' first
      | (refine WC.forO (blk := 4) (n := t.nF) [1, 6, 42] (fun _ (s : V) => [(2, s)]) (fun i s M' => ∃ k X, LstI s k X ∧ k ≤ i ∧ M' = (b6, Arr1 cs {}) :: (b5, Arr1 [.int .i64 q] {}) :: (b1, Arr1 t.cells {}) :: (X ++ M)) .nilslice (by omega) rfl (fun _ _ => rfl) (fun _ _ => rfl) (fun _ _ => rfl) (fun _ _ => rfl) ⟨rfl, rfl⟩ (subL.cons rfl (subL.nil _)) ⟨0, [], Or.inl ⟨rfl, rfl, rfl⟩, Nat.le_refl _, rfl⟩ ?_ ?_ <;> first | (rintro i s M' hi ⟨k, X, hX, hk, rfl⟩; obtain ⟨w, hw⟩ := hci.at1 hl (show i < 5 by omega)) | rintro s M' ⟨k, X, hX, hk, rfl⟩)
      | refine W1.lenSlc rfl ok'.hF.up.1 ?_
      | refine W1.iaa rfl rfl (by omega) (by omega) ?_
      | refine W1.ldS rfl .here hw ?_
      | refine W1.bldS rfl rfl rfl (fun bs => ?_)
      | refine W1.appL (A := [_, _, _, _]) rfl hX rfl .here (by omega) (fun s2 X2 hX2 => ?_)
      | exact ⟨_, _, [_], rfl, by repeat (first | exact subL.nil _ | refine subL.cons rfl ?_), (show List.Perm _ ([_] ++ (_ :: _ :: _ :: (X2 ++ M))) from perm_sw X2 [_, _, _, _] M), k + 1, X2, hX2, by omega, rfl⟩
      | exact ⟨_, _, [], rfl, by repeat (first | exact subL.nil _ | refine subL.cons rfl ?_), List.Perm.refl _, k, X, hX, by omega, rfl⟩
      | exact ⟨M, [_, _, _, _, _], List.Perm.refl _, _, [], 1, _, rfl, OwnC.nil (by decide), by decide, rfl⟩
      | refine WC.ret ?_
      | refine WC.seq ?_
      | refine WC.block ?_
      | refine WC.region ?_
      | refine WC.skip ?_
      | refine WC.cond rfl (fun hc => ?_) (fun hc => ?_)
      | refine WO.nil ?_
      | refine WO.cons ?_
      | refine W1.mv rfl ?_
      | refine W1.fa rfl ?_
      | refine W1.eql rfl rfl ?_
      | refine Exists.intro _ (And.intro (Res.tmp rfl (Res.tmp rfl Res.nil)) ?_)
      | refine W1.ldS rfl (.there .here) rfl ?_
      | refine W1.ldS rfl (.there (.there .here)) rfl ?_
    · obtain ⟨R, rfl, ho⟩ := hX.own (by omega)
      exact ⟨toM R ++ M, [_, _, _, _, _], List.Perm.refl _, s, R, k + 1, 0, rfl, ho, by omega, rfl⟩
  · rintro x M' _ h; exact h.elim
end Go.Ax
end
section
namespace Go.Ax
open Go.Ax.Ir
theorem IntL.spl {cs xs : List V} (h : IntL cs) (hx : IntL xs) {o : Nat} : IntL (splice cs o xs) := by
  intro v hv
  simp only [splice, List.mem_append] at hv
  rcases hv with (hv | hv) | hv
  · exact h v (List.mem_of_mem_take hv)
  · exact hx v hv
  · exact h v (List.mem_of_mem_drop hv)
theorem IntL.tk {cs : List V} (h : IntL cs) (n : Nat) : IntL (cs.take n) := fun v hv => h v (List.mem_of_mem_take hv)
theorem perm_24 (a b x c d e f h : Nat × BP) (l : Mem) : (a :: b :: x :: c :: d :: e :: f :: h :: l).Perm ([a, b, c, d, e, f, h] ++ (x :: l)) :=
  List.Perm.cons _ (List.Perm.cons _ (List.perm_middle (a := x) (l₁ := [c, d, e, f, h]) (l₂ := l)).symm)
def Post24 (M : Mem) (v : V) (M' : Mem) : Prop := ∃ lit s R k w e, v = .tup [.agg [.int .i64 lit, s], .int .i64 w, .int .i64 e] ∧ OwnC (.sl (List.replicate 1 .int)) s R k ∧ k ≤ 1000 ∧ M' = toM R ++ M
theorem Post24.nil {M M' : Mem} {w e : Int} (R : Mem) (h : M' = R ++ M) : ∃ M1 R, M'.Perm (R ++ M1) ∧ Post24 M (.tup [.agg [.int .i64 0, .nilslice], .int .i64 w, .int .i64 e]) M1 :=
  ⟨M, R, h ▸ List.Perm.refl _, 0, _, [], 1, w, e, rfl, OwnC.nil (by decide), by decide, rfl⟩
attribute [local irreducible] W1 WO WC WD WF WV
set_option maxHeartbeats 4000000 in
theorem f24 {g : Gz} {M : Mem} {t : HsD} (ok : HsOk g t) : WF tbl g 24 [.agg t.cells] M (Post24 M) := by
  have hnf := ok.nF
  have hlm : limit = 35184372088832 := rfl
  refine WF.trim (WF.intro rfl (Nat.le_of_ble_eq_true rfl) ?_)
  repeat' first
    | refine W1.box rfl ok.sc7 (fun b1 => ?_)
    | refine W1.alloc (d := 2) rfl (fun b2 => ?_)
    | refine W1.alloc (d := 3) rfl (fun b3 => ?_)
    | refine W1.alloc (d := 5) rfl (fun b5 => ?_)
    | refine W1.alloc (d := 6) rfl (fun b6 => ?_)
    | refine W1.ldAll rfl (.there (.there .here)) rfl ?_
    | (refine W1.callV rfl rfl (WV.func ((f56 ok).mono fun v M' => ?_)); rintro ⟨bT, bR, e, rfl, hv, rfl⟩)
    | refine WC.permM (perm_h _ _ _ _) (WC.house ok (fun g' hg ok' hF => ?_))
    | refine W1.stAll rfl rfl rfl rfl rfl (.there (.there .here)) ?_
    | (refine W1.callV rfl rfl (WV.func (f68.mono fun v M' => ?_)); rintro ⟨bf, rfl, rfl⟩)
    | refine WC.ret ?_
    | refine WC.cond (c := .t 17) rfl (fun hc => ?_) (fun he0 => ?_)
    | exact ⟨_, Res.cell rfl (.there (.there (.there (.there .here)))) (rdB_all rfl) (Res.cell rfl (.there (.there (.there .here))) (fun blk hb => by rw [hb]; rfl) (Res.tmp rfl Res.nil)), Post24.nil [_, _, _, _, _, _] rfl⟩
    | refine WC.seq ?_
    | refine WC.region ?_
    | refine WC.skip ?_
    | refine WO.nil ?_
    | refine WO.cons ?_
    | refine W1.mv rfl ?_
    | refine W1.ext rfl rfl ?_
    | refine W1.neq rfl rfl ?_
    | refine W1.st rfl rfl rfl rfl .here (Nat.le_of_ble_eq_true rfl) ?_
    | refine W1.st rfl rfl rfl rfl (.there .here) (Nat.le_of_ble_eq_true rfl) ?_
    | refine W1.ldS rfl (.there .here) rfl ?_
  have val := hv (by simpa using he0)
  have h5 := val.nF
  refine WC.block (id := 0) (rangeR (I := fun M' => ∃ w cs, cs.length = 6 ∧ IntL cs ∧ M' = (b6, Arr1 cs {}) :: (b5, Arr1 [.ptr bT 0] {}) :: (b3, Arr1 [.int .i64 w] {}) :: (b2, Arr1 [.int .i64 0, .nilslice] {}) :: (b1, Arr1 t.cells {}) :: M) (J := fun _ _ => False) (hF val) rfl ⟨_, _, rfl, IntL.Z6, rfl⟩ ?_ ?_ ?_)
  · rintro l p f lit M' hp ⟨w, cs, hl, hci, rfl⟩
    repeat' first
      | refine W1.alloc (d := 7) rfl (fun b7 => ?_)
      | refine W1.stAll rfl rfl hp.len6 rfl hp.all6 .here ?_
      | refine WC.region ?_
      | refine WO.nil ?_
      | refine WO.cons ?_
    refine ⟨rfl, ?_⟩
    repeat' first
      | refine W1.ldX (vs := p) rfl .here (show 1 + 5 ≤ (V.int .i64 lit :: p).length by simp [hp.1]) (show p.take 5 = p from List.take_of_length_le (by have := hp.1; omega)) ?_
      | refine W1.ldAll rfl .here hp.len6 ?_
      | (refine W1.callV rfl rfl (WV.func ((f67 (hF val) hp).mono fun v M' => ?_)); rintro ⟨rfl, k, rfl⟩)
      | refine W1.stAll rfl rfl hp.len6 hl hp.all6 (.there .here) ?_
      | exact ⟨_, [_], List.Perm.refl _, fun _ => ⟨k, _, hp.len6, hp.intL.cons, rfl⟩, fun h => absurd rfl h⟩
      | exact ⟨_, [_], List.Perm.refl _, fun _ => ⟨w, cs, hl, hci, rfl⟩, fun h => absurd rfl h⟩
      | refine WC.seq ?_
      | refine WC.block ?_
      | refine WC.region ?_
      | refine WC.skip ?_
      | refine WC.cond rfl (fun hc => ?_) (fun hc => ?_)
      | refine WO.nil ?_
      | refine WO.cons ?_
      | refine W1.mv rfl ?_
      | refine W1.fa rfl ?_
      | refine W1.gtr rfl rfl ?_
      | refine W1.ldS rfl (.there (.there .here)) rfl ?_
      | refine W1.ldS rfl (.there (.there (.there .here))) rfl ?_
      | refine W1.st rfl rfl rfl rfl (.there (.there (.there .here))) (Nat.le_of_ble_eq_true rfl) ?_
  · rintro M' ⟨w, cs, hl, hci, rfl⟩
    obtain ⟨lit, hlit⟩ := hci.get (i := 0) (by omega)
    repeat' first
      | refine W1.lenSlc rfl ok'.hF.up.1 ?_
      | (refine W1.mksl rfl rfl (by omega) (by omega) (by omega) (by omega) rfl (fun bs => ?_); rw [Int.toNat_natCast])
      | refine W1.slcaAllO rfl (.there .here) (by omega) ?_
      | (refine W1.cpyI (n2 := 5) rfl rfl (Src.row (.there .here) (by omega)) (hci.dt _ _).allSc (by rw [List.length_take, List.length_drop]; omega) (rep_len _ _) .here (fun q => ?_))
      | refine W1.len rfl ?_
      | (refine WC.forO (blk := 2) (n := t.nF) [2, 3, 6, 9, 44] (fun _ (_ : Unit) => []) (fun i _ M' => ∃ xs, xs.length = t.nF ∧ IntL xs ∧ M' = (bs, Arr1 xs {}) :: (b6, Arr1 cs {}) :: (b5, Arr1 [.ptr bT 0] {}) :: (b3, Arr1 [.int .i64 w] {}) :: (b2, Arr1 [.int .i64 0, .nilslice] {}) :: (b1, Arr1 t.cells {}) :: M) () (by omega) rfl (fun _ _ => rfl) (fun _ _ => rfl) (fun _ _ => rfl) (fun _ _ => rfl) ⟨rfl, rfl⟩ (subL.nil _) ⟨_, (spl_len (by rw [rep_len, List.length_take]; omega)).trans (rep_len _ _), (rep_int _ _).spl ((hci.dt _ _).tk _), rfl⟩ ?_ ?_ <;> first | (rintro i a M' hi ⟨xs, hxl, hxi, rfl⟩; obtain ⟨y, hy⟩ := hxi.at1 hxl hi; have hl2 : 0 + ((i : Int)).toNat * 1 + 1 ≤ xs.length := by omega) | rintro a M' ⟨xs, hxl, hxi, rfl⟩)
      | refine W1.ia rfl rfl (by omega) (by omega) ?_
      | refine W1.ldS rfl .here hy ?_
      | refine W1.subU rfl rfl (fun z => ?_)
      | refine W1.st (v := .int .i64 z) rfl rfl rfl rfl .here hl2 ?_
      | exact ⟨(), _, [], rfl, by repeat (first | exact subL.nil _ | refine subL.cons rfl ?_), List.Perm.refl _, _, (spl_len hl2).trans hxl, hxi.set, rfl⟩
      | refine W1.ldS rfl (.there .here) hlit (conjR (ReC.ldS rfl rfl (.there .here) hlit) (by simp) ?_)
      | refine W1.stAll rfl rfl rfl rfl rfl (.there (.there (.there (.there .here)))) (And.intro (rs1 (ReC.ldS rfl rfl (.there (.there (.there .here))) rfl)) (And.intro (by simp) ?_))
      | refine W1.ldAll rfl (.there (.there (.there .here))) rfl ?_
      | refine W1.stAll rfl rfl rfl rfl rfl (.there (.there (.there .here))) ?_
      | exact ⟨_, Res.cell rfl (.there (.there (.there (.there (.there .here))))) (rdB_all rfl) (Res.cell rfl (.there (.there (.there (.there .here)))) (fun blk hb => by rw [hb]; rfl) (Res.tmp rfl Res.nil)), Post24.nil [_, _, _, _, _, _, _] rfl⟩
      | refine WC.ret ?_
      | refine WC.seq ?_
      | refine WC.block ?_
      | refine WC.region ?_
      | refine WC.draw ?_
      | refine WC.skip ?_
      | refine WC.cond rfl (fun hc => ?_) (fun hc => ?_)
      | refine WO.nil ?_
      | refine WO.cons ?_
      | refine WD.nil ?_
      | refine WD.cons0 ?_
      | refine WD.consH ?_
      | refine WD.consR ?_
      | refine W1.mv rfl ?_
      | refine W1.fa rfl ?_
      | refine W1.lss rfl rfl ?_
      | refine W1.bld rfl rfl ?_
      | refine WD.cons ?_
      | refine W1.ldS rfl (.there (.there .here)) rfl ?_
      | refine W1.ldS rfl (.there (.there (.there .here))) rfl (conjR (ReC.ldS rfl rfl (.there (.there (.there .here))) rfl) (by simp) ?_)
      | refine W1.ldS rfl (.there (.there (.there (.there .here)))) rfl ?_
      | refine W1.st rfl rfl rfl rfl (.there (.there .here)) (Nat.le_of_ble_eq_true rfl) ?_
      | refine W1.st rfl rfl rfl rfl (.there (.there (.there .here))) (Nat.le_of_ble_eq_true rfl) ?_
    exact ⟨_, Res.cell rfl (.there (.there (.there (.there (.there (.there .here)))))) (rdB_all rfl) (Res.cell rfl (.there (.there (.there (.there (.there .here))))) (fun blk hb => by rw [hb]; rfl) (Res.tmp rfl Res.nil)), (bs, Arr1 xs {}) :: M, [_, _, _, _, _, _, _], perm_24 _ _ _ _ _ _ _ _ _, lit, _, [(bs, xs)], t.nF * 1 + 1, w, 0, rfl, OwnC.ints (by decide) (by omega) hxi (by omega) (fun c hc => by cases hc; exact Nat.le_refl _), by omega, rfl⟩
  · rintro x M' _ h; exact h.elim
end Go.Ax
end
section
namespace Go.Ax
open Go.Ax.Ir
def HsD.wb (t : HsD) (s : V) (k : Nat) (f : Nat → Int) : HsD := { t with sB := s, nB := k, bill := f }
theorem HsOk.wb0 {g : Gz} {t : HsD} (ok : HsOk g t) : HsOk g (t.wb .nilslice 0 fun _ => 0) :=
  { ok with hB := Or.inl ⟨rfl, rfl⟩, nB := Nat.zero_le _, cB := rfl }
theorem HsOk.wbS {g : Gz} {t : HsD} {b k : Nat} {cs : List V} (ok : HsOk g t) (hg : g b = some (.arr cs {})) (hl : cs.length = k) (hi : IntL cs) (hk : k ≤ 1000000000) : ∃ f, HsOk g (t.wb (.slice b 0 k none 1) k f) := by
  refine ⟨fun i => match cs[i]? with | some (.int _ n) => n | _ => 0, { ok with hB := Or.inr ⟨b, 0, none, rfl, by simp, fun hp hs => ⟨cs, {}, (hs.fz b _ hg).1, (hs.fz b _ hg).2, fun i hik j hj => ?_⟩⟩, nB := hk, cB := rfl }⟩
  obtain rfl : j = 0 := by omega
  obtain ⟨q, hq⟩ := hi.get (i := i) (by have h : i < k := hik; omega)
  simp only [Nat.mul_one, Nat.add_zero, Nat.zero_add, HsD.wb, hq]
theorem HsVal.wb {t : HsD} {s : V} {k : Nat} {f : Nat → Int} (val : HsVal t) (hk : k ≤ 3) : HsVal (t.wb s k f) := { val with nB := hk }
abbrev BW (t : HsD) (bT bR : Nat) (s : V) : Nat × BP := (bT, Arr1 [.int .i64 t.lo, .int .i64 t.hi, .int .i64 t.st, t.sH, t.sP, t.sF, s, .slice bR 0 2 (some 2) 2] {})
theorem LstI.scalar {s : V} {k : Nat} {X : Mem} (h : LstI s k X) : s.scalar = true := by
  rcases h with ⟨rfl, _⟩ | ⟨b, cs, rfl, _⟩ <;> rfl
theorem LstI.slcM {g : Gz} {s : V} {k : Nat} {X : Mem} (h : LstI s k X) : ∃ num : Nat → Int, ∀ M, (∀ p ∈ X, p ∈ M) → Slc g M s k 1 fun i _ => .int .i64 (num i) := by
  rcases h with ⟨rfl, rfl, rfl⟩ | ⟨b, cs, rfl, hl, hi, h0, rfl⟩
  · exact ⟨fun _ => 0, fun M _ => Or.inl ⟨rfl, rfl⟩⟩
  · refine ⟨fun i => match cs[i]? with | some (.int _ n) => n | _ => 0, fun M hM => ?_⟩
    obtain ⟨M', hat⟩ := At.of_mem (hM _ (List.mem_singleton.2 rfl))
    refine Slc.row hat (by simp) fun i hik j hj => ?_
    obtain rfl : j = 0 := by omega
    obtain ⟨q, hq⟩ := hi.get (i := i) (by omega)
    simp only [Nat.mul_one, Nat.add_zero, hq]
theorem W1.lenL {ft : FT FnR} {g : Gz} {L : Env} {M : Mem} {K : Env → Mem → Prop} {d k : Nat} {x : Opd} {s : V} {X : Mem} (hx : lkO L x = some s) (hX : LstI s k X) (h : K ((d, .int .i64 k) :: L) M) : W1 ft g ⟨some d, .len false x, none⟩ L M K := by
  rcases hX with ⟨rfl, rfl, rfl⟩ | ⟨b, cs, rfl, hl, hi, h0, rfl⟩
  · exact W1.lenN hx h
  · exact W1.len hx h
theorem W1.stS {ft : FT FnR} {g : Gz} {L : Env} {M M' : Mem} {K : Env → Mem → Prop} {a x : Opd} {b o : Nat} {cs : List V} {s : V} (ha : lkO L a = some (.ptr b o)) (hx : lkO L x = some s) (hs : s.scalar = true) (hu : Up M b (Arr1 cs {}) (Arr1 (splice cs o [s]) {}) M') (ho : o + 1 ≤ cs.length) (h : K L M') : W1 ft g ⟨none, .st 1 a x, none⟩ L M K :=
  W1.st ha hx (by rw [V.cells1 hs]; rfl) (by rw [V.cells1 hs]; simp [hs]) (by rw [V.cells1 hs]; exact hu) ho h
theorem W1.shl3 {ft : FT FnR} {g : Gz} {L : Env} {M : Mem} {K : Env → Mem → Prop} {d n : Nat} {x y : Opd} (hx : lkO L x = some (.int .i64 1)) (hy : lkO L y = some (.int .i64 n)) (hn : n ≤ 3) (h : ∀ k : Nat, k ≤ 8 → K ((d, .int .i64 k) :: L) M) : W1 ft g ⟨some d, .bin .shl x y, none⟩ L M K := by
  have : n = 0 ∨ n = 1 ∨ n = 2 ∨ n = 3 := by omega
  rcases this with rfl | rfl | rfl | rfl
  · exact W1.bin hx hy rfl (h 1 (by omega))
  · exact W1.bin hx hy rfl (h 2 (by omega))
  · exact W1.bin hx hy rfl (h 4 (by omega))
  · exact W1.bin hx hy rfl (h 8 (by omega))
theorem perm_29a (a b c : Nat × BP) (P Q R M : Mem) : (a :: b :: c :: (P ++ (Q ++ (R ++ M)))).Perm ((P ++ Q) ++ (a :: b :: c :: (R ++ M))) := by
  have h := perm_sw [a, b, c] (P ++ Q) (R ++ M)
  rwa [List.append_assoc] at h
theorem perm_29b (a b c : Nat × BP) (P Q R M : Mem) : (a :: b :: c :: (P ++ (Q ++ (R ++ M)))).Perm ((P ++ R) ++ (a :: b :: c :: (Q ++ M))) :=
  (((perm_sw Q R M).append_left P).cons c |>.cons b |>.cons a).trans (perm_29a a b c P R Q M)
attribute [local irreducible] W1 WO WC WD WF WV
theorem can_ok {g : Gz} {t : HsD} {bT bR k : Nat} {s : V} {X M : Mem} {c : Nat × BP} (ok : HsOk g t) (val : HsVal t) (hX : LstI s k X) (hk : k ≤ 3) :
    WF tbl g 71 [.ptr bT 0] (BW t bT bR s :: (bR, Arr1 RUL {}) :: c :: (X ++ M)) fun v M' => M' = BW t bT bR s :: (bR, Arr1 RUL {}) :: c :: (X ++ M) ∧ ∃ tt, v = .bool tt := by
  rcases hX with ⟨rfl, rfl, rfl⟩ | ⟨b, cs, rfl, hl, hi, h0, rfl⟩
  · refine WF.freeze .here fun hb => WF.freeze .here fun hb2 => ?_
    have hle : g.le ((g.add bT (.arr ((t.wb .nilslice 0 fun _ => 0).cells ++ [.slice bR 0 2 (some 2) 2]) {})).add bR (.arr RUL {})) := fun c p e => Gz.le_add hb2 c p (Gz.le_add hb c p e)
    refine (f71 (t := t.wb .nilslice 0 fun _ => 0) ⟨ok.wb0.lessG hle, val.wb (by omega), bR, Gz.le_add hb2 _ _ (Gz.add_eq _ _ _), Gz.add_eq _ _ _⟩).mono fun v M' => ?_
    rintro ⟨rfl, tt, rfl⟩
    exact ⟨rfl, tt, rfl⟩
  · refine WF.monoP (WF.freeze (.there (.there (.there .here))) fun hb0 => WF.freeze .here fun hb => WF.freeze .here fun hb2 => ?_) (K := fun v M' => M' = (b, Arr1 cs {}) :: BW t bT bR (.slice b 0 k none 1) :: (bR, Arr1 RUL {}) :: c :: M ∧ ∃ tt, v = .bool tt) ?_
    · obtain ⟨f, ok1⟩ := (ok.lessG (Gz.le_add (o := .arr cs {}) hb0)).wbS (Gz.add_eq _ _ _) hl hi (by omega)
      have hle : (g.add b (.arr cs {})).le (((g.add b (.arr cs {})).add bT (.arr ((t.wb (.slice b 0 k none 1) k f).cells ++ [.slice bR 0 2 (some 2) 2]) {})).add bR (.arr RUL {})) := fun c p e => Gz.le_add hb2 c p (Gz.le_add hb c p e)
      refine (f71 (t := t.wb (.slice b 0 k none 1) k f) ⟨ok1.lessG hle, val.wb (by omega), bR, Gz.le_add hb2 _ _ (Gz.add_eq _ _ _), Gz.add_eq _ _ _⟩).mono fun v M' => ?_
      rintro ⟨rfl, tt, rfl⟩
      exact ⟨rfl, tt, rfl⟩
    · rintro v M' ⟨rfl, h⟩
      exact ⟨_, ⟨rfl, h⟩, (List.perm_middle (a := (b, Arr1 cs {})) (l₁ := [_, _, _]) (l₂ := M)).symm⟩
end Go.Ax
end
section
namespace Go.Ax
open Go.Ax.Ir
attribute [local irreducible] W1 WO WC WD WF WV
set_option maxHeartbeats 8000000 in
theorem f29 {g : Gz} {M : Mem} {t : HsD} (ok : HsOk g t) (hz : TZ g) : WF tbl g 29 [.agg t.cells] M (PostL 1 M) := by
  have hnb := ok.nB
  refine WF.trim (WF.intro rfl (Nat.le_of_ble_eq_true rfl) ?_)
  repeat' first
    | refine W1.box rfl ok.sc7 (fun b1 => ?_)
    | refine W1.ldAll rfl .here rfl ?_
    | (refine W1.callV rfl rfl (WV.func ((f56 ok).mono fun v M' => ?_)); rintro ⟨bT, bR, e, rfl, hv, rfl⟩)
    | refine WC.ret ?_
    | refine WC.cond (c := .t 16) rfl (fun hc => ?_) (fun he0 => ?_)
    | exact ⟨M, [_, _, _], List.Perm.refl _, _, [], 1, _, rfl, OwnC.nil (by decide), by decide, rfl⟩
    | refine W1.lenSlc rfl ok.hB.up ?_
    | refine W1.shl3 rfl rfl (hv (by simpa using he0)).nB (fun kn hkn => ?_)
    | refine WC.seq ?_
    | refine WC.region ?_
    | refine WC.skip ?_
    | refine WO.nil ?_
    | refine WO.cons ?_
    | refine W1.mv rfl ?_
    | refine W1.fa rfl ?_
    | refine W1.ext rfl rfl ?_
    | refine W1.neq rfl rfl ?_
    | refine Exists.intro _ (And.intro (Res.tmp rfl (Res.tmp rfl Res.nil)) ?_)
    | refine W1.ldS rfl (.there (.there .here)) rfl ?_
  have val := hv (by simpa using he0)
  have h3 := val.nB
  refine WC.forO (blk := 0) (n := kn) [1, 4, 21] (fun _ (q : V × Bool) => [(2, q.1), (5, .bool q.2)]) (fun i q M' => ∃ k X sb, LstI q.1 k X ∧ k ≤ 7 ∧ M' = BW t bT bR sb :: (bR, Arr1 RUL {}) :: (b1, Arr1 t.cells {}) :: (X ++ M)) (.nilslice, false) (by omega) rfl (fun _ _ => rfl) (fun _ _ => rfl) (fun _ _ => rfl) (fun _ _ => rfl) ⟨rfl, rfl⟩ (subL.cons rfl (subL.cons rfl (subL.nil _))) ⟨0, [], t.sB, Or.inl ⟨rfl, rfl, rfl⟩, by decide, rfl⟩ ?_ ?_
  · rintro i ⟨s, fd⟩ M' hi ⟨k, X, sb, hX, hk, rfl⟩
    dsimp only at hX
    obtain ⟨num, hS⟩ := hX.slcM (g := g)
    have hS1 : ∀ Y c1 c2 c3, Slc g (Y ++ (c1 :: c2 :: c3 :: (X ++ M))) s k 1 _ := fun Y c1 c2 c3 => hS _ (fun p hp => by simp [hp])
    repeat' first
      | (refine W1.callV rfl rfl (WV.func ((f69 hz (by omega) (by omega)).mono fun v M' => ?_)); rintro ⟨kl, Xl, hXl, hkl, rfl⟩; obtain ⟨numl, hSl⟩ := hXl.slcM (g := g); have hSl1 := hSl (Xl ++ (BW t bT bR sb :: (bR, Arr1 RUL {}) :: (b1, Arr1 t.cells {}) :: (X ++ M))) (fun p hp => by simp [hp]))
      | refine W1.lenL rfl hXl ?_
      | refine W1.lenL rfl hX ?_
      | (refine W1.callV rfl rfl (WV.func ((f70 hSl1 (hS1 _ _ _ _) (by omega)).mono fun v M' => ?_)); rintro ⟨rfl, cq, rfl⟩)
      | exact ⟨(s, fd), _, Xl, rfl, by repeat (first | exact subL.nil _ | refine subL.cons rfl ?_), List.Perm.refl _, k, X, sb, hX, hk, rfl⟩
      | refine W1.stS rfl rfl rfl (Up.app .here Xl) (Nat.le_of_ble_eq_true rfl) ?_
      | refine W1.ldS rfl (At.app (.there (.there .here))) rfl ?_
      | refine W1.lenSlc rfl ok.hB.up ?_
      | refine WC.block (id := 1) ?_
      | refine WC.seq ?_
      | refine WC.region ?_
      | refine WC.skip ?_
      | refine WC.exit ?_
      | refine WC.cond_t rfl (by first | assumption | rfl) ?_
      | refine WC.cond_f rfl (by first | assumption | rfl) ?_
      | refine WC.cond rfl (fun hc => ?_) (fun hc => ?_)
      | refine WO.nil ?_
      | refine WO.cons ?_
      | refine W1.guard_y rfl (by first | assumption | rfl) ?_
      | refine W1.guard_n rfl (by first | assumption | rfl) ?_
      | refine W1.guard_u rfl ?_
      | refine W1.guard rfl (fun hc => ?_) (fun hc => ?_)
      | refine W1.pick_t rfl (by first | assumption | rfl) rfl ?_
      | refine W1.pick_f rfl (by first | assumption | rfl) rfl ?_
      | refine W1.mv rfl ?_
      | refine W1.nilck rfl ?_
      | refine W1.fa rfl ?_
      | refine W1.gtr rfl rfl ?_
      | refine W1.eql rfl rfl ?_
    all_goals
      refine WC.permM (perm_sw Xl [_, _, _] (X ++ M)) ?_
      refine WC.forO (blk := 2) (n := t.nB) [1, 2, 4, 5, 6, 7, 21, 22, 53, 54] (fun _ (_ : Unit) => []) (fun i2 _ M' => ∃ sb kb Xb, LstI sb kb Xb ∧ kb ≤ i2 ∧ M' = BW t bT bR sb :: (bR, Arr1 RUL {}) :: (b1, Arr1 t.cells {}) :: (Xb ++ (Xl ++ (X ++ M)))) () (by omega) rfl (fun _ _ => rfl) (fun _ _ => rfl) (fun _ _ => rfl) (fun _ _ => rfl) ⟨rfl, rfl⟩ (subL.nil _) ⟨.nilslice, 0, [], Or.inl ⟨rfl, rfl, rfl⟩, Nat.le_refl _, rfl⟩ ?_ ?_
      · rintro i2 u M' hi2 ⟨sb2, kb, Xb, hXb, hkb, rfl⟩
        repeat' first
          | refine W1.iaSlc rfl rfl ok.hB.up (by omega) (by omega) (fun b o hrd => ?_)
          | refine W1.ldR rfl (hrd 0 (by omega)) ?_
          | refine W1.shrU rfl rfl (by omega) (fun z => ?_)
          | refine W1.andU rfl rfl (fun z => ?_)
          | refine W1.ldS rfl .here rfl ?_
          | refine W1.bldS rfl rfl rfl (fun bs => ?_)
          | refine W1.appL (A := [_, _, _, _]) rfl hXb rfl .here (by omega) (fun s2 X2 hX2 => ?_)
          | refine W1.stS rfl rfl hX2.scalar (Up.app (.there .here) X2) (Nat.le_of_ble_eq_true rfl) ?_
          | exact ⟨(), BW t bT bR s2 :: (bR, Arr1 RUL {}) :: (b1, Arr1 t.cells {}) :: (X2 ++ (Xl ++ (X ++ M))), [_], rfl, by repeat (first | exact subL.nil _ | refine subL.cons rfl ?_), perm_sw X2 [_, _, _, _] _, s2, kb + 1, X2, hX2, by omega, rfl⟩
          | exact ⟨(), _, [], rfl, by repeat (first | exact subL.nil _ | refine subL.cons rfl ?_), List.Perm.refl _, sb2, kb, Xb, hXb, by omega, rfl⟩
          | refine WC.seq ?_
          | refine WC.block ?_
          | refine WC.region ?_
          | refine WC.skip ?_
          | refine WC.cond rfl (fun hc => ?_) (fun hc => ?_)
          | refine WO.nil ?_
          | refine WO.cons ?_
          | refine W1.mv rfl ?_
          | refine W1.nilck rfl ?_
          | refine W1.fa rfl ?_
          | refine W1.eql rfl rfl ?_
      · rintro u M' ⟨sb2, kb, Xb, hXb, hkb, rfl⟩
        repeat' first
          | (refine W1.callV rfl rfl (WV.func ((can_ok ok val hXb (by omega)).mono fun v M' => ?_)); rintro ⟨rfl, tk, rfl⟩)
          | (have h9 : tk = true := hc; exact ⟨(_, true), _, Xb ++ X, rfl, by repeat (first | exact subL.nil _ | refine subL.cons rfl ?_), perm_29b _ _ _ _ _ _ _, kl, Xl, sb2, hXl, hkl, rfl⟩)
          | (have h9 : tk = false := hc; exact ⟨(s, fd), _, Xb ++ Xl, rfl, by repeat (first | exact subL.nil _ | refine subL.cons rfl ?_), perm_29a _ _ _ _ _ _ _, k, X, sb2, hX, hk, rfl⟩)
          | refine WC.seq ?_
          | refine WC.region ?_
          | refine WC.skip ?_
          | refine WC.cond rfl (fun hc => ?_) (fun hc => ?_)
          | refine WO.nil ?_
          | refine WO.cons ?_
          | refine W1.mv rfl ?_
  · rintro ⟨s, fd⟩ M' ⟨k, X, sb, hX, hk, rfl⟩
    repeat' first
      | refine WC.ret ?_
      | refine WC.seq ?_
      | refine WC.region ?_
      | refine WO.nil ?_
      | refine WO.cons ?_
      | refine W1.mv rfl ?_
      | refine Exists.intro _ (And.intro (Res.tmp rfl (Res.tmp rfl Res.nil)) ?_)
    obtain ⟨R, rfl, ho⟩ := hX.own (by omega)
    exact ⟨toM R ++ M, [_, _, _], List.Perm.refl _, s, R, k + 1, 0, rfl, ho, by omega, rfl⟩
end Go.Ax
end
section
namespace Go.Ax
open Go.Ax.Ir
theorem Cell.bool_inv {g : Gz} {v : V} {b : Nat} (h : Cell g .bool v b) : ∃ t, v = .bool t := by simp only [Cell] at h; exact h.1
abbrev tyPlace : List Ty := [.str, .bool, .sl [.int, .int], .int]
abbrev tyFig : List Ty := [.str, .int, .int, .int, .int, .int]
abbrev tyHouse : List Ty := [.int, .int, .int, .sl [.int], .sl tyPlace, .sl tyFig, .sl [.int]]
abbrev tyAnew : List Ty := tyHouse ++ [.int, .int, .int, .int, .sl [.int]]
theorem Cell.ints {g : Gz} {v : V} {b : Nat} (h : Cell g (.sl [.int]) v b) : ∃ (n : Nat) (f : Nat → Int), Slc g [] v n 1 (fun i _ => .int .i64 (f i)) ∧ v.scalar = true ∧ n < b := by
  obtain ⟨np, rows, kf, s1, s2, s3, s4, s5⟩ := h.sl_inv
  have : ∀ i, ∃ q : Int, i < np → rows i = [.int .i64 q] := by
    intro i
    by_cases hi : i < np
    · obtain ⟨u, us, _, _, e, y, h, _⟩ := (s5 i hi).cons_inv
      obtain rfl := h.nil_inv
      obtain ⟨q, rfl⟩ := y.int_inv
      exact ⟨q, fun _ => e⟩
    · exact ⟨0, fun h => absurd h hi⟩
  obtain ⟨pl, hpl⟩ := Classical.skolem.1 this
  refine ⟨np, pl, ?_, s2, s3⟩
  rcases s1.1 with h | ⟨b, o, cap, h1, h2, h3⟩
  · exact Or.inl h
  · refine Or.inr ⟨b, o, cap, h1, h2, fun hp hs => ?_⟩
    obtain ⟨cs, a, q1, q2, q3⟩ := h3 hp hs
    refine ⟨cs, a, q1, q2, fun i hi j hj => ?_⟩
    obtain rfl : j = 0 := by omega
    have e : cs[o + i * 1 + 0]? = some (((rows i)[0]?).getD .undef) := q3 i hi 0 hj
    rw [hpl i hi] at e; exact e
theorem bridge {g : Gz} {vs : List V} {b : Nat} (h : Row g tyHouse vs b) (hb : b ≤ 1048576) : ∃ t : HsD, vs = t.cells ∧ HsOk g t := by
  obtain ⟨v0, vs, a0, b0, rfl, c0, h, l0⟩ := h.cons_inv
  obtain ⟨v1, vs, a1, b1, rfl, c1, h, l1⟩ := h.cons_inv
  obtain ⟨v2, vs, a2, b2, rfl, c2, h, l2⟩ := h.cons_inv
  obtain ⟨v3, vs, a3, b3, rfl, c3, h, l3⟩ := h.cons_inv
  obtain ⟨v4, vs, a4, b4, rfl, c4, h, l4⟩ := h.cons_inv
  obtain ⟨v5, vs, a5, b5, rfl, c5, h, l5⟩ := h.cons_inv
  obtain ⟨v6, vs, a6, b6, rfl, c6, h, l6⟩ := h.cons_inv
  obtain rfl := h.nil_inv
  obtain ⟨lo, rfl⟩ := c0.int_inv
  obtain ⟨hi, rfl⟩ := c1.int_inv
  obtain ⟨st, rfl⟩ := c2.int_inv
  obtain ⟨n3, f3, s3, sc3, ln3⟩ := c3.ints
  obtain ⟨n4, r4, k4, s4, sc4, ln4, ls4, hr4⟩ := c4.sl_inv
  obtain ⟨n5, r5, k5, s5, sc5, ln5, ls5, hr5⟩ := c5.sl_inv
  obtain ⟨n6, f6, s6, sc6, ln6⟩ := c6.ints
  have hv : ∀ i, ∃ (nl : Nat) (leg : Nat → List V), i < n4 → (∃ nm d w j, r4 i = [.str nm, .bool d, w, .int .i64 j] ∧ w.scalar = true ∧ SlcR g [] w nl 2 leg ∧ nl ≤ 1000000000) ∧ ∀ j, j < nl → ∃ a b, leg j = [.int .i64 a, .int .i64 b] := by
    intro i
    by_cases hi : i < n4
    · have hk := kf_le hi ls4
      obtain ⟨w0, ws, d0, e0, er, y0, h, m0⟩ := (hr4 i hi).cons_inv
      obtain ⟨w1, ws, d1, e1, rfl, y1, h, m1⟩ := h.cons_inv
      obtain ⟨w2, ws, d2, e2, rfl, y2, h, m2⟩ := h.cons_inv
      obtain ⟨w3, ws, d3, e3, rfl, y3, h, m3⟩ := h.cons_inv
      obtain rfl := h.nil_inv
      obtain ⟨nm, rfl⟩ := y0.str_inv
      obtain ⟨x, rfl⟩ := y1.bool_inv
      obtain ⟨y, rfl⟩ := y3.int_inv
      obtain ⟨nl, leg, kl, q1, q2, q3, q4, q5⟩ := y2.sl_inv
      refine ⟨nl, leg, fun _ => ⟨⟨nm, x, w2, y, er, q2, q1, by omega⟩, fun j hj => ?_⟩⟩
      obtain ⟨u0, us, _, _, eu, z0, h, _⟩ := (q5 j hj).cons_inv
      obtain ⟨u1, us, _, _, rfl, z1, h, _⟩ := h.cons_inv
      obtain rfl := h.nil_inv
      obtain ⟨p, rfl⟩ := z0.int_inv
      obtain ⟨q, rfl⟩ := z1.int_inv
      exact ⟨p, q, eu⟩
    · exact ⟨0, fun _ => [], fun h => absurd h hi⟩
  obtain ⟨nl, hv⟩ := Classical.skolem.1 hv
  obtain ⟨leg, hv⟩ := Classical.skolem.1 hv
  refine ⟨⟨lo, hi, st, v3, v4, v5, v6, n3, n4, n5, n6, f3, f6, r4, r5, nl, leg⟩, rfl, ⟨s3, s4, s5, s6, by show n3 ≤ _; omega, by show n4 ≤ _; omega, by show n5 ≤ _; omega, by show n6 ≤ _; omega, sc3, sc4, sc5, sc6, fun i hi => (hv i hi).1, fun i j hi hj => (hv i hi).2 j hj, fun i hi => ?_⟩⟩
  obtain ⟨w0, ws, _, _, er, y0, h, _⟩ := (hr5 i hi).cons_inv
  obtain ⟨w1, ws, _, _, rfl, y1, h, _⟩ := h.cons_inv
  obtain ⟨w2, ws, _, _, rfl, y2, h, _⟩ := h.cons_inv
  obtain ⟨w3, ws, _, _, rfl, y3, h, _⟩ := h.cons_inv
  obtain ⟨w4, ws, _, _, rfl, y4, h, _⟩ := h.cons_inv
  obtain ⟨w5, ws, _, _, rfl, y5, h, _⟩ := h.cons_inv
  obtain rfl := h.nil_inv
  obtain ⟨nm, rfl⟩ := y0.str_inv
  obtain ⟨a, rfl⟩ := y1.int_inv
  obtain ⟨b, rfl⟩ := y2.int_inv
  obtain ⟨c, rfl⟩ := y3.int_inv
  obtain ⟨d, rfl⟩ := y4.int_inv
  obtain ⟨e, rfl⟩ := y5.int_inv
  exact ⟨nm, a, b, c, d, e, er⟩
end Go.Ax
end
section
namespace Go.Ax
open Go.Ax.Ir
section
variable {ft : FT FnR} {g : Gz}
theorem PutR.own {f : Nat} {ts : List Ty} (h : PutR ft f ts) {vs : List V} {R : Bks} {k : Nat} (ho : OwnRow ts vs R k) {b : Nat} {cn cs : List V} {Mh M : Mem} (hM : HpM b cn cs Mh) (q1 : cn.length + k ≤ lim40) (q2 : cs.length + k ≤ lim40) :
    WF ft g f [.ptr b 0, .agg vs] (toM R ++ (Mh ++ M)) fun _ M' => ∃ ns ss Mh', ns.length ≤ k ∧ ss.length ≤ k ∧ HpM b (cn ++ ns) (cs ++ ss) Mh' ∧ M' = toM R ++ (Mh' ++ M) := by
  refine WF.freezeL fun g' _ hR => ?_
  obtain ⟨ns, ss, h1, h2, _, _, h5⟩ := h g' vs k (ho.row hR)
  exact ((h5 b cn cs Mh hM q1 q2).frame (List.Perm.refl _)).mono fun u M' ⟨M1, hM1, e⟩ => ⟨ns, ss, M1, h1, h2, hM1, by rw [e]⟩
theorem W1.putOR {L : Env} {K : Env → Mem → Prop} {pre Mh : Mem} {d : Option Nat} {f : Nat} {ops : List Opd} {ts : List Ty} {vs : List V} {R : Bks} {b k : Nat} {cn cs : List V} (ha : lkOs L ops = some [.ptr b 0, .agg vs]) (h : PutR ft f ts) (hv : OwnRow ts vs R k) (hM : HpM b cn cs Mh) (q1 : cn.length + k ≤ lim40) (q2 : cs.length + k ≤ lim40)
    (hk : ∀ v ns ss Mh', ns.length ≤ k → ss.length ≤ k → HpM b (cn ++ ns) (cs ++ ss) Mh' → K (putL d v L) (pre ++ (toM R ++ Mh'))) : W1 ft g ⟨d, .call (.c (.func f [] [])) ops, none⟩ L (pre ++ (toM R ++ Mh)) K := by
  refine W1.callV rfl ha (WV.func ?_)
  simp only [List.nil_append, List.append_nil]
  have hp : (pre ++ (toM R ++ Mh)).Perm (toM R ++ (Mh ++ pre)) := List.perm_append_comm.trans (by rw [List.append_assoc])
  refine WF.permM hp (WF.monoP (h.own hv hM q1 q2) fun u M' ⟨ns, ss, Mh', h1, h2, h3, e⟩ => ⟨pre ++ (toM R ++ Mh'), hk u ns ss Mh' h1 h2 h3, ?_⟩)
  rw [e, ← List.append_assoc]
  exact List.perm_append_comm
attribute [local irreducible] W1 WO WC WD WF WV
theorem wipeCR_ok {gf fn : Nat} {ts : List Ty} (hf : ft.fn gf = some (wipeCIr fn)) (ho : ∀ a hp, ft.orc gf a hp = none) (h : WipeR ft fn ts) {b : Nat} {vs : List V} {R : Bks} {k : Nat} (hv : OwnRow ts vs R k) : WF ft g gf [.ptr b 0] ((b, Arr1 vs {}) :: toM R) fun _ _ => True := by
  refine WF.intro hf (Nat.le_of_ble_eq_true rfl) ?_ ho
  have e : toM R = toM R ++ [] := by simp
  rw [e]
  repeat' first
    | (refine W1.callV rfl rfl (WV.func ((h g b 0 vs vs R k [] (fun j hj => by rw [Nat.zero_add]) hv).mono fun v M3 hM3 => ?_)))
    | refine WC.region ?_
    | refine WO.nil ?_
    | refine WO.cons ?_
    | refine Exists.intro _ (And.intro Res.nil ?_)
  trivial
end
abbrev ftb : FT FnR := (tbl : FT FnR)
section
variable {g : Gz}
attribute [local irreducible] W1 WO WC WD WF WV
theorem put_bool (t : Bool) : PutA ftb g 106 [.bool t] 1 := by
  refine ⟨[.int .i64 (if t then 1 else 0)], [], by simp, by simp, fun v hv => ⟨_, by simpa using hv⟩, by simp [StrL], fun b cn cs M hM hl1 hl2 => ?_⟩
  obtain ⟨sn, ss, Mn, Ms, hp, l1, l2⟩ := hM.ex
  have hss := l2.scalar
  have hl1' : cn.length + 1 ≤ 1099511627776 := hl1
  have hfin : ∀ (n : Int) (b' bb : Nat) (M' : Mem), M' = (b', Arr1 (cn ++ [.int .i64 n]) {}) :: (bb, Arr1 [.int .i64 n] {}) :: (b, Arr1 [.slice b' 0 (cn.length + 1) none 1, ss] {}) :: Ms →
      ∃ M1 R, M'.Perm (R ++ M1) ∧ HpM b (cn ++ [.int .i64 n]) (cs ++ []) M1 := by
    rintro n b' bb M' rfl
    refine ⟨_, _, perm3 _ _ _ _, ⟨⟨_, ss, [(b', Arr1 (cn ++ [.int .i64 n]) {})], Ms, List.Perm.refl _, Or.inr ⟨b', by simp, rfl⟩, by simpa using l2⟩, hM.ints.app fun v hv => ⟨n, by simpa using hv⟩, by simpa using hM.strs⟩⟩
  refine WF.permM hp (WF.trim (WF.intro rfl (Nat.le_of_ble_eq_true rfl) ?_ (fun _ _ => rfl)))
  cases t <;> rcases l1 with ⟨rfl, rfl, rfl⟩ | ⟨bn, rfl, rfl⟩
  all_goals
    repeat' first
      | refine WC.seq ?_
      | refine WC.region ?_
      | refine WC.skip ?_
      | refine WC.cond_t rfl (by first | assumption | rfl) ?_
      | refine WC.cond_f rfl (by first | assumption | rfl) ?_
      | refine WO.nil ?_
      | refine WO.cons ?_
      | refine W1.mv rfl ?_
      | refine W1.nilck rfl ?_
      | refine W1.fa rfl ?_
      | refine W1.bldS rfl rfl rfl (fun bb => ?_)
      | refine Exists.intro _ (And.intro Res.nil ?_)
      | refine W1.ldS rfl .here rfl ?_
      | refine W1.appN (n := 1) rfl rfl (Src.row .here (Nat.le_of_ble_eq_true rfl)) (by decide) (by decide) (fun b' => ?_)
      | refine W1.app (n := 1) rfl rfl (Src.row .here (Nat.le_of_ble_eq_true rfl)) (by decide) (.there (.there .here)) (by simp) (by show (cn.length + 1) * 8 ≤ 35184372088832; omega) (fun b' => ?_)
      | refine W1.st rfl rfl rfl rfl (.there (.there .here)) (Nat.le_of_ble_eq_true rfl) ?_
    exact hfin _ _ _ _ rfl
end
theorem p106 : PutT ftb 106 .bool := by
  intro g v k hv
  simp only [Cell] at hv
  obtain ⟨⟨n, rfl⟩, hk⟩ := hv
  exact (put_bool n).le hk
theorem p8 : PutT ftb 8 .int := putT_int rfl (fun _ _ => rfl)
theorem p9 : PutT ftb 9 .int := putT_int rfl (fun _ _ => rfl)
theorem p105 : PutT ftb 105 .str := putT_str rfl (fun _ _ => rfl)
theorem p18 : PutT ftb 18 (.sl [.int]) := putT_list1 (p := 63) (fe := 8) rfl (fun _ _ => rfl) rfl (fun _ _ => rfl) p8
theorem p13 : PutR ftb 13 [.int, .int] := putG_ok (is := [⟨false, 1, 8⟩, ⟨false, 1, 8⟩]) rfl (fun _ _ => rfl) (.one p8 (.one p8 .nil))
theorem p107 : PutT ftb 107 (.sl [.int, .int]) := putT_listN (p := 108) (fe := 13) (e := 2) rfl (fun _ _ => rfl) rfl (fun _ _ => rfl) rfl p13
theorem p97 : PutR ftb 97 tyPlace := putG_ok (is := [⟨false, 1, 105⟩, ⟨false, 1, 106⟩, ⟨false, 1, 107⟩, ⟨false, 1, 8⟩]) rfl (fun _ _ => rfl) (.one p105 (.one p106 (.one p107 (.one p8 .nil))))
theorem p78 : PutT ftb 78 (.sl tyPlace) := putT_listN (p := 96) (fe := 97) (e := 4) rfl (fun _ _ => rfl) rfl (fun _ _ => rfl) rfl p97
theorem p99 : PutR ftb 99 tyFig := putG_ok (is := [⟨false, 1, 105⟩, ⟨false, 1, 8⟩, ⟨false, 1, 8⟩, ⟨false, 1, 8⟩, ⟨false, 1, 8⟩, ⟨false, 1, 8⟩]) rfl (fun _ _ => rfl) (.one p105 (.one p8 (.one p8 (.one p8 (.one p8 (.one p8 .nil))))))
theorem p79 : PutT ftb 79 (.sl tyFig) := putT_listN (p := 98) (fe := 99) (e := 6) rfl (fun _ _ => rfl) rfl (fun _ _ => rfl) rfl p99
theorem p25 : PutR ftb 25 [.int, .sl [.int]] := putG_ok (is := [⟨false, 1, 8⟩, ⟨false, 1, 18⟩]) rfl (fun _ _ => rfl) (.one p8 (.one p18 .nil))
theorem p40 : PutR ftb 40 tyHouse := putG_ok (is := [⟨true, 2, 13⟩, ⟨false, 1, 8⟩, ⟨false, 1, 18⟩, ⟨false, 1, 78⟩, ⟨false, 1, 79⟩, ⟨false, 1, 18⟩]) rfl (fun _ _ => rfl) (.many (us := [.int, .int]) rfl p13 (.one p8 (.one p18 (.one p78 (.one p79 (.one p18 .nil))))))
theorem p4 {g : Gz} {vs : List V} {k : Nat} (hrow : Ax.Row g tyAnew vs k) : ∃ ns ss : List V, ns.length ≤ k ∧ ss.length ≤ k ∧ IntL ns ∧ StrL ss ∧
    ∀ b cn cs M, HpM b cn cs M → cn.length + k ≤ lim40 → cs.length + k ≤ lim40 → WF ftb g 4 [.agg vs, .ptr b 0] M fun _ M' => HpM b (cn ++ ns) (cs ++ ss) M' :=
  putAll_ok (is := [⟨true, 7, 40⟩, ⟨false, 1, 8⟩, ⟨false, 1, 8⟩, ⟨false, 1, 8⟩, ⟨true, 2, 25⟩]) rfl (fun _ _ => rfl) (.many (us := tyHouse) rfl p40 (.one p8 (.one p8 (.one p8 (.many (us := [.int, .sl [.int]]) rfl p25 .nil))))) hrow
theorem w65 : WipeT ftb 65 .int := wipeT_int rfl (fun _ _ => rfl)
theorem w20 : WipeT ftb 20 (.sl [.int]) := wipeT_list (p := 64) (fe := 65) (e := 1) rfl (fun _ _ => rfl) rfl (fun _ _ => rfl) rfl w65.row
theorem w27 : WipeR ftb 27 [.int, .sl [.int]] := wipeG_ok (is := [(1, 65), (1, 20)]) rfl (fun _ _ => rfl) (by simp) (.one w65 (.one w20 .nil))
end Go.Ax
end
section
namespace Go.Ax
open Go.Ax.Ir
theorem rowSpan {g : Gz} {x y : Int} : Ax.Row g [.int, .int] [.int .i64 x, .int .i64 y] 2 := by
  simp only [Row]
  exact ⟨_, _, 1, 1, rfl, cellInt, ⟨_, _, 1, 0, rfl, cellInt, rfl, by decide⟩, by decide⟩
theorem ownPlan {lit : Int} {s : V} {R : Bks} {k : Nat} (h : OwnC (.sl (List.replicate 1 .int)) s R k) : OwnRow [.int, .sl [.int]] [.int .i64 lit, s] R (1 + k) := by
  simp only [OwnRow]
  refine ⟨_, _, [], R, 1, k, rfl, by simp [OwnC], ⟨_, _, R, [], k, 0, rfl, h, ⟨rfl, rfl⟩, by simp, by omega⟩, rfl, Nat.le_refl _⟩
attribute [local irreducible] W1 WO WC WD WF WV
structure InOk (g : Gz) (bx : Nat) (t : HsD) (sp : V) (np : Nat) (pl : Nat → Int) (n1 n2 n3 n4 : Int) : Prop where
  hX : g bx = some (.arr (t.cells ++ [.int .i64 n1, .int .i64 n2, .int .i64 n3, .int .i64 n4, sp]) {})
  ok : HsOk g t
  hs : Slc g [] sp np 1 fun i _ => .int .i64 (pl i)
  hsc : sp.scalar = true
  hnp : np ≤ 1000000000
  hz : TZ g
set_option maxHeartbeats 1000000 in
theorem ag6 {g : Gz} {bx : Nat} {t : HsD} {sp : V} {np : Nat} {pl : Nat → Int} {n1 n2 n3 n4 : Int} (I : InOk g bx t sp np pl n1 n2 n3 n4) : AgC ftb g 6 [.ptr bx 0] := by
  have l7 : rdAgg g true bx 0 7 = some (.agg t.cells) := by simp [rdAgg, rdG, I.hX, HsD.cells]
  have k7 : rdAgg g false bx 7 1 = some (.int .i64 n1) := by simp [rdAgg, I.hX, HsD.cells]
  have k8 : rdAgg g false bx 8 1 = some (.int .i64 n2) := by simp [rdAgg, I.hX, HsD.cells]
  have k9 : rdAgg g false bx 9 1 = some (.int .i64 n3) := by simp [rdAgg, I.hX, HsD.cells]
  have k10 : rdAgg g true bx 10 2 = some (.agg [.int .i64 n4, sp]) := by simp [rdAgg, rdG, I.hX, HsD.cells]
  intro b
  have l40 : lim40 = 1099511627776 := rfl
  have hlim : limit = 35184372088832 := rfl
  refine WF.intro rfl (Nat.le_of_ble_eq_true rfl) ?_
  repeat' first
    | refine W1.ldG rfl l7 ?_
    | (refine W1.callV rfl rfl (WV.func ((f7 I.ok).mono fun v M' => ?_)); rintro ⟨rfl, p, a, e, rfl, hv⟩)
    | refine W1.put (Q := []) (Mh := [(b, E2P)]) (k := 1) rfl (p8 g _ 1 cellInt) (HpM.new b) (by simp only [List.length_nil]; omega) (by simp only [List.length_nil]; omega) (fun v ns ss Mh' h1 h2 hM => ?_)
    | refine W1.put (Q := []) (k := 1) rfl (p8 g _ 1 cellInt) hM (by simp only [List.length_append, List.length_nil]; omega) (by simp only [List.length_append, List.length_nil]; omega) (fun v ns ss Mh' h1 h2 hM => ?_)
    | refine W1.put (Q := []) (k := 1) rfl (p9 g _ 1 cellInt) hM (by simp only [List.length_append, List.length_nil]; omega) (by simp only [List.length_append, List.length_nil]; omega) (fun v ns ss Mh' h1 h2 hM => ?_)
    | refine WC.ret ?_
    | refine WC.seq ?_
    | refine WC.region ?_
    | refine WO.nil ?_
    | refine WO.cons ?_
    | refine W1.mv rfl ?_
    | refine W1.fa rfl ?_
    | refine W1.ext rfl rfl ?_
    | refine Exists.intro _ (And.intro (Res.tmp rfl Res.nil) ?_)
  exact ⟨10, [], _, _, _, [], rfl, by decide, by simp, hM, by simp only [List.length_append, List.length_nil]; omega, by simp only [List.length_append, List.length_nil]; omega, nothing_ok rfl (fun _ _ => rfl)⟩
set_option maxHeartbeats 1000000 in
theorem ag11 {g : Gz} {bx : Nat} {t : HsD} {sp : V} {np : Nat} {pl : Nat → Int} {n1 n2 n3 n4 : Int} (I : InOk g bx t sp np pl n1 n2 n3 n4) : AgC ftb g 11 [.ptr bx 0] := by
  have l7 : rdAgg g true bx 0 7 = some (.agg t.cells) := by simp [rdAgg, rdG, I.hX, HsD.cells]
  have k7 : rdAgg g false bx 7 1 = some (.int .i64 n1) := by simp [rdAgg, I.hX, HsD.cells]
  have k8 : rdAgg g false bx 8 1 = some (.int .i64 n2) := by simp [rdAgg, I.hX, HsD.cells]
  have k9 : rdAgg g false bx 9 1 = some (.int .i64 n3) := by simp [rdAgg, I.hX, HsD.cells]
  have k10 : rdAgg g true bx 10 2 = some (.agg [.int .i64 n4, sp]) := by simp [rdAgg, rdG, I.hX, HsD.cells]
  intro b
  have l40 : lim40 = 1099511627776 := rfl
  have hlim : limit = 35184372088832 := rfl
  refine WF.intro rfl (Nat.le_of_ble_eq_true rfl) ?_
  repeat' first
    | refine W1.ldG rfl l7 ?_
    | refine W1.ldG rfl k8 ?_
    | refine W1.ldG rfl k9 ?_
    | (refine W1.callV rfl rfl (WV.func ((f12 I.ok).mono fun v M' => ?_)); rintro ⟨rfl, x, y, e, rfl⟩)
    | refine W1.put (Q := [_]) (Mh := [(b, E2P)]) (k := 2) rfl (p13 g _ 2 rowSpan) (HpM.new b) (by simp only [List.length_nil]; omega) (by simp only [List.length_nil]; omega) (fun v ns ss Mh' h1 h2 hM => ?_)
    | refine W1.put (Q := [_]) (k := 1) rfl (p9 g _ 1 cellInt) hM (by simp only [List.length_append, List.length_nil]; omega) (by simp only [List.length_append, List.length_nil]; omega) (fun v ns ss Mh' h1 h2 hM => ?_)
    | refine WC.ret ?_
    | refine WC.seq ?_
    | refine WC.region ?_
    | refine WO.nil ?_
    | refine WO.cons ?_
    | refine W1.mv rfl ?_
    | refine W1.fa rfl ?_
    | refine W1.ext rfl rfl ?_
    | refine W1.alloc rfl (fun bb => ?_)
    | refine Exists.intro _ (And.intro (Res.tmp rfl Res.nil) ?_)
    | refine W1.stAll rfl rfl rfl rfl rfl .here ?_
    | refine W1.ldAll rfl .here rfl ?_
  exact ⟨10, [], _, _, _, [_], rfl, by decide, List.perm_append_comm (l₁ := [_]), hM, by simp only [List.length_append, List.length_nil]; omega, by simp only [List.length_append, List.length_nil]; omega, nothing_ok rfl (fun _ _ => rfl)⟩
set_option maxHeartbeats 1000000 in
theorem ag14 {g : Gz} {bx : Nat} {t : HsD} {sp : V} {np : Nat} {pl : Nat → Int} {n1 n2 n3 n4 : Int} (I : InOk g bx t sp np pl n1 n2 n3 n4) : AgC ftb g 14 [.ptr bx 0] := by
  have l7 : rdAgg g true bx 0 7 = some (.agg t.cells) := by simp [rdAgg, rdG, I.hX, HsD.cells]
  have k7 : rdAgg g false bx 7 1 = some (.int .i64 n1) := by simp [rdAgg, I.hX, HsD.cells]
  have k8 : rdAgg g false bx 8 1 = some (.int .i64 n2) := by simp [rdAgg, I.hX, HsD.cells]
  have k9 : rdAgg g false bx 9 1 = some (.int .i64 n3) := by simp [rdAgg, I.hX, HsD.cells]
  have k10 : rdAgg g true bx 10 2 = some (.agg [.int .i64 n4, sp]) := by simp [rdAgg, rdG, I.hX, HsD.cells]
  intro b
  have l40 : lim40 = 1099511627776 := rfl
  have hlim : limit = 35184372088832 := rfl
  refine WF.intro rfl (Nat.le_of_ble_eq_true rfl) ?_
  repeat' first
    | refine W1.ldG rfl l7 ?_
    | refine W1.ldG rfl k7 ?_
    | refine W1.ldG rfl k8 ?_
    | refine W1.ldG rfl k9 ?_
    | (refine W1.callV rfl rfl (WV.func ((f15 I.ok).mono fun v M' => ?_)); rintro ⟨rfl, n, e, rfl⟩)
    | refine W1.put (Q := []) (Mh := [(b, E2P)]) (k := 1) rfl (p8 g _ 1 cellInt) (HpM.new b) (by simp only [List.length_nil]; omega) (by simp only [List.length_nil]; omega) (fun v ns ss Mh' h1 h2 hM => ?_)
    | refine W1.put (Q := []) (k := 1) rfl (p9 g _ 1 cellInt) hM (by simp only [List.length_append, List.length_nil]; omega) (by simp only [List.length_append, List.length_nil]; omega) (fun v ns ss Mh' h1 h2 hM => ?_)
    | refine WC.ret ?_
    | refine WC.seq ?_
    | refine WC.region ?_
    | refine WO.nil ?_
    | refine WO.cons ?_
    | refine W1.mv rfl ?_
    | refine W1.fa rfl ?_
    | refine W1.ext rfl rfl ?_
    | refine Exists.intro _ (And.intro (Res.tmp rfl Res.nil) ?_)
  exact ⟨10, [], _, _, _, [], rfl, by decide, by simp, hM, by simp only [List.length_append, List.length_nil]; omega, by simp only [List.length_append, List.length_nil]; omega, nothing_ok rfl (fun _ _ => rfl)⟩
set_option maxHeartbeats 1000000 in
theorem ag16 {g : Gz} {bx : Nat} {t : HsD} {sp : V} {np : Nat} {pl : Nat → Int} {n1 n2 n3 n4 : Int} (I : InOk g bx t sp np pl n1 n2 n3 n4) : AgC ftb g 16 [.ptr bx 0] := by
  have l7 : rdAgg g true bx 0 7 = some (.agg t.cells) := by simp [rdAgg, rdG, I.hX, HsD.cells]
  have k7 : rdAgg g false bx 7 1 = some (.int .i64 n1) := by simp [rdAgg, I.hX, HsD.cells]
  have k8 : rdAgg g false bx 8 1 = some (.int .i64 n2) := by simp [rdAgg, I.hX, HsD.cells]
  have k9 : rdAgg g false bx 9 1 = some (.int .i64 n3) := by simp [rdAgg, I.hX, HsD.cells]
  have k10 : rdAgg g true bx 10 2 = some (.agg [.int .i64 n4, sp]) := by simp [rdAgg, rdG, I.hX, HsD.cells]
  intro b
  have l40 : lim40 = 1099511627776 := rfl
  have hlim : limit = 35184372088832 := rfl
  refine WF.intro rfl (Nat.le_of_ble_eq_true rfl) ?_
  repeat' first
    | refine W1.ldG rfl l7 ?_
    | refine W1.ldG rfl k10 ?_
    | (refine W1.callV rfl rfl (WV.func ((f17 I.ok I.hs I.hsc I.hnp).mono fun v M' => ?_)); rintro ⟨s, R, k, e, rfl, ho, hk, rfl⟩)
    | refine W1.putO (pre := [_]) (R := R) rfl p18 ho (HpM.new b) (by simp only [List.length_nil]; omega) (by simp only [List.length_nil]; omega) (fun v ns ss Mh' h1 h2 hM => ?_)
    | refine W1.put (Q := _ :: toM R) (k := 1) rfl (p9 g _ 1 cellInt) hM (by simp only [List.length_append, List.length_nil]; omega) (by simp only [List.length_append, List.length_nil]; omega) (fun v ns ss Mh' h1 h2 hM => ?_)
    | refine WC.ret ?_
    | refine WC.seq ?_
    | refine WC.region ?_
    | refine WO.nil ?_
    | refine WO.cons ?_
    | refine W1.mv rfl ?_
    | refine W1.fa rfl ?_
    | refine W1.ext rfl rfl ?_
    | refine W1.mkfn rfl rfl ?_
    | refine W1.alloc rfl (fun bb => ?_)
    | refine Exists.intro _ (And.intro (Res.tmp rfl Res.nil) ?_)
    | refine W1.st0 rfl rfl ho.scalar .here ?_
    | refine W1.ldS rfl .here rfl ?_
  exact ⟨19, [.ptr _ 0], _, _, _, _ :: toM R, rfl, by decide, agc_perm, hM, by simp only [List.length_append, List.length_nil]; omega, by simp only [List.length_append, List.length_nil]; omega, wipeC_ok (fn := 20) rfl (fun _ _ => rfl) w20 ho⟩
set_option maxHeartbeats 1000000 in
theorem ag21 {g : Gz} {bx : Nat} {t : HsD} {sp : V} {np : Nat} {pl : Nat → Int} {n1 n2 n3 n4 : Int} (I : InOk g bx t sp np pl n1 n2 n3 n4) : AgC ftb g 21 [.ptr bx 0] := by
  have l7 : rdAgg g true bx 0 7 = some (.agg t.cells) := by simp [rdAgg, rdG, I.hX, HsD.cells]
  have k7 : rdAgg g false bx 7 1 = some (.int .i64 n1) := by simp [rdAgg, I.hX, HsD.cells]
  have k8 : rdAgg g false bx 8 1 = some (.int .i64 n2) := by simp [rdAgg, I.hX, HsD.cells]
  have k9 : rdAgg g false bx 9 1 = some (.int .i64 n3) := by simp [rdAgg, I.hX, HsD.cells]
  have k10 : rdAgg g true bx 10 2 = some (.agg [.int .i64 n4, sp]) := by simp [rdAgg, rdG, I.hX, HsD.cells]
  intro b
  have l40 : lim40 = 1099511627776 := rfl
  have hlim : limit = 35184372088832 := rfl
  refine WF.intro rfl (Nat.le_of_ble_eq_true rfl) ?_
  repeat' first
    | refine W1.ldG rfl l7 ?_
    | refine W1.ldG rfl k10 ?_
    | (refine W1.callV rfl rfl (WV.func ((f22 I.ok I.hs I.hsc I.hnp).mono fun v M' => ?_)); rintro ⟨rfl, n, e, rfl⟩)
    | refine W1.put (Q := []) (Mh := [(b, E2P)]) (k := 1) rfl (p8 g _ 1 cellInt) (HpM.new b) (by simp only [List.length_nil]; omega) (by simp only [List.length_nil]; omega) (fun v ns ss Mh' h1 h2 hM => ?_)
    | refine W1.put (Q := []) (k := 1) rfl (p9 g _ 1 cellInt) hM (by simp only [List.length_append, List.length_nil]; omega) (by simp only [List.length_append, List.length_nil]; omega) (fun v ns ss Mh' h1 h2 hM => ?_)
    | refine WC.ret ?_
    | refine WC.seq ?_
    | refine WC.region ?_
    | refine WO.nil ?_
    | refine WO.cons ?_
    | refine W1.mv rfl ?_
    | refine W1.fa rfl ?_
    | refine W1.ext rfl rfl ?_
    | refine Exists.intro _ (And.intro (Res.tmp rfl Res.nil) ?_)
  exact ⟨10, [], _, _, _, [], rfl, by decide, by simp, hM, by simp only [List.length_append, List.length_nil]; omega, by simp only [List.length_append, List.length_nil]; omega, nothing_ok rfl (fun _ _ => rfl)⟩
set_option maxHeartbeats 1000000 in
theorem ag23 {g : Gz} {bx : Nat} {t : HsD} {sp : V} {np : Nat} {pl : Nat → Int} {n1 n2 n3 n4 : Int} (I : InOk g bx t sp np pl n1 n2 n3 n4) : AgC ftb g 23 [.ptr bx 0] := by
  have l7 : rdAgg g true bx 0 7 = some (.agg t.cells) := by simp [rdAgg, rdG, I.hX, HsD.cells]
  have k7 : rdAgg g false bx 7 1 = some (.int .i64 n1) := by simp [rdAgg, I.hX, HsD.cells]
  have k8 : rdAgg g false bx 8 1 = some (.int .i64 n2) := by simp [rdAgg, I.hX, HsD.cells]
  have k9 : rdAgg g false bx 9 1 = some (.int .i64 n3) := by simp [rdAgg, I.hX, HsD.cells]
  have k10 : rdAgg g true bx 10 2 = some (.agg [.int .i64 n4, sp]) := by simp [rdAgg, rdG, I.hX, HsD.cells]
  intro b
  have l40 : lim40 = 1099511627776 := rfl
  have hlim : limit = 35184372088832 := rfl
  refine WF.intro rfl (Nat.le_of_ble_eq_true rfl) ?_
  repeat' first
    | refine W1.ldG rfl l7 ?_
    | (refine W1.callV rfl rfl (WV.func ((f24 I.ok).mono fun v M' => ?_)); rintro ⟨lit, s, R, k, w, e, rfl, ho, hk, rfl⟩)
    | refine W1.putOR (pre := [_]) (R := R) rfl p25 (ownPlan ho) (HpM.new b) (by simp only [List.length_nil]; omega) (by simp only [List.length_nil]; omega) (fun v ns ss Mh' h1 h2 hM => ?_)
    | refine W1.put (Q := _ :: toM R) (k := 1) rfl (p8 g _ 1 cellInt) hM (by simp only [List.length_append, List.length_nil]; omega) (by simp only [List.length_append, List.length_nil]; omega) (fun v ns ss Mh' h1 h2 hM => ?_)
    | refine W1.put (Q := _ :: toM R) (k := 1) rfl (p9 g _ 1 cellInt) hM (by simp only [List.length_append, List.length_nil]; omega) (by simp only [List.length_append, List.length_nil]; omega) (fun v ns ss Mh' h1 h2 hM => ?_)
    | refine WC.ret ?_
    | refine WC.seq ?_
    | refine WC.region ?_
    | refine WO.nil ?_
    | refine WO.cons ?_
    | refine W1.mv rfl ?_
    | refine W1.fa rfl ?_
    | refine W1.ext rfl rfl ?_
    | refine W1.mkfn rfl rfl ?_
    | refine W1.alloc rfl (fun bb => ?_)
    | refine Exists.intro _ (And.intro (Res.tmp rfl Res.nil) ?_)
    | refine W1.stAll rfl rfl rfl rfl (by simp [ho.scalar]; rfl) .here ?_
    | refine W1.ldAll rfl .here rfl ?_
  exact ⟨26, [.ptr _ 0], _, _, _, _ :: toM R, rfl, by decide, agc_perm, hM, by simp only [List.length_append, List.length_nil]; omega, by simp only [List.length_append, List.length_nil]; omega, wipeCR_ok (fn := 27) rfl (fun _ _ => rfl) w27 (ownPlan ho)⟩
set_option maxHeartbeats 1000000 in
theorem ag28 {g : Gz} {bx : Nat} {t : HsD} {sp : V} {np : Nat} {pl : Nat → Int} {n1 n2 n3 n4 : Int} (I : InOk g bx t sp np pl n1 n2 n3 n4) : AgC ftb g 28 [.ptr bx 0] := by
  have l7 : rdAgg g true bx 0 7 = some (.agg t.cells) := by simp [rdAgg, rdG, I.hX, HsD.cells]
  have k7 : rdAgg g false bx 7 1 = some (.int .i64 n1) := by simp [rdAgg, I.hX, HsD.cells]
  have k8 : rdAgg g false bx 8 1 = some (.int .i64 n2) := by simp [rdAgg, I.hX, HsD.cells]
  have k9 : rdAgg g false bx 9 1 = some (.int .i64 n3) := by simp [rdAgg, I.hX, HsD.cells]
  have k10 : rdAgg g true bx 10 2 = some (.agg [.int .i64 n4, sp]) := by simp [rdAgg, rdG, I.hX, HsD.cells]
  intro b
  have l40 : lim40 = 1099511627776 := rfl
  have hlim : limit = 35184372088832 := rfl
  refine WF.intro rfl (Nat.le_of_ble_eq_true rfl) ?_
  repeat' first
    | refine W1.ldG rfl l7 ?_
    | (refine W1.callV rfl rfl (WV.func ((f29 I.ok I.hz).mono fun v M' => ?_)); rintro ⟨s, R, k, e, rfl, ho, hk, rfl⟩)
    | refine W1.putO (pre := [_]) (R := R) rfl p18 ho (HpM.new b) (by simp only [List.length_nil]; omega) (by simp only [List.length_nil]; omega) (fun v ns ss Mh' h1 h2 hM => ?_)
    | refine W1.put (Q := _ :: toM R) (k := 1) rfl (p9 g _ 1 cellInt) hM (by simp only [List.length_append, List.length_nil]; omega) (by simp only [List.length_append, List.length_nil]; omega) (fun v ns ss Mh' h1 h2 hM => ?_)
    | refine WC.ret ?_
    | refine WC.seq ?_
    | refine WC.region ?_
    | refine WO.nil ?_
    | refine WO.cons ?_
    | refine W1.mv rfl ?_
    | refine W1.fa rfl ?_
    | refine W1.ext rfl rfl ?_
    | refine W1.mkfn rfl rfl ?_
    | refine W1.alloc rfl (fun bb => ?_)
    | refine Exists.intro _ (And.intro (Res.tmp rfl Res.nil) ?_)
    | refine W1.st0 rfl rfl ho.scalar .here ?_
    | refine W1.ldS rfl .here rfl ?_
  exact ⟨30, [.ptr _ 0], _, _, _, _ :: toM R, rfl, by decide, agc_perm, hM, by simp only [List.length_append, List.length_nil]; omega, by simp only [List.length_append, List.length_nil]; omega, wipeC_ok (fn := 20) rfl (fun _ _ => rfl) w20 ho⟩
set_option maxHeartbeats 1000000 in
theorem ag31 {g : Gz} {bx : Nat} {t : HsD} {sp : V} {np : Nat} {pl : Nat → Int} {n1 n2 n3 n4 : Int} (I : InOk g bx t sp np pl n1 n2 n3 n4) : AgC ftb g 31 [.ptr bx 0] := by
  have l7 : rdAgg g true bx 0 7 = some (.agg t.cells) := by simp [rdAgg, rdG, I.hX, HsD.cells]
  have k7 : rdAgg g false bx 7 1 = some (.int .i64 n1) := by simp [rdAgg, I.hX, HsD.cells]
  have k8 : rdAgg g false bx 8 1 = some (.int .i64 n2) := by simp [rdAgg, I.hX, HsD.cells]
  have k9 : rdAgg g false bx 9 1 = some (.int .i64 n3) := by simp [rdAgg, I.hX, HsD.cells]
  have k10 : rdAgg g true bx 10 2 = some (.agg [.int .i64 n4, sp]) := by simp [rdAgg, rdG, I.hX, HsD.cells]
  intro b
  have l40 : lim40 = 1099511627776 := rfl
  have hlim : limit = 35184372088832 := rfl
  refine WF.intro rfl (Nat.le_of_ble_eq_true rfl) ?_
  repeat' first
    | refine W1.ldG rfl l7 ?_
    | (refine W1.callV rfl rfl (WV.func ((f32 I.ok).mono fun v M' => ?_)); rintro ⟨s, R, k, e, rfl, ho, hk, rfl⟩)
    | refine W1.putO (pre := [_]) (R := R) rfl p18 ho (HpM.new b) (by simp only [List.length_nil]; omega) (by simp only [List.length_nil]; omega) (fun v ns ss Mh' h1 h2 hM => ?_)
    | refine W1.put (Q := _ :: toM R) (k := 1) rfl (p9 g _ 1 cellInt) hM (by simp only [List.length_append, List.length_nil]; omega) (by simp only [List.length_append, List.length_nil]; omega) (fun v ns ss Mh' h1 h2 hM => ?_)
    | refine WC.ret ?_
    | refine WC.seq ?_
    | refine WC.region ?_
    | refine WO.nil ?_
    | refine WO.cons ?_
    | refine W1.mv rfl ?_
    | refine W1.fa rfl ?_
    | refine W1.ext rfl rfl ?_
    | refine W1.mkfn rfl rfl ?_
    | refine W1.alloc rfl (fun bb => ?_)
    | refine Exists.intro _ (And.intro (Res.tmp rfl Res.nil) ?_)
    | refine W1.st0 rfl rfl ho.scalar .here ?_
    | refine W1.ldS rfl .here rfl ?_
  exact ⟨33, [.ptr _ 0], _, _, _, _ :: toM R, rfl, by decide, agc_perm, hM, by simp only [List.length_append, List.length_nil]; omega, by simp only [List.length_append, List.length_nil]; omega, wipeC_ok (fn := 20) rfl (fun _ _ => rfl) w20 ho⟩
set_option maxHeartbeats 1000000 in
theorem ag34 {g : Gz} {bx : Nat} {t : HsD} {sp : V} {np : Nat} {pl : Nat → Int} {n1 n2 n3 n4 : Int} (I : InOk g bx t sp np pl n1 n2 n3 n4) : AgC ftb g 34 [.ptr bx 0] := by
  have l7 : rdAgg g true bx 0 7 = some (.agg t.cells) := by simp [rdAgg, rdG, I.hX, HsD.cells]
  have k7 : rdAgg g false bx 7 1 = some (.int .i64 n1) := by simp [rdAgg, I.hX, HsD.cells]
  have k8 : rdAgg g false bx 8 1 = some (.int .i64 n2) := by simp [rdAgg, I.hX, HsD.cells]
  have k9 : rdAgg g false bx 9 1 = some (.int .i64 n3) := by simp [rdAgg, I.hX, HsD.cells]
  have k10 : rdAgg g true bx 10 2 = some (.agg [.int .i64 n4, sp]) := by simp [rdAgg, rdG, I.hX, HsD.cells]
  intro b
  have l40 : lim40 = 1099511627776 := rfl
  have hlim : limit = 35184372088832 := rfl
  refine WF.intro rfl (Nat.le_of_ble_eq_true rfl) ?_
  repeat' first
    | refine W1.ldG rfl l7 ?_
    | refine W1.ldG rfl k7 ?_
    | (refine W1.callV rfl rfl (WV.func ((f35 I.ok).mono fun v M' => ?_)); rintro ⟨rfl, n, e, rfl⟩)
    | refine W1.put (Q := []) (Mh := [(b, E2P)]) (k := 1) rfl (p8 g _ 1 cellInt) (HpM.new b) (by simp only [List.length_nil]; omega) (by simp only [List.length_nil]; omega) (fun v ns ss Mh' h1 h2 hM => ?_)
    | refine W1.put (Q := []) (k := 1) rfl (p9 g _ 1 cellInt) hM (by simp only [List.length_append, List.length_nil]; omega) (by simp only [List.length_append, List.length_nil]; omega) (fun v ns ss Mh' h1 h2 hM => ?_)
    | refine WC.ret ?_
    | refine WC.seq ?_
    | refine WC.region ?_
    | refine WO.nil ?_
    | refine WO.cons ?_
    | refine W1.mv rfl ?_
    | refine W1.fa rfl ?_
    | refine W1.ext rfl rfl ?_
    | refine Exists.intro _ (And.intro (Res.tmp rfl Res.nil) ?_)
  exact ⟨10, [], _, _, _, [], rfl, by decide, by simp, hM, by simp only [List.length_append, List.length_nil]; omega, by simp only [List.length_append, List.length_nil]; omega, nothing_ok rfl (fun _ _ => rfl)⟩
set_option maxHeartbeats 1000000 in
theorem ag36 {g : Gz} {bx : Nat} {t : HsD} {sp : V} {np : Nat} {pl : Nat → Int} {n1 n2 n3 n4 : Int} (I : InOk g bx t sp np pl n1 n2 n3 n4) : AgC ftb g 36 [.ptr bx 0] := by
  have l7 : rdAgg g true bx 0 7 = some (.agg t.cells) := by simp [rdAgg, rdG, I.hX, HsD.cells]
  have k7 : rdAgg g false bx 7 1 = some (.int .i64 n1) := by simp [rdAgg, I.hX, HsD.cells]
  have k8 : rdAgg g false bx 8 1 = some (.int .i64 n2) := by simp [rdAgg, I.hX, HsD.cells]
  have k9 : rdAgg g false bx 9 1 = some (.int .i64 n3) := by simp [rdAgg, I.hX, HsD.cells]
  have k10 : rdAgg g true bx 10 2 = some (.agg [.int .i64 n4, sp]) := by simp [rdAgg, rdG, I.hX, HsD.cells]
  intro b
  have l40 : lim40 = 1099511627776 := rfl
  have hlim : limit = 35184372088832 := rfl
  refine WF.intro rfl (Nat.le_of_ble_eq_true rfl) ?_
  repeat' first
    | refine W1.ldG rfl l7 ?_
    | refine W1.ldG rfl k10 ?_
    | (refine W1.callV rfl rfl (WV.func ((f37 I.ok I.hs I.hsc I.hnp).mono fun v M' => ?_)); rintro ⟨rfl, n, m, e, rfl⟩)
    | refine W1.put (Q := []) (Mh := [(b, E2P)]) (k := 1) rfl (p8 g _ 1 cellInt) (HpM.new b) (by simp only [List.length_nil]; omega) (by simp only [List.length_nil]; omega) (fun v ns ss Mh' h1 h2 hM => ?_)
    | refine W1.put (Q := []) (k := 1) rfl (p8 g _ 1 cellInt) hM (by simp only [List.length_append, List.length_nil]; omega) (by simp only [List.length_append, List.length_nil]; omega) (fun v ns ss Mh' h1 h2 hM => ?_)
    | refine W1.put (Q := []) (k := 1) rfl (p9 g _ 1 cellInt) hM (by simp only [List.length_append, List.length_nil]; omega) (by simp only [List.length_append, List.length_nil]; omega) (fun v ns ss Mh' h1 h2 hM => ?_)
    | refine WC.ret ?_
    | refine WC.seq ?_
    | refine WC.region ?_
    | refine WO.nil ?_
    | refine WO.cons ?_
    | refine W1.mv rfl ?_
    | refine W1.fa rfl ?_
    | refine W1.ext rfl rfl ?_
    | refine Exists.intro _ (And.intro (Res.tmp rfl Res.nil) ?_)
  exact ⟨10, [], _, _, _, [], rfl, by decide, by simp, hM, by simp only [List.length_append, List.length_nil]; omega, by simp only [List.length_append, List.length_nil]; omega, nothing_ok rfl (fun _ _ => rfl)⟩
end Go.Ax
end
section
namespace Go.Ax
open Go.Ax.Ir
open Go.Ax.Kr
theorem t8_get : ∀ (l : List Nat) (i : Nat), i < l.length → ∃ n, (t8 l)[i]? = some (.int .u8 n)
  | [], i, h => by cases h
  | n :: l, 0, _ => ⟨_, rfl⟩
  | n :: l, i + 1, h => by obtain ⟨m, e⟩ := t8_get l i (by simpa using h); exact ⟨m, by rw [← e]; rfl⟩
theorem TZ.of {g : Gz} (h : TabG tbR g) : TZ g := ⟨tb1, h 1 (by decide), fun i hi => t8_get _ i hi⟩
theorem TabG.lessG {tb : Nat → List V} {g g' : Gz} (hg : g.le g') (h : TabG tb g) : TabG tb g' := fun k hk => hg _ _ (h k hk)
noncomputable abbrev rft : FT FnR := rootFt tbl 5 38 39 tbR
theorem rplain : ∀ f args h x, rft.orc f args h = some x → rft.fn f = none := rootFt_plain rfl rfl
theorem lift3 {g : Gz} {f : Nat} {args : List V} {M : Mem} {K : V → Mem → Prop} (h : WF ftb g f args M K) : WF rft g f args M K := WF.lift rplain h
attribute [local irreducible] W1 WO WC WD WF WV
def ir3e : ICode := cS2 (cS2 (cS2 (cS2 (cS2 ir3.code))))
theorem root_end {g : Gz} (htg : TabG tbR g) {b3 b4 : Nat} {cn cs : List V} {M1 M2 : Mem} {L : Env} (h3 : HpM b3 cn cs M1) (h4 : HpM b4 cn cs M2) (ln : cn.length ≤ limit) (ls : cs.length ≤ limit) (hL : subL L [(3, .ptr b3 0), (4, .ptr b4 0), (5, .bool true)]) :
    WC rft g none ir3e L (M2 ++ M1) (retK g ir3.res fun v _ => v = .bool true) := by
  obtain ⟨sn, ss, Mn, Ms, hp, l1, l2⟩ := h3.ex
  obtain ⟨sn', ss', Mn', Ms', hp', l1', l2'⟩ := h4.ex
  obtain ⟨R1, rfl, c1, k1⟩ := l1.toM
  obtain ⟨R2, rfl, c2, k2⟩ := l2.toM
  obtain ⟨R1', rfl, c1', k1'⟩ := l1'.toM
  obtain ⟨R2', rfl, c2', k2'⟩ := l2'.toM
  have hP : (M2 ++ M1).Perm ((b4, Arr1 [sn', ss'] {}) :: (b3, Arr1 [sn, ss] {}) :: toM ((R1' ++ R2') ++ (R1 ++ R2))) := by
    refine (hp'.append hp).trans ?_
    rw [List.cons_append, toM_app, toM_app, toM_app]
    exact List.Perm.cons _ List.perm_middle
  refine WC.permM hP ?_
  refine WC.weak hL ?_
  repeat' first
    | refine W1.ldAll rfl .here rfl ?_
    | refine W1.ldAll rfl (.there .here) rfl ?_
    | (refine W1.callV rfl rfl (WV.func (WF.permM (List.perm_append_comm (l₁ := [_, _])) (WF.freezeL fun g' hg hR => ((WF.frame (M0 := []) (lift3 (f_same (ft := ftb) (sm := 38) rfl (fun _ _ => rfl) (k1 g' fun p hp => hR p (by simp [hp])) (k2 g' fun p hp => hR p (by simp [hp])) (k1' g' fun p hp => hR p (by simp [hp])) (k2' g' fun p hp => hR p (by simp [hp])) c1 c2 c1' c2' h3.ints h3.strs ln ls)) (List.Perm.refl _)).mono fun v M' => ?_)))); rintro ⟨_, rfl, rfl⟩)
    | refine W1.awake (by decide) htg ?_
    | refine WC.ret ?_
    | refine WC.seq ?_
    | refine WC.region ?_
    | refine WO.nil ?_
    | refine WO.cons ?_
    | refine W1.guard_y rfl (by first | assumption | rfl) ?_
    | refine W1.pick_t rfl (by first | assumption | rfl) rfl ?_
    | refine W1.mv rfl ?_
    | refine Exists.intro _ (And.intro (Res.tmp rfl Res.nil) ?_)
  rfl
set_option maxHeartbeats 1000000 in
theorem f3 {g : Gz} {vs : List V} {k : Nat} (hrow : Ax.Row g tyAnew vs k) (hk : k ≤ 1048576) (htg : TabG tbR g) (hg : GOk g) : WF rft g 3 [.agg vs] [] fun v _ => v = .bool true := by
  obtain ⟨ns, ss, a1, a2, _, _, put⟩ := p4 hrow
  obtain ⟨v1, v2, k1, k2, rfl, r1, r2, _⟩ := hrow.split
  obtain ⟨t, rfl, ok⟩ := bridge r1 (by omega)
  obtain ⟨w1, ws, _, _, rfl, d1, r2, _⟩ := r2.cons_inv
  obtain ⟨w2, ws, _, _, rfl, d2, r2, _⟩ := r2.cons_inv
  obtain ⟨w3, ws, _, _, rfl, d3, r2, _⟩ := r2.cons_inv
  obtain ⟨w4, ws, _, _, rfl, d4, r2, _⟩ := r2.cons_inv
  obtain ⟨sp, ws, _, _, rfl, d0, r2, _⟩ := r2.cons_inv
  obtain rfl := r2.nil_inv
  obtain ⟨np, pl, hpl, s2, s3⟩ := d0.ints
  obtain ⟨n1, rfl⟩ := d1.int_inv
  obtain ⟨n2, rfl⟩ := d2.int_inv
  obtain ⟨n3, rfl⟩ := d3.int_inv
  obtain ⟨n4, rfl⟩ := d4.int_inv
  have l40 : lim40 = 1099511627776 := rfl
  have hlim : limit = 35184372088832 := rfl
  have hsc : (V.agg (t.cells ++ [.int .i64 n1, .int .i64 n2, .int .i64 n3, .int .i64 n4, sp])).cells.all V.scalar = true := by
    refine List.all_eq_true.2 fun v hv => ?_
    rcases List.mem_append.1 (show v ∈ t.cells ++ [.int .i64 n1, .int .i64 n2, .int .i64 n3, .int .i64 n4, sp] from hv) with h | h
    · exact List.all_eq_true.1 ok.sc7 v h
    · simp only [List.mem_cons, List.mem_nil_iff, or_false] at h
      rcases h with rfl | rfl | rfl | rfl | rfl
      iterate 4 rfl
      exact s2
  refine WF.intro rfl (Nat.le_of_ble_eq_true rfl) ?_ (fun _ _ => rfl)
  refine WC.seq (WC.region (WO.cons (W1.box rfl hsc fun bx => WO.cons (W1.mv rfl (WO.nil ?_)))))
  refine WC.freeze .here fun hb => WC.withSat fun hp hs => ?_
  have s0 := hs.less (Gz.le_add hb)
  have hle := Gz.le_add (o := .arr (V.agg (t.cells ++ [.int .i64 n1, .int .i64 n2, .int .i64 n3, .int .i64 n4, sp])).cells {}) hb
  have hg' := hg.add (b := bx) hb (hrow.dom s0)
  have htg' := htg.lessG hle
  have hX := Gz.add_eq g bx (.arr (V.agg (t.cells ++ [.int .i64 n1, .int .i64 n2, .int .i64 n3, .int .i64 n4, sp])).cells {})
  have I : InOk _ bx t sp np pl n1 n2 n3 n4 := ⟨hX, ok.lessG hle, hpl.lessG hle, s2, by omega, (TZ.of htg).lessG hle⟩
  have l12 : rdAgg (g.add bx (.arr (V.agg (t.cells ++ [.int .i64 n1, .int .i64 n2, .int .i64 n3, .int .i64 n4, sp])).cells {})) true bx 0 12 = some (.agg (t.cells ++ [.int .i64 n1, .int .i64 n2, .int .i64 n3, .int .i64 n4, sp])) := by
    unfold rdAgg rdG; rw [hX]; rfl
  have hin : V.insD (fun c => ∃ p, (g.add bx (.arr (V.agg (t.cells ++ [.int .i64 n1, .int .i64 n2, .int .i64 n3, .int .i64 n4, sp])).cells {})) c = some p) [.ptr bx 0] := ⟨⟨_, hX⟩, trivial⟩
  obtain ⟨ns, ss, a1, a2, _, _, put⟩ := p4 (hrow.lessG hle)
  repeat' first
    | refine W1.ldG rfl l12 ?_
    | (refine W1.callV rfl rfl (WV.func (((lift3 (put _ [] [] _ (HpM.new _) (by simp only [List.length_nil]; omega) (by simp only [List.length_nil]; omega))).frame (List.Perm.swap _ _ _)).mono fun v M' => ?_)); rintro ⟨M1, hM1, rfl⟩)
    | (refine W1.callV rfl rfl (WV.func (((lift3 (put _ [] [] [(_, E2P)] (HpM.new _) (by simp only [List.length_nil]; omega) (by simp only [List.length_nil]; omega))).frame List.perm_append_comm).mono fun v M' => ?_)); rintro ⟨M2, hM2, rfl⟩)
    | refine W1.again (sm := 38) rfl (by decide) htg' hg' hin (ag6 I) ?_
    | refine W1.again (sm := 38) rfl (by decide) htg' hg' hin (ag11 I) ?_
    | refine W1.again (sm := 38) rfl (by decide) htg' hg' hin (ag14 I) ?_
    | refine W1.again (sm := 38) rfl (by decide) htg' hg' hin (ag16 I) ?_
    | refine W1.again (sm := 38) rfl (by decide) htg' hg' hin (ag21 I) ?_
    | refine W1.again (sm := 38) rfl (by decide) htg' hg' hin (ag23 I) ?_
    | refine W1.again (sm := 38) rfl (by decide) htg' hg' hin (ag28 I) ?_
    | refine W1.again (sm := 38) rfl (by decide) htg' hg' hin (ag31 I) ?_
    | refine W1.again (sm := 38) rfl (by decide) htg' hg' hin (ag34 I) ?_
    | refine W1.again (sm := 38) rfl (by decide) htg' hg' hin (ag36 I) ?_
    | refine WC.mono (root_end htg' hM1 hM2 ?_ ?_ ?_) (fun x L1 M1 h => ?_)
    | refine WC.seq ?_
    | refine WC.region ?_
    | refine WO.nil ?_
    | refine WO.cons ?_
    | refine W1.guard_y rfl (by first | assumption | rfl) ?_
    | refine W1.pick_t rfl (by first | assumption | rfl) rfl ?_
    | refine W1.mv rfl ?_
    | refine W1.mkfn rfl rfl ?_
    | refine W1.alloc rfl (fun bb => ?_)
  · simp only [List.length_append, List.length_nil]; omega
  · simp only [List.length_append, List.length_nil]; omega
  · repeat (first | exact subL.nil _ | refine subL.cons rfl ?_)
  · cases x with
    | normal => obtain ⟨vs, hr, hK⟩ := h; exact ⟨vs, fun τ hh hl hs => hr τ hh hl (hs.freeze .here), hK⟩
    | ret => obtain ⟨vs, hr, hK⟩ := h; exact ⟨vs, fun τ hh hl hs => hr τ hh hl (hs.freeze .here), hK⟩
    | _ => exact h
end Go.Ax
end
