import Derived.Test.YthlhpjjimbnabaaGreatA7
import Derived.Test.YthlhpjjimbnabaaGreatB
set_option linter.unusedSectionVars false
set_option linter.unusedVariables false
set_option linter.unusedSimpArgs false
section
namespace Go.Ax
open Go.Ax.Ir
theorem f81 {g : Gz} {n lo hi : Int} {bl bh : Nat} {M M1 M2 : Mem} (h1 : At M bl (Arr1 [.int .i64 lo] {}) M1) (h2 : At M bh (Arr1 [.int .i64 hi] {}) M2) :
    WF tbl g 81 [.int .i64 n, .ptr bl 0, .ptr bh 0] M fun v M' => M' = M ∧ ∃ t, v = .bool t ∧ (t = false → lo ≤ n ∧ n ≤ hi) := by
  refine WF.intro rfl (Nat.le_of_ble_eq_true rfl) ?_
  repeat' first
    | refine WC.seq ?_
    | refine WC.region ?_
    | refine WC.ret ?_
    | refine WO.nil ?_
    | refine WO.cons ?_
    | refine W1.mv rfl ?_
    | refine W1.ldS rfl h1 rfl ?_
    | refine W1.ldS rfl h2 rfl ?_
    | refine W1.lss rfl rfl ?_
    | refine W1.gtr rfl rfl ?_
    | refine W1.guard_y rfl (by assumption) ?_
    | refine W1.guard_n rfl (by assumption) ?_
    | refine W1.guard rfl (fun hc => ?_) (fun hc => ?_)
    | refine W1.pick_t rfl (by assumption) rfl ?_
    | refine W1.pick_f rfl (by assumption) rfl ?_
    | refine Exists.intro _ (And.intro (Res.tmp rfl Res.nil) ?_)
  · exact ⟨rfl, _, rfl, fun h => by simp at h hc; omega⟩
  · exact ⟨rfl, _, rfl, fun h => by cases h⟩
theorem f91 {g : Gz} {M : Mem} {s fv : V} {n : Nat} {el : Nat → Nat → V} {R : Nat → Bool → Prop} (hs : Slc g M s n 1 el) (hn : n ≤ 1000000000000)
    (hf : ∀ i, i < n → WV tbl g fv [el i 0] M fun v M' => M' = M ∧ ∃ t, v = .bool t ∧ R i t) :
    WF tbl g 91 [s, fv] M fun v M' => M' = M ∧ ∃ k : Int, v = .int .i64 k ∧ (k < 0 → ∀ i, i < n → R i false) := by
  refine WF.intro rfl (Nat.le_of_ble_eq_true rfl) ?_
  refine WC.seq (WC.region (WO.cons (W1.mv rfl (WO.nil ?_))))
  refine WC.seq (WC.seq (WC.region (WO.cons (W1.mv rfl (WO.cons (W1.lenSlc rfl hs (WO.cons (W1.mv rfl (WO.nil ?_)))))))))
  refine WC.block ?_
  refine WC.loopE (ι := Int) (fun i => (n - i).toNat) (fun i => [(0, s), (1, fv), (7, .int .i64 n), (8, .int .i64 i)]) (fun i M' => 0 ≤ i ∧ i ≤ n ∧ M' = M ∧ ∀ j : Nat, (j : Int) < i → R j false) ?_ 0 _ _
    (by repeat (first | exact subL.nil _ | refine subL.cons rfl ?_)) ⟨by omega, by omega, rfl, fun j h => by omega⟩
  rintro i M' ⟨h0, h1, rfl, hR⟩
  repeat' first
    | refine WC.seq ?_
    | refine WC.block ?_
    | refine WC.region ?_
    | refine WC.skip ?_
    | refine WC.exit ?_
    | refine WC.ret ?_
    | refine WC.cond rfl (fun hc => ?_) (fun hc => ?_)
    | refine WO.nil ?_
    | refine WO.cons ?_
    | refine W1.mv rfl ?_
    | refine W1.lss rfl rfl ?_
    | refine W1.add rfl rfl (by omega) (by omega) ?_
    | refine W1.iaSlc rfl rfl hs (by omega) (by have := of_decide_eq_true ‹decide _ = true›; omega) (fun b o hrd => ?_)
    | refine W1.ldR rfl (hrd 0 (by omega)) ?_
    | (refine W1.callV rfl rfl ((hf i.toNat (by have := of_decide_eq_true ‹decide _ = true›; omega)).mono fun v M' => ?_); rintro ⟨rfl, t, rfl, ht⟩)
    | refine Exists.intro _ (And.intro (Res.tmp rfl Res.nil) ?_)
  · exact ⟨rfl, i, rfl, fun h => by omega⟩
  · have hlt := of_decide_eq_true ‹decide (i < (n : Int)) = true›
    refine ⟨i + 1, by omega, by repeat (first | exact subL.nil _ | refine subL.cons rfl ?_), by omega, by omega, rfl, fun j hj => ?_⟩
    by_cases hji : (j : Int) < i
    · exact hR j hji
    · have : j = i.toNat := by omega
      subst this
      exact hc ▸ ht
  · have hge := of_decide_eq_false hc
    exact ⟨rfl, -1, rfl, fun _ j hj => hR j (by omega)⟩
theorem f80 {g : Gz} {M : Mem} {s fv : V} {n : Nat} {el : Nat → Nat → V} {R : Nat → Bool → Prop} (hs : Slc g M s n 1 el) (hn : n ≤ 1000000000000)
    (hf : ∀ i, i < n → WV tbl g fv [el i 0] M fun v M' => M' = M ∧ ∃ t, v = .bool t ∧ R i t) :
    WF tbl g 80 [s, fv] M fun v M' => M' = M ∧ ∃ t, v = .bool t ∧ (t = false → ∀ i, i < n → R i false) := by
  refine WF.intro rfl (Nat.le_of_ble_eq_true rfl) ?_
  repeat' first
    | refine WC.seq ?_
    | refine WC.region ?_
    | refine WC.ret ?_
    | refine WO.nil ?_
    | refine WO.cons ?_
    | refine W1.mv rfl ?_
    | refine W1.geq rfl rfl ?_
    | (refine W1.callV rfl rfl (WV.func ((f91 hs hn hf).mono fun v M' => ?_)); rintro ⟨rfl, k, rfl, hk⟩)
    | refine Exists.intro _ (And.intro (Res.tmp rfl Res.nil) ?_)
  exact ⟨rfl, _, rfl, fun h => hk (by simp at h; omega)⟩
theorem f44 {g : Gz} {M : Mem} {s : V} {n : Nat} {lo hi : Int} {num : Nat → Int} (hs : Slc g M s n 1 fun i _ => .int .i64 (num i)) (hn : n ≤ 1000000000000) :
    WF tbl g 44 [.int .i64 lo, .int .i64 hi, s] M fun v M' => M' = M ∧ ∃ t, v = .bool t ∧ (t = false → ∀ i, i < n → lo ≤ num i ∧ num i ≤ hi) := by
  refine WF.intro rfl (Nat.le_of_ble_eq_true rfl) ?_
  repeat' first
    | refine WC.seq ?_
    | refine WC.region ?_
    | refine WC.drop ((List.sublist_cons_self _ _).trans (List.sublist_cons_self _ _)) (WC.ret ?_)
    | refine WO.nil ?_
    | refine WO.cons ?_
    | refine W1.mv rfl ?_
    | refine W1.box rfl rfl (fun b => ?_)
    | refine W1.mkfn rfl rfl ?_
    | (refine W1.callV rfl rfl (WV.func ((f80 hs.cons.cons hn (R := fun i t => t = false → lo ≤ num i ∧ num i ≤ hi) (fun i hi => WV.func (f81 (.there .here) .here))).mono fun v M' => ?_)); rintro ⟨rfl, t, rfl, ht⟩)
    | refine Exists.intro _ (And.intro (Res.tmp rfl Res.nil) ?_)
  exact ⟨rfl, _, rfl, fun h i hi => ht h i hi rfl⟩
end Go.Ax
end
section
namespace Go.Ax
open Go.Ax.Ir
attribute [local irreducible] W1 WO WC WD WF WV
theorem f41 {g : Gz} {s : List UInt8} : WF tbl g 41 [.str s] [] fun v M' => M' = [] ∧ ∃ t, v = .bool t := by
  refine WF.intro rfl (Nat.le_of_ble_eq_true rfl) ?_
  refine WC.seq (WC.region (WO.cons (W1.mv rfl (WO.nil ?_))))
  refine WC.seq (WC.seq (WC.region (WO.cons (W1.mv rfl (WO.cons (W1.rng rfl fun b => WO.nil ?_))))))
  refine WC.block ?_
  refine WC.loopE (ι := Nat) (fun i => s.length - i) (fun _ => [(0, .str s), (7, .ptr b 0)]) (fun i M' => M' = [(b, IterAt s i)]) ?_ 0 _ _
    (by repeat (first | exact subL.nil _ | refine subL.cons rfl ?_)) rfl
  rintro i M' rfl
  repeat' first
    | refine WC.seq ?_
    | refine WC.block ?_
    | refine WC.region ?_
    | refine WC.skip ?_
    | refine WC.exit ?_
    | refine WC.drop (List.nil_sublist _) (WC.ret ?_)
    | refine WC.cond_t rfl (by first | assumption | rfl) ?_
    | refine WC.cond_f rfl (by first | assumption | rfl) ?_
    | refine WC.cond rfl (fun hc => ?_) (fun hc => ?_)
    | refine WO.nil ?_
    | refine WO.cons ?_
    | refine W1.mv rfl ?_
    | refine W1.nxt rfl (fun w => .here) (fun hlt c w hw => ?_) (fun hge => ?_)
    | refine W1.ext rfl rfl ?_
    | refine W1.lss rfl rfl ?_
    | refine W1.gtr rfl rfl ?_
    | refine W1.leq rfl rfl ?_
    | refine W1.eql rfl rfl ?_
    | refine W1.neq rfl rfl ?_
    | refine W1.not rfl ?_
    | refine W1.lenS rfl ?_
    | refine W1.cmpS rfl rfl (by simp) rfl (fun t _ => ?_)
    | refine W1.guard_u rfl ?_
    | refine W1.guard_y rfl (by first | assumption | rfl) ?_
    | refine W1.guard_n rfl (by first | assumption | rfl) ?_
    | refine W1.guard rfl (fun hc => ?_) (fun hc => ?_)
    | refine W1.pick_t rfl (by first | assumption | rfl) rfl ?_
    | refine W1.pick_f rfl (by first | assumption | rfl) rfl ?_
    | refine Exists.intro _ (And.intro (Res.tmp rfl Res.nil) ?_)
  all_goals first
    | exact ⟨rfl, _, rfl⟩
    | exact ⟨w, by omega, by repeat (first | exact subL.nil _ | refine subL.cons rfl ?_), rfl⟩
end Go.Ax
end
section
namespace Go.Ax
open Go.Ax.Ir
theorem WV.less {ft : FT FnR} {g : Gz} {f : V} {args : List V} {M M' : Mem} {K : V → Mem → Prop} (hs : M'.Sublist M) (h : WV ft g f args M' K) : WV ft g f args M K := by
  intro hh hsat
  obtain ⟨n, v, h', M1, h1, h2, h3, h4⟩ := h hh (hsat.sub hs)
  exact ⟨n, v, h', M1, h1, h2, ⟨h3.n, fun b hb hn => h3.keep b hb fun p hp => hn p (hs.subset hp), fun p hp => by
    rcases h3.from_ p hp with ⟨p0, q1, q2⟩ | q1
    · exact Or.inl ⟨p0, hs.subset q1, q2⟩
    · exact Or.inr q1⟩, h4⟩
theorem splAll {Z p : List V} (h : p.length = Z.length) : splice Z 0 p = p := by simp [splice, h]
theorem W1.stAll {ft : FT FnR} {g : Gz} {L : Env} {M : Mem} {K : Env → Mem → Prop} {a x : Opd} {b e : Nat} {Z p : List V} {M' : Mem} (ha : lkO L a = some (.ptr b 0)) (hx : lkO L x = some (.agg p)) (hn : p.length = e) (hz : Z.length = e) (hsc : p.all V.scalar = true) (hu : Up M b (Arr1 Z {}) (Arr1 p {}) M') (h : K L M') : W1 ft g ⟨none, .st e a x, none⟩ L M K :=
  W1.st ha hx hn hsc (by rw [show (V.agg p).cells = p from rfl, splAll (hn.trans hz.symm)]; exact hu) (by rw [hz]; omega) h
attribute [local irreducible] W1 WO WC WD WF WV
theorem f79 {g : Gz} {M : Mem} {s fv : V} {n : Nat} {row : Nat → List V} (hs : SlcR g M s n 4 row) (hn : n ≤ 1000000000000)
    (hf : ∀ i, i < n → WV tbl g fv [.agg (row i)] M fun v M' => M' = M ∧ ∃ t, v = .bool t) :
    WF tbl g 79 [s, fv] M fun v M' => M' = M ∧ ∃ k : Int, v = .int .i64 k := by
  refine WF.intro rfl (Nat.le_of_ble_eq_true rfl) ?_
  repeat' first
    | refine W1.lenSlc rfl hs.1 ?_
    | (refine WC.forR (n := n) [0, 1, 6, 7] (fun _ (_ : Unit) => []) (fun i _ M' => M' = M) () hn rfl (fun _ _ => rfl) (fun _ _ => rfl) (fun _ _ => rfl) (fun _ _ => rfl) ⟨rfl, rfl⟩ (subL.nil _) rfl ?_ ?_ <;> first | rintro i a M' hi rfl | rintro a M' rfl)
    | refine W1.iaRow rfl rfl hs (by omega) (by omega) (fun b o hrd => ?_)
    | refine W1.ldV (vs := row i) rfl (hs.2.2 i hi) hrd ?_
    | (refine W1.callV rfl rfl ((hf i hi).mono fun v M' => ?_); rintro ⟨rfl, e, rfl⟩)
    | refine WC.ret ?_
    | refine WC.seq ?_
    | refine WC.block ?_
    | refine WC.region ?_
    | refine WC.skip ?_
    | refine WC.cond rfl (fun hc => ?_) (fun hc => ?_)
    | refine WO.nil ?_
    | refine WO.cons ?_
    | refine W1.mv rfl ?_
    | refine Exists.intro _ (And.intro (Res.tmp rfl Res.nil) ?_)
  · exact ⟨rfl, _, rfl⟩
  · exact ⟨(), _, [], rfl, by repeat (first | exact subL.nil _ | refine subL.cons rfl ?_), List.Perm.refl _, rfl⟩
  · exact ⟨rfl, _, rfl⟩
theorem f42 {g : Gz} {M : Mem} {s fv : V} {n : Nat} {row : Nat → List V} (hs : SlcR g M s n 4 row) (hn : n ≤ 1000000000000)
    (hf : ∀ i, i < n → WV tbl g fv [.agg (row i)] M fun v M' => M' = M ∧ ∃ t, v = .bool t) :
    WF tbl g 42 [s, fv] M fun v M' => M' = M ∧ ∃ t, v = .bool t := by
  refine WF.intro rfl (Nat.le_of_ble_eq_true rfl) ?_
  repeat' first
    | (refine W1.callV rfl rfl (WV.func ((f79 hs hn hf).mono fun v M' => ?_)); rintro ⟨rfl, k, rfl⟩)
    | refine WC.ret ?_
    | refine WC.seq ?_
    | refine WC.region ?_
    | refine WO.nil ?_
    | refine WO.cons ?_
    | refine W1.mv rfl ?_
    | refine W1.geq rfl rfl ?_
    | refine Exists.intro _ (And.intro (Res.tmp rfl Res.nil) ?_)
  exact ⟨rfl, _, rfl⟩
end Go.Ax
end
section
namespace Go.Ax
open Go.Ax.Ir
def stepR (sa sb : Nat → Int) : Nat → List V := fun j => [.int .i64 (sa j), .int .i64 (sb j)]
structure RwD where
  sF : V
  sS : V
  bench : Int
  nF : Nat
  nS : Nat
  nm : Nat → List UInt8
  has : Nat → Int
  br : Nat → Bool
  wants : Nat → Int
  sa : Nat → Int
  sb : Nat → Int
def RwD.fig (t : RwD) : Nat → List V := fun i => [.str (t.nm i), .int .i64 (t.has i), .bool (t.br i), .int .i64 (t.wants i)]
def RwD.cells (t : RwD) : List V := [t.sF, t.sS, .int .i64 t.bench]
structure RwOk (g : Gz) (t : RwD) : Prop where
  hF : SlcR g [] t.sF t.nF 4 t.fig
  hS : SlcR g [] t.sS t.nS 2 (stepR t.sa t.sb)
  nF : t.nF ≤ 1000000000
  nS : t.nS ≤ 1000000000
  cF : t.sF.scalar = true
  cS : t.sS.scalar = true
theorem RwOk.lessG {g g' : Gz} (hg : g.le g') {t : RwD} (h : RwOk g t) : RwOk g' t :=
  ⟨h.hF.lessG hg, h.hS.lessG hg, h.nF, h.nS, h.cF, h.cS⟩
theorem RwOk.sc3 {g : Gz} {t : RwD} (h : RwOk g t) : (V.agg t.cells).cells.all V.scalar = true := by
  simp [V.cells, RwD.cells, h.cF, h.cS]; rfl
structure RwVal (t : RwD) : Prop where
  nF : t.nF ≤ 5
  st : ∀ j, j < t.nS → 0 ≤ t.sa j ∧ t.sa j < t.sb j ∧ t.sb j < t.nF
  dist : ∀ i j, i < j → j < t.nS → ¬ (t.sa i = t.sa j ∧ t.sb i = t.sb j)
  bench : -1 ≤ t.bench ∧ t.bench < t.nF
attribute [local irreducible] W1 WO WC WD WF WV
theorem f44one {g : Gz} {M M1 : Mem} {b : Nat} {lo hi x : Int} (h : At M b (Arr1 [.int .i64 x] {}) M1) :
    WF tbl g 44 [.int .i64 lo, .int .i64 hi, .slice b 0 1 (some 1) 1] M fun v M' => M' = M ∧ ∃ t, v = .bool t ∧ (t = false → lo ≤ x ∧ x ≤ hi) :=
  (f44 (num := fun _ => x) (Slc.row h (by simp) (fun j hj k hk => by
    obtain rfl : j = 0 := by omega
    obtain rfl : k = 0 := by omega
    rfl)) (by omega)).mono fun v M' ⟨h1, t, h2, h3⟩ => ⟨h1, t, h2, fun ht => h3 ht 0 (by omega)⟩
theorem f44two {g : Gz} {M M1 : Mem} {b : Nat} {lo hi x y : Int} (h : At M b (Arr1 [.int .i64 x, .int .i64 y] {}) M1) :
    WF tbl g 44 [.int .i64 lo, .int .i64 hi, .slice b 0 2 (some 2) 1] M fun v M' => M' = M ∧ ∃ t, v = .bool t ∧ (t = false → (lo ≤ x ∧ x ≤ hi) ∧ lo ≤ y ∧ y ≤ hi) :=
  (f44 (num := fun j => if j = 0 then x else y) (Slc.row h (by simp) (fun j hj k hk => by
    obtain rfl : k = 0 := by omega
    rcases j with _ | _ | j
    · rfl
    · rfl
    · omega)) (by omega)).mono fun v M' ⟨h1, t, h2, h3⟩ => ⟨h1, t, h2, fun ht => ⟨h3 ht 0 (by omega), h3 ht 1 (by omega)⟩⟩
theorem f39 {g : Gz} {M : Mem} {s fv : V} {n : Nat} {row : Nat → List V} {R : Nat → Int → Prop} (hs : SlcR g M s n 4 row) (hn : n ≤ 1000000000000) (hsc : ∀ i, i < n → (row i).all V.scalar = true)
    (hf : ∀ i, i < n → WV tbl g fv [.int .i64 i, .agg (row i)] M fun v M' => M' = M ∧ ∃ e, v = .int .i64 e ∧ R i e) :
    WF tbl g 39 [s, fv] M fun v M' => M' = M ∧ ∃ a e, v = .tup [.int .i64 a, .int .i64 e] ∧ (e = 0 → ∀ i, i < n → R i 0) := by
  refine WF.intro rfl (Nat.le_of_ble_eq_true rfl) ?_
  repeat' first
    | refine W1.lenSlc rfl hs.1 ?_
    | (refine WC.forR (n := n) [1, 9, 10] (fun _ (_ : Unit) => []) (fun i _ M' => M' = M ∧ ∀ j, j < i → R j 0) () hn rfl (fun _ _ => rfl) (fun _ _ => rfl) (fun _ _ => rfl) (fun _ _ => rfl) ⟨rfl, rfl⟩ (subL.nil _) ⟨rfl, fun j h => absurd h (Nat.not_lt_zero _)⟩ ?_ ?_ <;> first | rintro i a M' hi ⟨rfl, hR⟩ | rintro a M' ⟨rfl, hR⟩)
    | refine W1.iaRow rfl rfl hs (by omega) (by omega) (fun b o hrd => ?_)
    | refine W1.ldV (vs := row i) rfl (hs.2.2 i hi) hrd ?_
    | refine W1.stAll rfl rfl (hs.2.2 i hi) rfl (hsc i hi) .here ?_
    | refine W1.ldAll rfl .here (hs.2.2 i hi) ?_
    | (refine W1.callV rfl rfl (WV.less (List.sublist_cons_self _ _) ((hf i hi).mono fun v M' => ?_)); rintro ⟨rfl, e, rfl, he⟩)
    | refine WC.ret ?_
    | refine WC.seq ?_
    | refine WC.block ?_
    | refine WC.region ?_
    | refine WC.skip ?_
    | refine WC.cond rfl (fun hc => ?_) (fun hc => ?_)
    | refine WO.nil ?_
    | refine WO.cons ?_
    | refine W1.mv rfl ?_
    | refine W1.neq rfl rfl ?_
    | refine W1.alloc rfl (fun bb => ?_)
    | refine Exists.intro _ (And.intro (Res.tmp rfl (Res.tmp rfl Res.nil)) ?_)
  · exact ⟨rfl, _, _, rfl, fun h => absurd h (by simpa using ‹(!decide (e = 0)) = true›)⟩
  · have h0 : e = 0 := by simpa using ‹(!decide (e = 0)) = false›
    refine ⟨(), _, [], rfl, by repeat (first | exact subL.nil _ | refine subL.cons rfl ?_), List.Perm.refl _, rfl, fun j hj => ?_⟩
    by_cases hji : j < i
    · exact hR j hji
    · obtain rfl : j = i := by omega
      exact h0 ▸ he
  · exact ⟨rfl, _, _, rfl, fun _ => hR⟩
theorem f45 {g : Gz} {M : Mem} {s fv : V} {n : Nat} {row : Nat → List V} {R : Nat → Int → Prop} (hs : SlcR g M s n 2 row) (hn : n ≤ 1000000000000) (hsc : ∀ i, i < n → (row i).all V.scalar = true)
    (hf : ∀ i, i < n → WV tbl g fv [.int .i64 i, .agg (row i)] M fun v M' => M' = M ∧ ∃ e, v = .int .i64 e ∧ R i e) :
    WF tbl g 45 [s, fv] M fun v M' => M' = M ∧ ∃ a e, v = .tup [.int .i64 a, .int .i64 e] ∧ (e = 0 → ∀ i, i < n → R i 0) := by
  refine WF.intro rfl (Nat.le_of_ble_eq_true rfl) ?_
  repeat' first
    | refine W1.lenSlc rfl hs.1 ?_
    | (refine WC.forR (n := n) [1, 9, 10] (fun _ (_ : Unit) => []) (fun i _ M' => M' = M ∧ ∀ j, j < i → R j 0) () hn rfl (fun _ _ => rfl) (fun _ _ => rfl) (fun _ _ => rfl) (fun _ _ => rfl) ⟨rfl, rfl⟩ (subL.nil _) ⟨rfl, fun j h => absurd h (Nat.not_lt_zero _)⟩ ?_ ?_ <;> first | rintro i a M' hi ⟨rfl, hR⟩ | rintro a M' ⟨rfl, hR⟩)
    | refine W1.iaRow rfl rfl hs (by omega) (by omega) (fun b o hrd => ?_)
    | refine W1.ldV (vs := row i) rfl (hs.2.2 i hi) hrd ?_
    | refine W1.stAll rfl rfl (hs.2.2 i hi) rfl (hsc i hi) .here ?_
    | refine W1.ldAll rfl .here (hs.2.2 i hi) ?_
    | (refine W1.callV rfl rfl (WV.less (List.sublist_cons_self _ _) ((hf i hi).mono fun v M' => ?_)); rintro ⟨rfl, e, rfl, he⟩)
    | refine WC.ret ?_
    | refine WC.seq ?_
    | refine WC.block ?_
    | refine WC.region ?_
    | refine WC.skip ?_
    | refine WC.cond rfl (fun hc => ?_) (fun hc => ?_)
    | refine WO.nil ?_
    | refine WO.cons ?_
    | refine W1.mv rfl ?_
    | refine W1.neq rfl rfl ?_
    | refine W1.alloc rfl (fun bb => ?_)
    | refine Exists.intro _ (And.intro (Res.tmp rfl (Res.tmp rfl Res.nil)) ?_)
  · exact ⟨rfl, _, _, rfl, fun h => absurd h (by simpa using ‹(!decide (e = 0)) = true›)⟩
  · have h0 : e = 0 := by simpa using ‹(!decide (e = 0)) = false›
    refine ⟨(), _, [], rfl, by repeat (first | exact subL.nil _ | refine subL.cons rfl ?_), List.Perm.refl _, rfl, fun j hj => ?_⟩
    by_cases hji : j < i
    · exact hR j hji
    · obtain rfl : j = i := by omega
      exact h0 ▸ he
  · exact ⟨rfl, _, _, rfl, fun _ => hR⟩
set_option maxHeartbeats 1000000 in
theorem f82 {g : Gz} {M : Mem} {s : V} {n : Nat} {sa sb : Nat → Int} {x y : Int} (hs : SlcR g M s n 2 (stepR sa sb)) (hn : n ≤ 1000000000000) :
    WF tbl g 82 [s, .agg [.int .i64 x, .int .i64 y]] M fun v M' => M' = M ∧ ∃ k : Int, v = .int .i64 k ∧ (0 ≤ k → ∃ j, j < n ∧ sa j = x ∧ sb j = y) ∧ (k < 0 → ∀ j, j < n → ¬ (sa j = x ∧ sb j = y)) := by
  refine WF.trimS (WF.intro rfl (Nat.le_of_ble_eq_true rfl) ?_)
  repeat' first
    | refine W1.box rfl rfl (fun b3 => ?_)
    | refine W1.lenSlc rfl hs.cons.1 ?_
    | (refine WC.forR (n := n) [0, 3, 7] (fun _ (_ : Unit) => []) (fun i _ M' => M' = (b3, Arr1 [.int .i64 x, .int .i64 y] {}) :: M ∧ ∀ j, j < i → ¬ (sa j = x ∧ sb j = y)) () hn rfl (fun _ _ => rfl) (fun _ _ => rfl) (fun _ _ => rfl) (fun _ _ => rfl) ⟨rfl, rfl⟩ (subL.nil _) ⟨rfl, fun j h => absurd h (Nat.not_lt_zero _)⟩ ?_ ?_ <;> first | rintro i a M' hi ⟨rfl, hR⟩ | rintro a M' ⟨rfl, hR⟩)
    | refine W1.ldAll rfl .here rfl (conjR (ReC.ldAll rfl rfl .here rfl) (by simp) ?_)
    | (refine W1.iaRow rfl rfl hs.cons (by omega) (by omega) (fun b o hrd => ?_); rw [Int.toNat_natCast] at hrd)
    | refine W1.ldV (vs := [.int .i64 (sa i), .int .i64 (sb i)]) rfl rfl hrd (conjR (ReC.ldV rfl rfl rfl hrd) (by simp) ?_)
    | refine W1.eqv rfl rfl rfl ?_
    | refine WC.ret ?_
    | refine WC.seq ?_
    | refine WC.block ?_
    | refine WC.region ?_
    | refine WC.draw ?_
    | refine WC.skip ?_
    | refine WC.cond rfl (fun hc => ?_) (fun hc => ?_)
    | refine WO.nil ?_
    | refine WO.cons ?_
    | refine WD.nil ?_
    | refine WD.cons0 ?_
    | refine WD.consR ?_
    | refine W1.mv rfl ?_
    | refine Exists.intro _ (And.intro (Res.tmp rfl Res.nil) ?_)
  · have h1 : x = sa i ∧ y = sb i := by simpa using hc
    exact ⟨by repeat (first | exact Suf.refl | apply Suf.cons), i, rfl, fun _ => ⟨i, hi, h1.1.symm, h1.2.symm⟩, fun h => by omega⟩
  · refine ⟨(), _, [], rfl, by repeat (first | exact subL.nil _ | refine subL.cons rfl ?_), List.Perm.refl _, rfl, fun j hj => ?_⟩
    by_cases hji : j < i
    · exact hR j hji
    · obtain rfl : j = i := by omega
      rintro ⟨h1, h2⟩
      simp [h1, h2] at hc
  · exact ⟨by repeat (first | exact Suf.refl | apply Suf.cons), -1, rfl, fun h => by omega, fun _ => hR⟩
theorem f47 {g : Gz} {M : Mem} {s : V} {n : Nat} {sa sb : Nat → Int} {x y : Int} (hs : SlcR g M s n 2 (stepR sa sb)) (hn : n ≤ 1000000000000) :
    WF tbl g 47 [s, .agg [.int .i64 x, .int .i64 y]] M fun v M' => M' = M ∧ ∃ t, v = .bool t ∧ (t = true → ∃ j, j < n ∧ sa j = x ∧ sb j = y) ∧ (t = false → ∀ j, j < n → ¬ (sa j = x ∧ sb j = y)) := by
  refine WF.trimS (WF.intro rfl (Nat.le_of_ble_eq_true rfl) ?_)
  repeat' first
    | refine W1.box rfl rfl (fun b3 => ?_)
    | refine W1.ldAll rfl .here rfl ?_
    | (refine W1.callV rfl rfl (WV.func ((f82 hs.cons hn).mono fun v M' => ?_)); rintro ⟨rfl, k, rfl, h1, h2⟩)
    | refine WC.ret ?_
    | refine WC.seq ?_
    | refine WC.region ?_
    | refine WO.nil ?_
    | refine WO.cons ?_
    | refine W1.mv rfl ?_
    | refine W1.geq rfl rfl ?_
    | refine Exists.intro _ (And.intro (Res.tmp rfl Res.nil) ?_)
  exact ⟨by repeat (first | exact Suf.refl | apply Suf.cons), _, rfl, fun h => h1 (by simpa using h), fun h => h2 (by simpa using h)⟩
theorem f43 {g : Gz} {M M1 : Mem} {nm nm2 : List UInt8} {a c : Int} {b : Bool} {r : List V} {bp : Nat} (h : At M bp (Arr1 (.str nm2 :: r) {}) M1) :
    WF tbl g 43 [.agg [.str nm, .int .i64 a, .bool b, .int .i64 c], .ptr bp 0] M fun v M' => M' = M ∧ ∃ e, v = .bool e := by
  refine WF.trimS (WF.intro rfl (Nat.le_of_ble_eq_true rfl) ?_)
  repeat' first
    | refine W1.binStr rfl rfl rfl ?_
    | refine WC.ret ?_
    | refine WC.seq ?_
    | refine WC.region ?_
    | refine WO.nil ?_
    | refine WO.cons ?_
    | refine W1.mv rfl ?_
    | refine W1.fa rfl ?_
    | refine W1.box rfl rfl (fun bb => ?_)
    | refine Exists.intro _ (And.intro (Res.tmp rfl Res.nil) ?_)
    | refine W1.ldS rfl .here rfl ?_
    | refine W1.ldS rfl (.there h) rfl ?_
  exact ⟨by repeat (first | exact Suf.refl | apply Suf.cons), _, rfl⟩
end Go.Ax
end
section
namespace Go.Ax
open Go.Ax.Ir
attribute [local irreducible] W1 WO WC WD WF WV
set_option maxHeartbeats 1000000 in
theorem f40 {g : Gz} {M M1 : Mem} {t : RwD} {b1 i : Nat} (ok : RwOk g t) (hi : i < t.nF) (h1 : At M b1 (Arr1 t.cells {}) M1) :
    WF tbl g 40 [.int .i64 i, .agg (t.fig i), .ptr b1 0] M fun v M' => M' = M ∧ ∃ e, v = .int .i64 e := by
  have hnf := ok.nF
  have h43 : ∀ (bp : Nat) (M M1 : Mem) r nm2, At M bp (Arr1 (.str nm2 :: r) {}) M1 → ∀ k, k < t.nF → WV tbl g (.func 43 [] [.ptr bp 0]) [.agg (t.fig k)] M fun v M' => M' = M ∧ ∃ t, v = .bool t := by
    intro bp M M1 r nm2 h k hk
    exact WV.func (f43 h)
  refine WF.trimS (WF.intro rfl (Nat.le_of_ble_eq_true rfl) ?_)
  repeat' first
    | refine W1.box rfl rfl (fun b4 => ?_)
    | (refine W1.callP rfl f41 (fun v hv => ?_); obtain ⟨tn, rfl⟩ := hv)
    | refine W1.slcToD rfl rfl ok.hF (by omega) (by omega) (fun s' hs' => ?_)
    | (refine W1.callV rfl rfl (WV.func ((f42 hs'.up (by omega) (fun k hk => h43 _ _ _ _ _ .here k (by omega))).mono fun v M' => ?_)); rintro ⟨rfl, tt, rfl⟩)
    | (refine W1.callV rfl rfl (WV.func ((f44one .here).mono fun v M' => ?_)); rintro ⟨rfl, tt, rfl, ht⟩)
    | refine W1.ldS rfl (.there h1) rfl ?_
    | refine W1.ldS rfl .here rfl ?_
    | refine W1.ldS rfl (.there .here) rfl ?_
    | refine WC.ret ?_
    | refine WC.seq ?_
    | refine WC.block ?_
    | refine WC.region ?_
    | refine WC.skip ?_
    | refine WC.cond_t rfl (by first | assumption | rfl) ?_
    | refine WC.cond rfl (fun hc => ?_) (fun hc => ?_)
    | refine WO.nil ?_
    | refine WO.cons ?_
    | refine W1.guard_y rfl (by first | assumption | rfl) ?_
    | refine W1.guard_n rfl (by first | assumption | rfl) ?_
    | refine W1.guard rfl (fun hc => ?_) (fun hc => ?_)
    | refine W1.pick_t rfl (by first | assumption | rfl) rfl ?_
    | refine W1.pick_f rfl (by first | assumption | rfl) rfl ?_
    | refine W1.mv rfl ?_
    | refine W1.fa rfl ?_
    | refine W1.mkfn rfl rfl ?_
    | refine W1.not rfl ?_
    | refine W1.bldS rfl rfl rfl (fun bb => ?_)
    | refine Exists.intro _ (And.intro (Res.tmp rfl Res.nil) ?_)
  all_goals exact ⟨by repeat (first | exact Suf.refl | apply Suf.cons), _, rfl⟩
set_option maxHeartbeats 1000000 in
theorem f46 {g : Gz} {M M1 M2 : Mem} {t : RwD} {b1 bl i : Nat} {last : Int} (ok : RwOk g t) (hi : i < t.nS) (hl : At M bl (Arr1 [.int .i64 last] {}) M2) (h1 : At M b1 (Arr1 t.cells {}) M1) :
    WF tbl g 46 [.int .i64 i, .agg (stepR t.sa t.sb i), .ptr bl 0, .ptr b1 0] M fun v M' => M' = M ∧ ∃ e, v = .int .i64 e ∧ (e = 0 → (0 ≤ t.sa i ∧ t.sa i < t.sb i ∧ t.sb i ≤ last) ∧ ∀ j, j < i → ¬ (t.sa j = t.sa i ∧ t.sb j = t.sb i)) := by
  have hns := ok.nS
  refine WF.trimS (WF.intro rfl (Nat.le_of_ble_eq_true rfl) ?_)
  repeat' first
    | refine W1.box rfl rfl (fun b5 => ?_)
    | refine W1.slcToD rfl rfl ok.hS (by omega) (by omega) (fun s' hs' => ?_)
    | (refine W1.callV rfl rfl (WV.func ((f44two .here).mono fun v M' => ?_)); rintro ⟨rfl, tt, rfl, ht⟩)
    | (refine W1.callV rfl rfl (WV.func ((f47 hs'.up (by omega)).mono fun v M' => ?_)); rintro ⟨rfl, tc, rfl, hc1, hc2⟩)
    | refine W1.ldS rfl (.there (.there h1)) rfl (conjR (ReC.ldS rfl rfl (.there (.there h1)) rfl) (by simp) ?_)
    | refine W1.ldS rfl (.there hl) rfl ?_
    | refine W1.ldAll rfl (.there .here) rfl (conjR (ReC.ldAll rfl rfl (.there .here) rfl) (by simp) ?_)
    | refine W1.ldS rfl .here rfl ?_
    | refine W1.ldS rfl (.there .here) rfl ?_
    | refine WC.ret ?_
    | refine WC.seq ?_
    | refine WC.block ?_
    | refine WC.region ?_
    | refine WC.draw ?_
    | refine WC.skip ?_
    | refine WC.cond rfl (fun hc => ?_) (fun hc => ?_)
    | refine WO.nil ?_
    | refine WO.cons ?_
    | refine WD.nil ?_
    | refine WD.cons0 ?_
    | refine WD.consH ?_
    | refine WD.consR ?_
    | refine W1.mv rfl ?_
    | refine W1.fa rfl ?_
    | refine W1.geq rfl rfl ?_
    | refine W1.bldS rfl rfl rfl (fun bb => ?_)
    | refine Exists.intro _ (And.intro (Res.tmp rfl Res.nil) ?_)
  iterate 3 exact ⟨by repeat (first | exact Suf.refl | apply Suf.cons), _, rfl, fun h => by cases h⟩
  have hlt := of_decide_eq_false ‹decide (t.sb i ≤ t.sa i) = false›
  have ht' := ht (by assumption)
  exact ⟨by repeat (first | exact Suf.refl | apply Suf.cons), _, rfl, fun _ => ⟨⟨by omega, by omega, by omega⟩, fun j hj => hc2 hc j (by omega)⟩⟩
set_option maxHeartbeats 2000000 in
theorem f7 {g : Gz} {M : Mem} {t : RwD} (ok : RwOk g t) : WF tbl g 7 [.agg t.cells] M fun v M' => M' = M ∧ ∃ p a e, v = .tup [.int .i64 p, .int .i64 a, .int .i64 e] ∧ (e = 0 → RwVal t) := by
  have hnf := ok.nF
  have hns := ok.nS
  have h40 : ∀ {M M1 : Mem} {b1 i : Nat}, i < t.nF → At M b1 (Arr1 t.cells {}) M1 → WV tbl g (.func 40 [] [.ptr b1 0]) [.int .i64 i, .agg (t.fig i)] M fun v M' => M' = M ∧ ∃ e, v = .int .i64 e ∧ True :=
    fun hi h1 => WV.func ((f40 ok hi h1).mono fun v M' ⟨h1, e, h2⟩ => ⟨h1, e, h2, trivial⟩)
  refine WF.trimS (WF.intro rfl (Nat.le_of_ble_eq_true rfl) ?_)
  repeat' first
    | refine W1.box rfl ok.sc3 (fun b1 => ?_)
    | refine W1.alloc (d := 5) rfl (fun b5 => ?_)
    | refine W1.lenSlc rfl ok.hF.up.1 ?_
    | (refine W1.callV rfl rfl (WV.func ((f39 (R := fun _ _ => True) ok.hF.up (by omega) (fun _ _ => rfl) (fun i hi => h40 hi .here)).mono fun v M' => ?_)); rintro ⟨rfl, a3, e3, rfl, q3⟩)
    | (refine W1.callV rfl rfl (WV.func ((f45 (R := fun i e => e = 0 → (0 ≤ t.sa i ∧ t.sa i < t.sb i ∧ t.sb i ≤ (t.nF : Int) - 1) ∧ ∀ j, j < i → ¬ (t.sa j = t.sa i ∧ t.sb j = t.sb i)) ok.hS.up (by omega) (fun _ _ => rfl) (fun i hi => WV.func (f46 ok hi .here (.there .here)))).mono fun v M' => ?_)); rintro ⟨rfl, a4, e4, rfl, q4⟩)
    | (refine W1.callV rfl rfl (WV.func ((f44one .here).mono fun v M' => ?_)); rintro ⟨rfl, tt, rfl, ht⟩)
    | refine W1.sub rfl rfl (by omega) (by omega) ?_
    | refine WC.ret ?_
    | refine WC.seq ?_
    | refine WC.block ?_
    | refine WC.region ?_
    | refine WC.skip ?_
    | refine WC.cond rfl (fun hc => ?_) (fun hc => ?_)
    | refine WO.nil ?_
    | refine WO.cons ?_
    | refine W1.mv rfl ?_
    | refine W1.fa rfl ?_
    | refine W1.ext rfl rfl ?_
    | refine W1.mkfn rfl rfl ?_
    | refine W1.gtr rfl rfl ?_
    | refine W1.neq rfl rfl ?_
    | refine W1.bldS rfl rfl rfl (fun bb => ?_)
    | refine Exists.intro _ (And.intro (Res.tmp rfl (Res.tmp rfl (Res.tmp rfl Res.nil))) ?_)
    | refine W1.ldS rfl .here rfl ?_
    | refine W1.ldS rfl (.there .here) rfl ?_
    | refine W1.st rfl rfl rfl rfl .here (Nat.le_of_ble_eq_true rfl) ?_
  · exact ⟨by repeat (first | exact Suf.refl | apply Suf.cons), _, _, _, rfl, fun h => by cases h⟩
  · exact ⟨by repeat (first | exact Suf.refl | apply Suf.cons), _, _, _, rfl, fun h => absurd h (by simpa using hc)⟩
  · exact ⟨by repeat (first | exact Suf.refl | apply Suf.cons), _, _, _, rfl, fun h => absurd h (by simpa using hc)⟩
  · exact ⟨by repeat (first | exact Suf.refl | apply Suf.cons), _, _, _, rfl, fun h => by cases h⟩
  · have h5 := of_decide_eq_false ‹decide (5 < (t.nF : Int)) = false›
    have h4 := q4 (by simpa using ‹(!decide (e4 = 0)) = false›)
    have hb := ht hc
    exact ⟨by repeat (first | exact Suf.refl | apply Suf.cons), _, _, _, rfl, fun _ => ⟨by omega, fun j hj => by have := (h4 j hj rfl).1; omega, fun i j hij hj => (h4 j hj rfl).2 i hij, by omega⟩⟩
end Go.Ax
end
section
namespace Go.Ax
open Go.Ax.Ir
def P5 (k : Nat → Int) (b : Nat → Bool) : List V := [.int .i64 (k 0), .bool (b 0), .int .i64 (k 1), .bool (b 1), .int .i64 (k 2), .bool (b 2), .int .i64 (k 3), .bool (b 3), .int .i64 (k 4), .bool (b 4)]
def KA (t : RwD) : List Int := 0 :: (List.range t.nF).map t.has
def PtOk (t : RwD) (p : List V) : Prop := ∃ k b, p = P5 k b ∧ ∀ i, i < 5 → k i ∈ KA t
theorem PtOk.len {t : RwD} {p : List V} (h : PtOk t p) : p.length = 10 := by obtain ⟨k, b, rfl, _⟩ := h; rfl
theorem PtOk.sc {t : RwD} {p : List V} (h : PtOk t p) : p.all V.scalar = true := by obtain ⟨k, b, rfl, _⟩ := h; rfl
theorem PtOk.zero {t : RwD} : PtOk t [.int .i64 0, .bool false, .int .i64 0, .bool false, .int .i64 0, .bool false, .int .i64 0, .bool false, .int .i64 0, .bool false] :=
  ⟨fun _ => 0, fun _ => false, rfl, fun _ _ => List.mem_cons_self ..⟩
theorem KA.has {t : RwD} {i : Nat} (h : i < t.nF) : t.has i ∈ KA t := List.mem_cons_of_mem _ (List.mem_map.2 ⟨i, List.mem_range.2 h, rfl⟩)
theorem P5.set {k : Nat → Int} {b : Nat → Bool} {i : Nat} (hi : i < 5) (x : Int) (y : Bool) : splice (P5 k b) (0 + i * 2) [.int .i64 x, .bool y] = P5 (fun j => if j = i then x else k j) (fun j => if j = i then y else b j) := by
  rcases (show i = 0 ∨ i = 1 ∨ i = 2 ∨ i = 3 ∨ i = 4 by omega) with rfl | rfl | rfl | rfl | rfl <;> rfl
theorem PtOk.set {t : RwD} {p : List V} (h : PtOk t p) {i : Nat} (hi : i < 5) {x : Int} {y : Bool} (hx : x ∈ KA t) : PtOk t (splice p (0 + i * 2) [.int .i64 x, .bool y]) := by
  obtain ⟨k, b, rfl, hk⟩ := h
  refine ⟨_, _, P5.set hi x y, fun j hj => ?_⟩
  by_cases e : j = i
  · simp only [if_pos e]; exact hx
  · simp only [if_neg e]; exact hk j hj
theorem spl3 {a b c : V} {p : List V} {i : Nat} {vs : List V} : splice (a :: b :: c :: p) (0 + 3 + i * 2) vs = a :: b :: c :: splice p (0 + i * 2) vs := by
  simp [splice, Nat.add_comm 3 (i * 2)]
  rw [show i * 2 + 3 + vs.length = (i * 2 + vs.length) + 3 by omega]; simp
abbrev Z10 : List V := [.int .i64 0, .bool false, .int .i64 0, .bool false, .int .i64 0, .bool false, .int .i64 0, .bool false, .int .i64 0, .bool false]
theorem RwOk.scP {g : Gz} {t : RwD} (h : RwOk g t) {p : List V} (hp : p.all V.scalar = true) : (t.cells ++ p).all V.scalar = true := by
  have := h.sc3
  simp only [V.cells] at this
  rw [List.all_append, this, hp]; rfl
theorem W1.stPt {ft : FT FnR} {g : Gz} {L : Env} {M M' : Mem} {K : Env → Mem → Prop} {t : RwD} {a x : Opd} {b i : Nat} {p : List V} {z : Int} {y : Bool} (ha : lkO L a = some (.ptr b (0 + 3 + ((i : Int)).toNat * 2))) (hx : lkO L x = some (.agg [.int .i64 z, .bool y])) (hi : i < 5) (hl : p.length = 10)
    (hu : Up M b (Arr1 (t.cells ++ p) {}) (Arr1 (t.cells ++ splice p (0 + i * 2) [.int .i64 z, .bool y]) {}) M') (h : K L M') : W1 ft g ⟨none, .st 2 a x, none⟩ L M K := by
  rw [Int.toNat_natCast] at ha
  refine W1.st (v := .agg [.int .i64 z, .bool y]) (cs := t.cells ++ p) ha hx rfl rfl ?_ (by simp [RwD.cells]; omega) h
  rw [show splice (t.cells ++ p) (0 + 3 + i * 2) (V.agg [.int .i64 z, .bool y]).cells = t.cells ++ splice p (0 + i * 2) [.int .i64 z, .bool y] from spl3]
  exact hu
attribute [local irreducible] W1 WO WC WD WF WV
set_option maxHeartbeats 2000000 in
theorem f48 {g : Gz} {M : Mem} {t : RwD} (ok : RwOk g t) : WF tbl g 48 [.agg t.cells] M fun v M' => (∃ e, e ≠ 0 ∧ v = .tup [.nilptr, .int .i64 e] ∧ M' = M) ∨ ∃ bT p, v = .tup [.ptr bT 0, .int .i64 0] ∧ RwVal t ∧ PtOk t p ∧ M' = (bT, Arr1 (t.cells ++ p) {}) :: M := by
  have hbx := ok.scP (p := Z10) rfl
  refine WF.trim (WF.intro rfl (Nat.le_of_ble_eq_true rfl) ?_)
  repeat' first
    | refine W1.box (d := 1) rfl ok.sc3 (fun b1 => ?_)
    | refine W1.box (d := 21) rfl hbx (fun bT => ?_)
    | (refine W1.callV rfl rfl (WV.func ((f7 ok).mono fun v M' => ?_)); rintro ⟨rfl, p1, a1, e, rfl, hv⟩)
    | refine W1.ldAll rfl .here rfl ?_
    | refine W1.lenSlc rfl ok.hF.up.1 ?_
    | refine WC.ret ?_
    | refine WC.cond (c := .t 17) rfl (fun hc => ?_) (fun he0 => ?_)
    | exact ⟨M, [_], List.Perm.refl _, Or.inl ⟨e, by simpa using hc, rfl, rfl⟩⟩
    | refine WC.seq ?_
    | refine WC.region ?_
    | refine WC.skip ?_
    | refine WO.nil ?_
    | refine WO.cons ?_
    | refine W1.mv rfl ?_
    | refine W1.fa rfl ?_
    | refine W1.ext rfl rfl ?_
    | refine W1.neq rfl rfl ?_
    | refine W1.bld rfl rfl ?_
    | refine Exists.intro _ (And.intro (Res.tmp rfl (Res.tmp rfl Res.nil)) ?_)
    | refine W1.ldS rfl (.there .here) rfl ?_
  have val := hv (by simpa using he0)
  have h5 := val.nF
  refine WC.forO (blk := 0) (n := t.nF) [7, 23, 24] (fun _ (_ : Unit) => []) (fun i _ M' => ∃ p, PtOk t p ∧ M' = (bT, Arr1 (t.cells ++ p) {}) :: (b1, Arr1 t.cells {}) :: M) () (by omega) rfl (fun _ _ => rfl) (fun _ _ => rfl) (fun _ _ => rfl) (fun _ _ => rfl) ⟨rfl, rfl⟩ (subL.nil _) ⟨_, PtOk.zero, rfl⟩ ?_ ?_
  · rintro i a M' hi ⟨p, hp, rfl⟩
    have hl := hp.len
    have hp2 := hp.set (i := i) (by omega) (y := t.br i) (KA.has hi)
    repeat' first
      | exact ⟨(), _, [_], rfl, by repeat (first | exact subL.nil _ | refine subL.cons rfl ?_), List.Perm.refl _, _, hp2, rfl⟩
      | (refine W1.iaRow rfl rfl ok.hF.up (by omega) (by omega) (fun b o hrd => ?_); rw [Int.toNat_natCast] at hrd)
      | refine W1.ldV (vs := t.fig i) rfl rfl hrd ?_
      | refine W1.alloc (d := 9) rfl (fun b9 => ?_)
      | refine W1.stAll rfl rfl rfl rfl rfl .here ?_
      | refine W1.iaa rfl rfl (by omega) (by omega) ?_
      | refine W1.stPt rfl rfl (by omega) hl (.there .here) ?_
      | refine WC.seq ?_
      | refine WC.block ?_
      | refine WC.region ?_
      | refine WC.draw ?_
      | refine WO.nil ?_
      | refine WO.cons ?_
      | refine WD.nil ?_
      | refine WD.cons0 ?_
      | refine WD.consH ?_
      | refine WD.consR ?_
      | refine W1.mv rfl ?_
      | refine W1.nilck rfl ?_
      | refine W1.fa rfl ?_
      | refine W1.bld rfl rfl ?_
      | refine W1.ldS rfl .here rfl (conjR (ReC.ldS rfl rfl .here rfl) (by simp) ?_)
  · rintro a M' ⟨p, hp, rfl⟩
    repeat' first
      | refine WC.ret ?_
      | refine WC.seq ?_
      | refine WC.region ?_
      | refine WO.nil ?_
      | refine WO.cons ?_
      | refine W1.mv rfl ?_
      | refine Exists.intro _ (And.intro (Res.tmp rfl (Res.tmp rfl Res.nil)) ?_)
    exact ⟨(bT, Arr1 (t.cells ++ p) {}) :: M, [_], List.Perm.swap _ _ _, Or.inr ⟨bT, p, rfl, val, hp, rfl⟩⟩
end Go.Ax
end
section
namespace Go.Ax
open Go.Ax.Ir
structure RwF (g : Gz) (t : RwD) (bT : Nat) (p : List V) : Prop where
  ok : RwOk g t
  val : RwVal t
  pt : PtOk t p
  hT : g bT = some (.arr (t.cells ++ p) {})
theorem RwF.ld {g : Gz} {t : RwD} {bT : Nat} {p : List V} (h : RwF g t bT p) : rdAgg g false bT 0 1 = some t.sF ∧ rdAgg g false bT 1 1 = some t.sS ∧ rdAgg g false bT 2 1 = some (.int .i64 t.bench) ∧ rdAgg g true bT 3 10 = some (.agg p) := by
  have hT := h.hT
  have hl := h.pt.len
  refine ⟨by simp [rdAgg, hT, RwD.cells], by simp [rdAgg, hT, RwD.cells], by simp [rdAgg, hT, RwD.cells], ?_⟩
  have e : (t.cells ++ p).drop 3 = p := rfl
  simp only [rdAgg, rdG, hT, e, if_true]
  rw [if_pos (by simp [RwD.cells, hl]), List.take_of_length_le (by omega)]
  rfl
theorem P5.ld {k : Nat → Int} {b : Nat → Bool} {x : Int} (h0 : 0 ≤ x) (h1 : x < 5) : ((P5 k b).drop (0 + x.toNat * 2)).take 2 = [.int .i64 (k x.toNat), .bool (b x.toNat)] := by
  rcases (show x = 0 ∨ x = 1 ∨ x = 2 ∨ x = 3 ∨ x = 4 by omega) with rfl | rfl | rfl | rfl | rfl <;> rfl
theorem P5.ldB {k : Nat → Int} {b : Nat → Bool} {x : Int} (h0 : 0 ≤ x) (h1 : x < 5) : (P5 k b)[0 + x.toNat * 2 + 1]? = some (.bool (b x.toNat)) := by
  rcases (show x = 0 ∨ x = 1 ∨ x = 2 ∨ x = 3 ∨ x = 4 by omega) with rfl | rfl | rfl | rfl | rfl <;> rfl
theorem P5.setB {k : Nat → Int} {b : Nat → Bool} {x : Int} (h0 : 0 ≤ x) (h1 : x < 5) (y : Bool) : splice (P5 k b) (0 + x.toNat * 2 + 1) [.bool y] = P5 k (fun j => if j = x.toNat then y else b j) := by
  rcases (show x = 0 ∨ x = 1 ∨ x = 2 ∨ x = 3 ∨ x = 4 by omega) with rfl | rfl | rfl | rfl | rfl <;> rfl
theorem P5.setP {k : Nat → Int} {b : Nat → Bool} {x : Int} (h0 : 0 ≤ x) (h1 : x < 5) (z : Int) (y : Bool) : splice (P5 k b) (0 + x.toNat * 2) [.int .i64 z, .bool y] = P5 (fun j => if j = x.toNat then z else k j) (fun j => if j = x.toNat then y else b j) := by
  rcases (show x = 0 ∨ x = 1 ∨ x = 2 ∨ x = 3 ∨ x = 4 by omega) with rfl | rfl | rfl | rfl | rfl <;> rfl
theorem P5.len {k : Nat → Int} {b : Nat → Bool} : (P5 k b).length = 10 := rfl
attribute [local irreducible] W1 WO WC WD WF WV
set_option maxHeartbeats 2000000 in
theorem f49 {g : Gz} {M : Mem} {t : RwD} {bT : Nat} {p q : List V} (h : RwF g t bT p) (hq : PtOk t q) : WF tbl g 49 [.ptr bT 0, .agg q] M fun v M' => ∃ k X, LstI v k X ∧ k ≤ 5 ∧ M' = X ++ M := by
  obtain ⟨l0, l1, l2, l3⟩ := h.ld
  obtain ⟨k, b, rfl, hk⟩ := hq
  have h5 := h.val.nF
  refine WF.trim (WF.intro rfl (Nat.le_of_ble_eq_true rfl) ?_)
  repeat' first
    | refine W1.box (d := 3) rfl rfl (fun b3 => ?_)
    | refine W1.ldG rfl l0 ?_
    | refine W1.lenSlc rfl h.ok.hF.up.1 ?_
    | refine WC.seq ?_
    | refine WC.region ?_
    | refine WO.nil ?_
    | refine WO.cons ?_
    | refine W1.mv rfl ?_
    | refine W1.nilck rfl ?_
    | refine W1.fa rfl ?_
  refine WC.forO (blk := 0) (n := t.nF) [3, 11, 12] (fun _ (s : V) => [(4, s)]) (fun i s M' => ∃ n X, LstI s n X ∧ n ≤ i ∧ M' = (b3, Arr1 (P5 k b) {}) :: (X ++ M)) .nilslice (by omega) rfl (fun _ _ => rfl) (fun _ _ => rfl) (fun _ _ => rfl) (fun _ _ => rfl) ⟨rfl, rfl⟩ (subL.cons rfl (subL.nil _)) ⟨0, [], Or.inl ⟨rfl, rfl, rfl⟩, Nat.le_refl _, rfl⟩ ?_ ?_
  · rintro i s M' hi ⟨n, X, hX, hn, rfl⟩
    repeat' first
      | exact ⟨_, (b3, Arr1 (P5 k b) {}) :: (X2 ++ M), [_, _], rfl, by repeat (first | exact subL.nil _ | refine subL.cons rfl ?_), perm_sw X2 [_, _, _] M, n + 1, X2, hX2, by omega, rfl⟩
      | exact ⟨s, _, [_], rfl, by repeat (first | exact subL.nil _ | refine subL.cons rfl ?_), List.Perm.refl _, n, X, hX, by omega, rfl⟩
      | (refine W1.iaRow rfl rfl h.ok.hF.up (by omega) (by omega) (fun bf o hrd => ?_); rw [Int.toNat_natCast] at hrd)
      | refine W1.ldV (vs := t.fig i) rfl rfl hrd ?_
      | refine W1.alloc (d := 6) rfl (fun b6 => ?_)
      | refine W1.stAll rfl rfl rfl rfl rfl .here ?_
      | refine W1.iaa rfl rfl (by omega) (by omega) ?_
      | refine W1.ldX rfl (.there .here) (show 0 + ((i : Int)).toNat * 2 + 2 ≤ 10 by omega) (P5.ld (by omega) (by omega)) (conjR (ReC.ldX rfl rfl (.there .here) (show 0 + ((i : Int)).toNat * 2 + 2 ≤ 10 by omega) (P5.ld (by omega) (by omega))) (by simp) ?_)
      | refine W1.ldS rfl .here rfl (conjR (ReC.ldS rfl rfl .here rfl) (by simp) ?_)
      | refine conjR (ReC.skip rfl (by first | assumption | rfl)) (by simp) ?_
      | refine W1.eqv rfl rfl rfl ?_
      | refine W1.bldS rfl rfl rfl (fun bs => ?_)
      | refine W1.appL (A := [_, _, _]) rfl hX rfl .here (by omega) (fun s2 X2 hX2 => ?_)
      | refine WC.seq ?_
      | refine WC.block ?_
      | refine WC.region ?_
      | refine WC.draw ?_
      | refine WC.skip ?_
      | refine WC.cond_f rfl (by first | assumption | rfl) ?_
      | refine WC.cond rfl (fun hc => ?_) (fun hc => ?_)
      | refine WO.nil ?_
      | refine WO.cons ?_
      | refine WD.nil ?_
      | refine WD.cons0 ?_
      | refine WD.consR ?_
      | refine W1.guard_y rfl (by first | assumption | rfl) ?_
      | refine W1.guard_n rfl (by first | assumption | rfl) ?_
      | refine W1.guard rfl (fun hc => ?_) (fun hc => ?_)
      | refine W1.pick_t rfl (by first | assumption | rfl) rfl ?_
      | refine W1.pick_f rfl (by first | assumption | rfl) rfl ?_
      | refine W1.mv rfl ?_
      | refine W1.fa rfl ?_
      | refine W1.neq rfl rfl ?_
      | refine W1.bld rfl rfl ?_
  · rintro s M' ⟨n, X, hX, hn, rfl⟩
    repeat' first
      | refine WC.ret ?_
      | refine WC.seq ?_
      | refine WC.region ?_
      | refine WO.nil ?_
      | refine WO.cons ?_
      | refine W1.mv rfl ?_
      | refine Exists.intro _ (And.intro (Res.tmp rfl Res.nil) ?_)
    exact ⟨X ++ M, [_], List.Perm.refl _, n, X, hX, by omega, rfl⟩
end Go.Ax
end
section
namespace Go.Ax
open Go.Ax.Ir
theorem WC.row {ft : FT FnR} {g : Gz} {cur : Option Nat} {c : ICode} {L : Env} {M : Mem} {K : X → Env → Mem → Prop} {t : RwD} {bT : Nat} {p : List V} (ok : RwOk g t) (val : RwVal t) (pt : PtOk t p)
    (h : ∀ g', g.le g' → RwF g' t bT p → WC ft g' cur c L M fun x L1 M1 => K x L1 ((bT, Arr1 (t.cells ++ p) {}) :: M1)) :
    WC ft g cur c L ((bT, Arr1 (t.cells ++ p) {}) :: M) K :=
  WC.freeze .here fun hb => h _ (Gz.le_add hb) ⟨ok.lessG (Gz.le_add hb), val, pt, Gz.add_eq _ _ _⟩
theorem W1.stB {ft : FT FnR} {g : Gz} {L : Env} {M M' : Mem} {K : Env → Mem → Prop} {a x : Opd} {bb : Nat} {z : Int} {k : Nat → Int} {b : Nat → Bool} {y : Bool} (h0 : 0 ≤ z) (h1 : z < 5) (ha : lkO L a = some (.ptr bb (0 + z.toNat * 2 + 1))) (hx : lkO L x = some (.bool y))
    (hu : Up M bb (Arr1 (P5 k b) {}) (Arr1 (P5 k fun j => if j = z.toNat then y else b j) {}) M') (h : K L M') : W1 ft g ⟨none, .st 1 a x, none⟩ L M K := by
  refine W1.st (v := .bool y) (cs := P5 k b) ha hx rfl rfl ?_ (show _ ≤ 10 by omega) h
  rw [show splice (P5 k b) (0 + z.toNat * 2 + 1) (V.bool y).cells = _ from P5.setB h0 h1 y]
  exact hu
theorem W1.stQ {ft : FT FnR} {g : Gz} {L : Env} {M M' : Mem} {K : Env → Mem → Prop} {a x : Opd} {bb : Nat} {z w : Int} {k : Nat → Int} {b : Nat → Bool} {y : Bool} (h0 : 0 ≤ z) (h1 : z < 5) (ha : lkO L a = some (.ptr bb (0 + z.toNat * 2))) (hx : lkO L x = some (.agg [.int .i64 w, .bool y]))
    (hu : Up M bb (Arr1 (P5 k b) {}) (Arr1 (P5 (fun j => if j = z.toNat then w else k j) fun j => if j = z.toNat then y else b j) {}) M') (h : K L M') : W1 ft g ⟨none, .st 2 a x, none⟩ L M K := by
  refine W1.st (v := .agg [.int .i64 w, .bool y]) (cs := P5 k b) ha hx rfl rfl ?_ (show _ ≤ 10 by omega) h
  rw [show splice (P5 k b) (0 + z.toNat * 2) (V.agg [.int .i64 w, .bool y]).cells = _ from P5.setP h0 h1 w y]
  exact hu
attribute [local irreducible] W1 WO WC WD WF WV
set_option maxHeartbeats 1000000 in
theorem f12 {g : Gz} {M : Mem} {t : RwD} (ok : RwOk g t) : WF tbl g 12 [.agg t.cells] M (PostL 1 M) := by
  refine WF.trim (WF.intro rfl (Nat.le_of_ble_eq_true rfl) ?_)
  repeat' first
    | exact absurd (by simpa using ‹(!decide (e = 0)) = false›) he
    | refine W1.box (d := 1) rfl ok.sc3 (fun b1 => ?_)
    | (refine W1.callV rfl rfl (WV.func ((f48 ok).mono fun v M' => ?_)); rintro (⟨e, he, rfl, rfl⟩ | ⟨bT, p, rfl, val, pt, rfl⟩))
    | refine WC.row ok val pt (fun g' hg hF => ?_)
    | refine W1.ldAll rfl .here rfl ?_
    | refine W1.ldG rfl hF.ld.2.2.2 ?_
    | (refine W1.callV rfl rfl (WV.func ((f49 hF pt).mono fun v M' => ?_)); rintro ⟨n, X, hX, hn, rfl⟩)
    | exact ⟨M, [_], List.Perm.refl _, _, [], 1, _, rfl, OwnC.nil (by decide), by decide, rfl⟩
    | refine WC.ret ?_
    | refine WC.seq ?_
    | refine WC.region ?_
    | refine WC.skip ?_
    | refine WC.cond_f rfl (by first | assumption | rfl) ?_
    | refine WC.cond rfl (fun hc => ?_) (fun hc => ?_)
    | refine WO.nil ?_
    | refine WO.cons ?_
    | refine W1.mv rfl ?_
    | refine W1.nilck rfl ?_
    | refine W1.fa rfl ?_
    | refine W1.ext rfl rfl ?_
    | refine W1.neq rfl rfl ?_
    | refine Exists.intro _ (And.intro (Res.tmp rfl (Res.tmp rfl Res.nil)) ?_)
  obtain ⟨R, rfl, ho⟩ := hX.own (by omega)
  exact ⟨toM R ++ M, [_, _], (perm_sw (toM R) [_] M).cons _, _, R, n + 1, 0, rfl, ho, by omega, rfl⟩
set_option maxHeartbeats 8000000 in
theorem f53 {g : Gz} {M : Mem} {t : RwD} {bT : Nat} {p q : List V} {x y : Int} (h : RwF g t bT p) (hq : PtOk t q) : WF tbl g 53 [.ptr bT 0, .agg q, .agg [.int .i64 x, .int .i64 y]] M fun v M' => M' = M ∧ ∃ q' e, v = .tup [.agg q', .int .i64 e] ∧ PtOk t q' := by
  obtain ⟨l0, l1, l2, l3⟩ := h.ld
  obtain ⟨k, b, rfl, hk⟩ := hq
  have h5 := h.val.nF
  have hbe := h.val.bench
  have hns := h.ok.nS
  have hx1 : x = t.bench → t.bench ≠ -1 → 0 ≤ x ∧ x < 5 := fun h1 h2 => by omega
  refine WF.trimS (WF.intro rfl (Nat.le_of_ble_eq_true rfl) ?_)
  repeat' first
    | refine W1.box (d := 4) rfl rfl (fun b4 => ?_)
    | refine W1.box (d := 5) rfl rfl (fun b5 => ?_)
    | refine W1.alloc (d := 6) rfl (fun b6 => ?_)
    | refine W1.alloc (d := 8) rfl (fun b8 => ?_)
    | refine W1.ldG rfl l2 (conjR (ReC.ldG rfl rfl l2) (by simp) ?_)
    | refine W1.ldG rfl l1 (conjR (ReC.ldG rfl rfl l1) (by simp) ?_)
    | refine conjR (ReC.skip rfl (by first | assumption | rfl)) (by simp) ?_
    | refine WC.ret ?_
    | refine WC.seq ?_
    | refine WC.region ?_
    | refine WC.draw ?_
    | refine WC.skip ?_
    | refine WC.cond_f rfl (by first | assumption | rfl) ?_
    | refine WC.cond rfl (fun hc => ?_) (fun hc => ?_)
    | refine WO.nil ?_
    | refine WO.cons ?_
    | refine WD.nil ?_
    | refine WD.cons0 ?_
    | refine WD.consH ?_
    | refine WD.consR ?_
    | refine W1.guard_y rfl (by first | assumption | rfl) ?_
    | refine W1.guard_n rfl (by first | assumption | rfl) ?_
    | refine W1.guard rfl (fun hc => ?_) (fun hc => ?_)
    | refine W1.pick_t rfl (by first | assumption | rfl) rfl ?_
    | refine W1.pick_f rfl (by first | assumption | rfl) rfl ?_
    | refine W1.mv rfl ?_
    | refine W1.nilck rfl ?_
    | refine W1.fa rfl ?_
    | refine W1.eql rfl rfl ?_
    | refine W1.neq rfl rfl ?_
    | refine W1.not rfl ?_
    | refine W1.ldS rfl (.there .here) rfl (conjR (ReC.ldS rfl rfl (.there .here) rfl) (by simp) ?_)
    | refine W1.ldAll rfl (.there .here) rfl (conjR (ReC.ldAll rfl rfl (.there .here) rfl) (by simp) ?_)
    | (refine W1.callV rfl rfl (WV.func ((f47 h.ok.hS.up (by omega)).mono fun v M' => ?_)); rintro ⟨rfl, tc, rfl, hc1, hc2⟩; have hxy : tc = true → 0 ≤ x ∧ x < y ∧ y < 5 := fun e => by obtain ⟨j, hj, e1, e2⟩ := hc1 e; have := h.val.st j hj; omega)
    | refine W1.ldS rfl (.there .here) rfl ?_
    | (have hx2 := hx1 (of_decide_eq_true ‹decide (x = t.bench) = true›) (by simpa using ‹(!decide (t.bench = -1)) = true›); refine W1.iaa rfl rfl hx2.1 hx2.2 ?_)
    | (have hx3 := hxy (by simpa using ‹(!tc) = false›); refine W1.iaa rfl rfl (by omega) (by omega) ?_)
    | refine W1.ldS rfl (.there (.there .here)) (P5.ldB hx2.1 hx2.2) ?_
    | refine W1.ldAll rfl (.there (.there .here)) rfl ?_
    | refine W1.ldAll rfl (.there (.there (.there .here))) rfl ?_
    | refine W1.ldAll rfl .here rfl ?_
    | refine W1.stAll rfl rfl rfl rfl rfl .here ?_
    | refine W1.stAll rfl rfl rfl rfl rfl (.there .here) ?_
    | refine W1.stB hx2.1 hx2.2 rfl rfl (.there (.there .here)) ?_
    | refine W1.stQ (z := x) (by omega) (by omega) rfl rfl (.there (.there (.there .here))) ?_
    | refine W1.stQ (z := y) (by omega) (by omega) rfl rfl (.there (.there (.there .here))) ?_
    | refine W1.ldX rfl (.there (.there .here)) (show 0 + x.toNat * 2 + 2 ≤ 10 by omega) (P5.ld (by omega) (by omega)) ?_
    | refine W1.ldX rfl (.there (.there (.there .here))) (show 0 + y.toNat * 2 + 2 ≤ 10 by omega) (P5.ld (by omega) (by omega)) (conjR (ReC.ldX rfl rfl (.there (.there (.there .here))) (show 0 + y.toNat * 2 + 2 ≤ 10 by omega) (P5.ld (by omega) (by omega))) (by simp) ?_)
    | refine W1.ldS rfl (.there (.there .here)) rfl (conjR (ReC.ldS rfl rfl (.there (.there .here)) rfl) (by simp) ?_)
    | refine W1.ldS rfl (.there (.there .here)) rfl ?_
    | exact ⟨_, Res.cell rfl .here (rdB_all rfl) (Res.tmp rfl Res.nil), by repeat (first | exact Suf.refl | apply Suf.cons), _, _, rfl, k, _, rfl, hk⟩
    | refine WC.block (id := 0) ?_
  all_goals
    refine ⟨_, Res.cell rfl (.there .here) (rdB_all rfl) (Res.tmp rfl Res.nil), by repeat (first | exact Suf.refl | apply Suf.cons), _, _, rfl, _, _, rfl, fun j hj => ?_⟩
    show (if j = y.toNat then k x.toNat else if j = x.toNat then k y.toNat else k j) ∈ KA t
    by_cases e1 : j = y.toNat
    · rw [if_pos e1]; exact hk _ (by omega)
    · rw [if_neg e1]
      by_cases e2 : j = x.toNat
      · rw [if_pos e2]; exact hk _ (by omega)
      · rw [if_neg e2]; exact hk j hj
end Go.Ax
end
section
namespace Go.Ax
open Go.Ax.Ir
theorem IntL.row2 {cs : List V} {n : Nat} (h : IntL cs) (hl : n * 2 ≤ cs.length) {j : Int} (h0 : 0 ≤ j) (h1 : j < n) : ∃ x y, (cs.drop (0 + j.toNat * 2)).take 2 = [.int .i64 x, .int .i64 y] := by
  obtain ⟨x, hx⟩ := h.get (i := 0 + j.toNat * 2) (by omega)
  obtain ⟨y, hy⟩ := h.get (i := 0 + j.toNat * 2 + 1) (by omega)
  refine ⟨x, y, List.ext_getElem? fun i => ?_⟩
  rcases (show i = 0 ∨ i = 1 ∨ 2 ≤ i by omega) with rfl | rfl | hi
  · rw [List.getElem?_take, if_pos (by decide), List.getElem?_drop, Nat.add_zero, hx]; rfl
  · rw [List.getElem?_take, if_pos (by decide), List.getElem?_drop, hy]; rfl
  · rw [List.getElem?_eq_none (by simp; omega), List.getElem?_eq_none (by simp; omega)]
theorem W1.stRow2 {ft : FT FnR} {g : Gz} {L : Env} {M M' : Mem} {K : Env → Mem → Prop} {a x : Opd} {b o : Nat} {cs : List V} {z w : Int} (ha : lkO L a = some (.ptr b o)) (hx : lkO L x = some (.agg [.int .i64 z, .int .i64 w])) (ho : o + 2 ≤ cs.length)
    (hu : Up M b (Arr1 cs {}) (Arr1 (splice cs o [.int .i64 z, .int .i64 w]) {}) M') (h : K L M') : W1 ft g ⟨none, .st 2 a x, none⟩ L M K :=
  W1.st (v := .agg [.int .i64 z, .int .i64 w]) ha hx rfl rfl hu ho h
theorem wrap8U (n : Int) : IntKind.u8.wrap n = n % 256 := rfl
attribute [local irreducible] W1 WO WC WD WF WV
def Cmp (g : Gz) (fv : V) : Prop := ∀ x y z w M, WV tbl g fv [.agg [.int .i64 x, .int .i64 y], .agg [.int .i64 z, .int .i64 w]] M fun v M' => M' = M ∧ ∃ k : Int, v = .int .i64 k
set_option maxHeartbeats 2000000 in
theorem f103 {g : Gz} {M : Mem} {fv : V} {bs n : Nat} {cap : Option Nat} {cs : List V} (hc : Cmp g fv) (hn : n ≤ 1000) (hl : n * 2 ≤ cs.length) (hi : IntL cs) :
    WF tbl g 103 [.slice bs 0 n cap 2, .int .i64 0, .int .i64 n, fv] ((bs, Arr1 cs {}) :: M) fun _ M' => ∃ cs', cs'.length = cs.length ∧ IntL cs' ∧ M' = (bs, Arr1 cs' {}) :: M := by
  obtain ⟨N, hN⟩ : ∃ N, N = cs.length := ⟨_, rfl⟩
  have hl' : n * 2 ≤ N := by omega
  rw [← hN]
  refine WF.intro rfl (Nat.le_of_ble_eq_true rfl) ?_
  repeat' first
    | (refine WC.loopT (ι := Int) (fun i => (n - i).toNat) (fun i => [(0, .slice bs 0 n cap 2), (1, .int .i64 0), (2, .int .i64 n), (3, fv), (8, .int .i64 i)]) (fun i M' => 1 ≤ i ∧ i ≤ n + 1 ∧ ∃ cs, cs.length = N ∧ IntL cs ∧ M' = (bs, Arr1 cs {}) :: M) ?_ 1 _ _ (subL.cons rfl (subL.cons rfl (subL.cons rfl (subL.cons rfl (subL.cons rfl (subL.nil _)))))) ⟨by omega, by omega, cs, hN.symm, hi, rfl⟩)
    | refine W1.add rfl rfl (by omega) (by omega) ?_
    | refine WC.seq ?_
    | refine WC.block ?_
    | refine WC.region ?_
    | refine WO.nil ?_
    | refine WO.cons ?_
    | refine W1.mv rfl ?_
  rintro i M' ⟨h1, h2, cs, hl, hi, rfl⟩
  by_cases hlt : i < (n : Int)
  · have hdec : decide (i < (n : Int)) = true := decide_eq_true hlt
    repeat' first
      | refine WC.cond_t rfl hdec ?_
      | (refine WC.loopT (ι := Int) (fun j => j.toNat) (fun j => [(0, .slice bs 0 n cap 2), (1, .int .i64 0), (2, .int .i64 n), (3, fv), (8, .int .i64 i), (9, .int .i64 j)]) (fun j M' => 0 ≤ j ∧ j ≤ i ∧ ∃ cs, cs.length = N ∧ IntL cs ∧ M' = (bs, Arr1 cs {}) :: M) ?_ i _ _ (subL.cons rfl (subL.cons rfl (subL.cons rfl (subL.cons rfl (subL.cons rfl (subL.cons rfl (subL.nil _))))))) ⟨by omega, by omega, cs, hl, hi, rfl⟩)
      | refine WC.seq ?_
      | refine WC.block ?_
      | refine WC.region ?_
      | refine WC.skip ?_
      | refine WO.nil ?_
      | refine WO.cons ?_
      | refine W1.mv rfl ?_
      | refine W1.lss rfl rfl ?_
    rintro j M' ⟨h3, h4, cs, hl, hi, rfl⟩
    by_cases hj : 0 < j
    · have hdj : decide (0 < j) = true := decide_eq_true hj
      obtain ⟨x, y, e1⟩ := hi.row2 (n := n) (by omega) (j := j) (by omega) (by omega)
      obtain ⟨z, w, e2⟩ := hi.row2 (n := n) (by omega) (j := j - 1) (by omega) (by omega)
      have hl2 : (splice cs (0 + j.toNat * 2) [.int .i64 z, .int .i64 w]).length = N := (spl_len (show _ + 2 ≤ _ by omega)).trans hl
      repeat' first
        | refine W1.ia rfl rfl (by omega) (by omega) ?_
        | refine W1.sub rfl rfl (by omega) (by omega) ?_
        | refine W1.ldX rfl .here (by omega) e1 (conjR (ReC.ldX rfl rfl .here (by omega) e1) (by simp) ?_)
        | refine W1.ldX rfl .here (by omega) e2 (conjR (ReC.ldX rfl rfl .here (by omega) e2) (by simp) ?_)
        | (refine W1.callV rfl rfl ((hc _ _ _ _ _).mono fun v M' => ?_); rintro ⟨rfl, k, rfl⟩)
        | refine W1.stRow2 rfl rfl (by omega) .here ?_
        | exact ⟨j - 1, _, [], by omega, by repeat (first | exact subL.nil _ | refine subL.cons rfl ?_), List.Perm.refl _, by omega, by omega, _, (spl_len (show _ + 2 ≤ _ by omega)).trans hl2, hi.set2.set2, rfl⟩
        | exact ⟨i + 1, _, [], by omega, by repeat (first | exact subL.nil _ | refine subL.cons rfl ?_), List.Perm.refl _, by omega, by omega, _, hl, hi, rfl⟩
        | refine WC.seq ?_
        | refine WC.block ?_
        | refine WC.region ?_
        | refine WC.draw ?_
        | refine WC.skip ?_
        | refine WC.exit ?_
        | refine WC.cond rfl (fun hc => ?_) (fun hc => ?_)
        | refine WO.nil ?_
        | refine WO.cons ?_
        | refine WD.nil ?_
        | refine WD.cons0 ?_
        | refine WD.consH ?_
        | refine WD.consR ?_
        | refine W1.guard_y rfl (by first | assumption | rfl) ?_
        | refine W1.pick_t rfl (by first | assumption | rfl) rfl ?_
        | refine W1.mv rfl ?_
        | refine W1.lss rfl rfl ?_
        | refine W1.gtr rfl rfl ?_
        | refine W1.add rfl rfl (by omega) (by omega) ?_
    · have hdj : decide (0 < j) = false := decide_eq_false hj
      repeat' first
        | refine conjR (ReC.skip rfl (by first | assumption | rfl)) (by simp) ?_
        | exact ⟨i + 1, _, [], by omega, by repeat (first | exact subL.nil _ | refine subL.cons rfl ?_), List.Perm.refl _, by omega, by omega, _, hl, hi, rfl⟩
        | refine WC.seq ?_
        | refine WC.region ?_
        | refine WC.draw ?_
        | refine WC.exit ?_
        | refine WC.cond_f rfl (by first | assumption | rfl) ?_
        | refine WO.nil ?_
        | refine WO.cons ?_
        | refine WD.nil ?_
        | refine WD.cons0 ?_
        | refine WD.consH ?_
        | refine WD.consR ?_
        | refine W1.guard_n rfl (by first | assumption | rfl) ?_
        | refine W1.pick_f rfl (by first | assumption | rfl) rfl ?_
        | refine W1.mv rfl ?_
        | refine W1.gtr rfl rfl ?_
        | refine W1.add rfl rfl (by omega) (by omega) ?_
  · have hdec : decide (i < (n : Int)) = false := decide_eq_false hlt
    repeat' first
      | refine WC.cond_f rfl hdec ?_
      | refine WC.seq ?_
      | refine WC.region ?_
      | refine WC.exit ?_
      | refine WO.nil ?_
      | refine WO.cons ?_
      | refine W1.mv rfl ?_
      | refine W1.lss rfl rfl ?_
      | refine Exists.intro _ (And.intro Res.nil ?_)
    exact ⟨cs, hl, hi, rfl⟩
end Go.Ax
end
section
namespace Go.Ax
open Go.Ax.Ir
attribute [local irreducible] W1 WO WC WD WF WV
set_option maxRecDepth 100000 in
set_option maxHeartbeats 1000000 in
theorem f112 {g : Gz} {M : Mem} {a : Int} : WF tbl g 112 [.int .u64 a] M fun v M' => M' = M ∧ ∃ k : Int, v = .int .i64 k := by
  refine WF.intro rfl (Nat.le_of_ble_eq_true rfl) ?_
  repeat' first
    | refine W1.convU rfl ?_
    | refine W1.ixs rfl rfl (by rw [wrap8U]; omega) (by rw [wrap8U]; exact Int.emod_lt_of_pos _ (by decide)) (fun b hb => ?_)
    | refine W1.shrU rfl rfl (by decide) (fun z => ?_)
    | refine W1.addU rfl rfl (fun z => ?_)
    | refine WC.ret ?_
    | refine WC.seq ?_
    | refine WC.block ?_
    | refine WC.region ?_
    | refine WC.draw ?_
    | refine WC.scope ?_
    | refine WC.skip ?_
    | refine WC.exit ?_
    | refine WC.cond_t rfl (by first | assumption | rfl) ?_
    | refine WC.cond_f rfl (by first | assumption | rfl) ?_
    | refine WC.cond rfl (fun hc => ?_) (fun hc => ?_)
    | refine WO.nil ?_
    | refine WO.cons ?_
    | refine WD.nil ?_
    | refine WD.cons0 ?_
    | refine WD.consH ?_
    | refine WD.consR ?_
    | refine W1.guard_y rfl (by first | assumption | rfl) ?_
    | refine W1.guard_n rfl (by first | assumption | rfl) ?_
    | refine W1.guard_u rfl ?_
    | refine W1.guard rfl (fun hc => ?_) (fun hc => ?_)
    | refine W1.pick_t rfl (by first | assumption | rfl) rfl ?_
    | refine W1.pick_f rfl (by first | assumption | rfl) rfl ?_
    | refine W1.mv rfl ?_
    | refine W1.nilck rfl ?_
    | refine W1.fa rfl ?_
    | refine W1.ext rfl rfl ?_
    | refine W1.fldS rfl rfl ?_
    | refine W1.fldA rfl (by decide) ?_
    | refine W1.mkfn rfl rfl ?_
    | refine W1.lss rfl rfl ?_
    | refine W1.leq rfl rfl ?_
    | refine W1.gtr rfl rfl ?_
    | refine W1.geq rfl rfl ?_
    | refine W1.eql rfl rfl ?_
    | refine W1.neq rfl rfl ?_
    | refine W1.not rfl ?_
    | refine W1.lenc ?_
    | refine W1.lenS rfl ?_
    | refine W1.bld rfl rfl ?_
    | refine W1.bldS rfl rfl rfl (fun bb => ?_)
    | refine W1.alloc rfl (fun bb => ?_)
    | refine W1.box rfl rfl (fun bb => ?_)
    | refine Exists.intro _ (And.intro Res.nil ?_)
    | refine Exists.intro _ (And.intro (Res.tmp rfl Res.nil) ?_)
    | refine Exists.intro _ (And.intro (Res.tmp rfl (Res.tmp rfl Res.nil)) ?_)
    | refine Exists.intro _ (And.intro (Res.tmp rfl (Res.tmp rfl (Res.tmp rfl Res.nil))) ?_)
  all_goals exact ⟨rfl, _, rfl⟩
theorem f102 {g : Gz} {M : Mem} {a : Int} : WF tbl g 102 [.int .u64 a] M fun v M' => M' = M ∧ ∃ k : Int, v = .int .i64 k := by
  refine WF.intro rfl (Nat.le_of_ble_eq_true rfl) ?_
  repeat' first
    | (refine W1.callV rfl rfl (WV.func (f112.mono fun v M' => ?_)); rintro ⟨rfl, k, rfl⟩)
    | refine WC.cond_f rfl rfl ?_
    | refine WC.ret ?_
    | refine WC.seq ?_
    | refine WC.block ?_
    | refine WC.region ?_
    | refine WC.draw ?_
    | refine WC.scope ?_
    | refine WC.skip ?_
    | refine WC.exit ?_
    | refine WC.cond_t rfl (by first | assumption | rfl) ?_
    | refine WC.cond_f rfl (by first | assumption | rfl) ?_
    | refine WC.cond rfl (fun hc => ?_) (fun hc => ?_)
    | refine WO.nil ?_
    | refine WO.cons ?_
    | refine WD.nil ?_
    | refine WD.cons0 ?_
    | refine WD.consH ?_
    | refine WD.consR ?_
    | refine W1.guard_y rfl (by first | assumption | rfl) ?_
    | refine W1.guard_n rfl (by first | assumption | rfl) ?_
    | refine W1.guard_u rfl ?_
    | refine W1.guard rfl (fun hc => ?_) (fun hc => ?_)
    | refine W1.pick_t rfl (by first | assumption | rfl) rfl ?_
    | refine W1.pick_f rfl (by first | assumption | rfl) rfl ?_
    | refine W1.mv rfl ?_
    | refine W1.nilck rfl ?_
    | refine W1.fa rfl ?_
    | refine W1.ext rfl rfl ?_
    | refine W1.fldS rfl rfl ?_
    | refine W1.fldA rfl (by decide) ?_
    | refine W1.mkfn rfl rfl ?_
    | refine W1.lss rfl rfl ?_
    | refine W1.leq rfl rfl ?_
    | refine W1.gtr rfl rfl ?_
    | refine W1.geq rfl rfl ?_
    | refine W1.eql rfl rfl ?_
    | refine W1.neq rfl rfl ?_
    | refine W1.not rfl ?_
    | refine W1.lenc ?_
    | refine W1.lenS rfl ?_
    | refine W1.bld rfl rfl ?_
    | refine W1.bldS rfl rfl rfl (fun bb => ?_)
    | refine W1.alloc rfl (fun bb => ?_)
    | refine W1.box rfl rfl (fun bb => ?_)
    | refine Exists.intro _ (And.intro Res.nil ?_)
    | refine Exists.intro _ (And.intro (Res.tmp rfl Res.nil) ?_)
    | refine Exists.intro _ (And.intro (Res.tmp rfl (Res.tmp rfl Res.nil)) ?_)
    | refine Exists.intro _ (And.intro (Res.tmp rfl (Res.tmp rfl (Res.tmp rfl Res.nil))) ?_)
  all_goals exact ⟨rfl, _, rfl⟩
theorem f100 {g : Gz} {M : Mem} {s : V} {n : Nat} {num : Nat → Int} (hs : Slc g M s n 1 fun i _ => .int .i64 (num i)) (hn : n ≤ 1000000000000) : WF tbl g 100 [s] M fun v M' => M' = M ∧ ∃ k : Int, v = .int .i64 k := by
  refine WF.intro rfl (Nat.le_of_ble_eq_true rfl) ?_
  repeat' first
    | (refine WC.forO (blk := 0) (n := n) [3, 6, 7] (fun _ (_ : Unit) => []) (fun i _ M' => M' = M) () hn rfl (fun _ _ => rfl) (fun _ _ => rfl) (fun _ _ => rfl) (fun _ _ => rfl) ⟨rfl, rfl⟩ (subL.nil _) rfl ?_ ?_ <;> first | rintro i a M' hi rfl | rintro a M' rfl)
    | refine W1.lenSlc rfl hs ?_
    | refine W1.iaSlc rfl rfl hs (by omega) (by omega) (fun b o hrd => ?_)
    | refine W1.ldR rfl (hrd 0 (by omega)) ?_
    | exact ⟨(), _, [], rfl, by repeat (first | exact subL.nil _ | refine subL.cons rfl ?_), List.Perm.refl _, rfl⟩
    | refine WC.ret ?_
    | refine WC.seq ?_
    | refine WC.block ?_
    | refine WC.region ?_
    | refine WC.draw ?_
    | refine WC.scope ?_
    | refine WC.skip ?_
    | refine WC.exit ?_
    | refine WC.cond_t rfl (by first | assumption | rfl) ?_
    | refine WC.cond_f rfl (by first | assumption | rfl) ?_
    | refine WC.cond rfl (fun hc => ?_) (fun hc => ?_)
    | refine WO.nil ?_
    | refine WO.cons ?_
    | refine WD.nil ?_
    | refine WD.cons0 ?_
    | refine WD.consH ?_
    | refine WD.consR ?_
    | refine W1.guard_y rfl (by first | assumption | rfl) ?_
    | refine W1.guard_n rfl (by first | assumption | rfl) ?_
    | refine W1.guard_u rfl ?_
    | refine W1.guard rfl (fun hc => ?_) (fun hc => ?_)
    | refine W1.pick_t rfl (by first | assumption | rfl) rfl ?_
    | refine W1.pick_f rfl (by first | assumption | rfl) rfl ?_
    | refine W1.mv rfl ?_
    | refine W1.nilck rfl ?_
    | refine W1.fa rfl ?_
    | refine W1.ext rfl rfl ?_
    | refine W1.fldS rfl rfl ?_
    | refine W1.fldA rfl (by decide) ?_
    | refine W1.mkfn rfl rfl ?_
    | refine W1.lss rfl rfl ?_
    | refine W1.leq rfl rfl ?_
    | refine W1.gtr rfl rfl ?_
    | refine W1.geq rfl rfl ?_
    | refine W1.eql rfl rfl ?_
    | refine W1.neq rfl rfl ?_
    | refine W1.not rfl ?_
    | refine W1.lenc ?_
    | refine W1.lenS rfl ?_
    | refine W1.bld rfl rfl ?_
    | refine W1.bldS rfl rfl rfl (fun bb => ?_)
    | refine W1.alloc rfl (fun bb => ?_)
    | refine W1.box rfl rfl (fun bb => ?_)
    | refine Exists.intro _ (And.intro Res.nil ?_)
    | refine Exists.intro _ (And.intro (Res.tmp rfl Res.nil) ?_)
    | refine Exists.intro _ (And.intro (Res.tmp rfl (Res.tmp rfl Res.nil)) ?_)
    | refine Exists.intro _ (And.intro (Res.tmp rfl (Res.tmp rfl (Res.tmp rfl Res.nil))) ?_)
  all_goals exact ⟨rfl, _, rfl⟩
theorem f99 {g : Gz} {M : Mem} {x y z w : Int} : WF tbl g 99 [.agg [.int .i64 x, .int .i64 y], .agg [.int .i64 z, .int .i64 w]] M fun v M' => M' = M ∧ ∃ k : Int, v = .int .i64 k := by
  refine WF.trimS (WF.intro rfl (Nat.le_of_ble_eq_true rfl) ?_)
  repeat' first
    | refine W1.box (d := 2) rfl rfl (fun b2 => ?_)
    | refine W1.box (d := 3) rfl rfl (fun b3 => ?_)
    | refine W1.subU (d := 9) rfl rfl (fun q => ?_)
    | refine W1.subU (d := 14) rfl rfl (fun q2 => ?_)
    | (refine W1.callV rfl rfl (WV.func ((f100 (num := fun j => if j = 0 then q else q2) (Slc.row .here (by simp) (fun j hj k hk => by
        obtain rfl : k = 0 := by omega
        rcases j with _ | _ | j
        · rfl
        · rfl
        · omega)) (by omega)).mono fun v M' => ?_)); rintro ⟨rfl, k, rfl⟩)
    | refine WC.ret ?_
    | refine WC.seq ?_
    | refine WC.block ?_
    | refine WC.region ?_
    | refine WC.draw ?_
    | refine WC.scope ?_
    | refine WC.skip ?_
    | refine WC.exit ?_
    | refine WC.cond_t rfl (by first | assumption | rfl) ?_
    | refine WC.cond_f rfl (by first | assumption | rfl) ?_
    | refine WC.cond rfl (fun hc => ?_) (fun hc => ?_)
    | refine WO.nil ?_
    | refine WO.cons ?_
    | refine WD.nil ?_
    | refine WD.cons0 ?_
    | refine WD.consH ?_
    | refine WD.consR ?_
    | refine W1.guard_y rfl (by first | assumption | rfl) ?_
    | refine W1.guard_n rfl (by first | assumption | rfl) ?_
    | refine W1.guard_u rfl ?_
    | refine W1.guard rfl (fun hc => ?_) (fun hc => ?_)
    | refine W1.pick_t rfl (by first | assumption | rfl) rfl ?_
    | refine W1.pick_f rfl (by first | assumption | rfl) rfl ?_
    | refine W1.mv rfl ?_
    | refine W1.nilck rfl ?_
    | refine W1.fa rfl ?_
    | refine W1.ext rfl rfl ?_
    | refine W1.fldS rfl rfl ?_
    | refine W1.fldA rfl (by decide) ?_
    | refine W1.mkfn rfl rfl ?_
    | refine W1.lss rfl rfl ?_
    | refine W1.leq rfl rfl ?_
    | refine W1.gtr rfl rfl ?_
    | refine W1.geq rfl rfl ?_
    | refine W1.eql rfl rfl ?_
    | refine W1.neq rfl rfl ?_
    | refine W1.not rfl ?_
    | refine W1.lenc ?_
    | refine W1.lenS rfl ?_
    | refine W1.bld rfl rfl ?_
    | refine W1.bldS rfl rfl rfl (fun bb => ?_)
    | refine W1.alloc rfl (fun bb => ?_)
    | refine W1.box rfl rfl (fun bb => ?_)
    | refine Exists.intro _ (And.intro Res.nil ?_)
    | refine Exists.intro _ (And.intro (Res.tmp rfl Res.nil) ?_)
    | refine Exists.intro _ (And.intro (Res.tmp rfl (Res.tmp rfl Res.nil)) ?_)
    | refine Exists.intro _ (And.intro (Res.tmp rfl (Res.tmp rfl (Res.tmp rfl Res.nil))) ?_)
    | refine W1.ldS rfl .here rfl (conjR (ReC.ldS rfl rfl .here rfl) (by simp) ?_)
    | refine W1.ldS rfl .here rfl ?_
    | refine W1.ldS rfl (.there .here) rfl (conjR (ReC.ldS rfl rfl (.there .here) rfl) (by simp) ?_)
    | refine W1.ldS rfl (.there .here) rfl ?_
  exact ⟨by repeat (first | exact Suf.refl | apply Suf.cons), _, rfl⟩
theorem cmp99 {g : Gz} : Cmp g (.func 99 [] []) := fun _ _ _ _ _ => WV.func f99
set_option maxHeartbeats 1000000 in
theorem f101 {g : Gz} {M : Mem} {fv : V} {bs n : Nat} {q : Int} {cap : Option Nat} {cs : List V} (hc : Cmp g fv) (hn : n ≤ 12) (hl : n * 2 ≤ cs.length) (hi : IntL cs) :
    WF tbl g 101 [.slice bs 0 n cap 2, .int .i64 0, .int .i64 n, .int .i64 q, fv] ((bs, Arr1 cs {}) :: M) fun _ M' => ∃ cs', cs'.length = cs.length ∧ IntL cs' ∧ M' = (bs, Arr1 cs' {}) :: M := by
  have h12 : decide ((n : Int) - 0 ≤ 12) = true := decide_eq_true (by omega)
  refine WF.intro rfl (Nat.le_of_ble_eq_true rfl) ?_
  repeat' first
    | refine WC.unroll ?_
    | refine WC.cond_t rfl h12 ?_
    | refine W1.sub rfl rfl (by omega) (by omega) ?_
    | (refine W1.callV rfl rfl (WV.func ((f103 hc (by omega) hl hi).mono fun v M' => ?_)); rintro ⟨cs', h1, h2, rfl⟩)
    | refine WC.ret ?_
    | refine WC.seq ?_
    | refine WC.block ?_
    | refine WC.region ?_
    | refine WC.draw ?_
    | refine WC.scope ?_
    | refine WC.skip ?_
    | refine WC.exit ?_
    | refine WC.cond_t rfl (by first | assumption | rfl) ?_
    | refine WC.cond_f rfl (by first | assumption | rfl) ?_
    | refine WC.cond rfl (fun hc => ?_) (fun hc => ?_)
    | refine WO.nil ?_
    | refine WO.cons ?_
    | refine WD.nil ?_
    | refine WD.cons0 ?_
    | refine WD.consH ?_
    | refine WD.consR ?_
    | refine W1.guard_y rfl (by first | assumption | rfl) ?_
    | refine W1.guard_n rfl (by first | assumption | rfl) ?_
    | refine W1.guard_u rfl ?_
    | refine W1.guard rfl (fun hc => ?_) (fun hc => ?_)
    | refine W1.pick_t rfl (by first | assumption | rfl) rfl ?_
    | refine W1.pick_f rfl (by first | assumption | rfl) rfl ?_
    | refine W1.mv rfl ?_
    | refine W1.nilck rfl ?_
    | refine W1.fa rfl ?_
    | refine W1.ext rfl rfl ?_
    | refine W1.fldS rfl rfl ?_
    | refine W1.fldA rfl (by decide) ?_
    | refine W1.mkfn rfl rfl ?_
    | refine W1.lss rfl rfl ?_
    | refine W1.leq rfl rfl ?_
    | refine W1.gtr rfl rfl ?_
    | refine W1.geq rfl rfl ?_
    | refine W1.eql rfl rfl ?_
    | refine W1.neq rfl rfl ?_
    | refine W1.not rfl ?_
    | refine W1.lenc ?_
    | refine W1.lenS rfl ?_
    | refine W1.bld rfl rfl ?_
    | refine W1.bldS rfl rfl rfl (fun bb => ?_)
    | refine W1.alloc rfl (fun bb => ?_)
    | refine W1.box rfl rfl (fun bb => ?_)
    | refine Exists.intro _ (And.intro Res.nil ?_)
    | refine Exists.intro _ (And.intro (Res.tmp rfl Res.nil) ?_)
    | refine Exists.intro _ (And.intro (Res.tmp rfl (Res.tmp rfl Res.nil)) ?_)
    | refine Exists.intro _ (And.intro (Res.tmp rfl (Res.tmp rfl (Res.tmp rfl Res.nil))) ?_)
  all_goals exact ⟨cs', h1, h2, rfl⟩
theorem f98 {g : Gz} {M : Mem} {fv : V} {bs n : Nat} {cap : Option Nat} {cs : List V} (hc : Cmp g fv) (hn : n ≤ 12) (hl : n * 2 ≤ cs.length) (hi : IntL cs) :
    WF tbl g 98 [.slice bs 0 n cap 2, fv] ((bs, Arr1 cs {}) :: M) fun _ M' => ∃ cs', cs'.length = cs.length ∧ IntL cs' ∧ M' = (bs, Arr1 cs' {}) :: M := by
  refine WF.intro rfl (Nat.le_of_ble_eq_true rfl) ?_
  repeat' first
    | refine W1.len rfl ?_
    | refine W1.convU rfl ?_
    | (refine W1.callV rfl rfl (WV.func (f102.mono fun v M' => ?_)); rintro ⟨rfl, k, rfl⟩)
    | (refine W1.callV rfl rfl (WV.func ((f101 hc (by omega) hl hi).mono fun v M' => ?_)); rintro ⟨cs', h1, h2, rfl⟩)
    | refine WC.seq ?_
    | refine WC.block ?_
    | refine WC.region ?_
    | refine WC.draw ?_
    | refine WC.scope ?_
    | refine WC.skip ?_
    | refine WC.exit ?_
    | refine WC.cond_t rfl (by first | assumption | rfl) ?_
    | refine WC.cond_f rfl (by first | assumption | rfl) ?_
    | refine WC.cond rfl (fun hc => ?_) (fun hc => ?_)
    | refine WO.nil ?_
    | refine WO.cons ?_
    | refine WD.nil ?_
    | refine WD.cons0 ?_
    | refine WD.consH ?_
    | refine WD.consR ?_
    | refine W1.guard_y rfl (by first | assumption | rfl) ?_
    | refine W1.guard_n rfl (by first | assumption | rfl) ?_
    | refine W1.guard_u rfl ?_
    | refine W1.guard rfl (fun hc => ?_) (fun hc => ?_)
    | refine W1.pick_t rfl (by first | assumption | rfl) rfl ?_
    | refine W1.pick_f rfl (by first | assumption | rfl) rfl ?_
    | refine W1.mv rfl ?_
    | refine W1.nilck rfl ?_
    | refine W1.fa rfl ?_
    | refine W1.ext rfl rfl ?_
    | refine W1.fldS rfl rfl ?_
    | refine W1.fldA rfl (by decide) ?_
    | refine W1.mkfn rfl rfl ?_
    | refine W1.lss rfl rfl ?_
    | refine W1.leq rfl rfl ?_
    | refine W1.gtr rfl rfl ?_
    | refine W1.geq rfl rfl ?_
    | refine W1.eql rfl rfl ?_
    | refine W1.neq rfl rfl ?_
    | refine W1.not rfl ?_
    | refine W1.lenc ?_
    | refine W1.lenS rfl ?_
    | refine W1.bld rfl rfl ?_
    | refine W1.bldS rfl rfl rfl (fun bb => ?_)
    | refine W1.alloc rfl (fun bb => ?_)
    | refine W1.box rfl rfl (fun bb => ?_)
    | refine Exists.intro _ (And.intro Res.nil ?_)
    | refine Exists.intro _ (And.intro (Res.tmp rfl Res.nil) ?_)
    | refine Exists.intro _ (And.intro (Res.tmp rfl (Res.tmp rfl Res.nil)) ?_)
    | refine Exists.intro _ (And.intro (Res.tmp rfl (Res.tmp rfl (Res.tmp rfl Res.nil))) ?_)
  all_goals exact ⟨cs', h1, h2, rfl⟩
end Go.Ax
end
section
namespace Go.Ax
open Go.Ax.Ir
theorem rep_lenN (n : Nat) (z : List V) : (rep n z).length = n * z.length := by simp [rep]
theorem rep_intN (n : Nat) {z : List V} (h : IntL z) : IntL (rep n z) := fun v hv => by
  simp only [rep, List.mem_flatten] at hv
  obtain ⟨l, h1, h2⟩ := hv
  rw [List.eq_of_mem_replicate h1] at h2
  exact h v h2
theorem catTo_int {f : Nat → List V} : ∀ (n : Nat), (∀ i, i < n → IntL (f i)) → IntL (catTo f n)
  | 0, _ => fun v hv => by simp [catTo] at hv
  | n + 1, h => fun v hv => by
    rw [catTo, List.mem_append] at hv
    rcases hv with hv | hv
    · exact catTo_int n (fun i hi => h i (by omega)) v hv
    · exact h n (by omega) v hv
theorem RwVal.nS {t : RwD} (h : RwVal t) : t.nS ≤ 10 := by
  have h5 := h.nF
  have := nodup_len (l := (List.range t.nS).map fun j => (t.sa j, t.sb j)) (S := [((0 : Int), (1 : Int)), (0, 2), (0, 3), (0, 4), (1, 2), (1, 3), (1, 4), (2, 3), (2, 4), (3, 4)]) (by
    unfold List.Nodup
    rw [List.pairwise_map]
    refine List.Pairwise.imp_of_mem ?_ List.pairwise_lt_range
    intro a b ha hb hab e
    simp only [Prod.mk.injEq] at e
    exact h.dist a b hab (List.mem_range.1 hb) e) (fun x hx => by
    obtain ⟨j, hj, rfl⟩ := List.mem_map.1 hx
    have := h.st j (List.mem_range.1 hj)
    simp only [List.mem_cons, Prod.mk.injEq, List.mem_nil_iff, or_false]
    omega)
  simpa using this
theorem stepR_int {sa sb : Nat → Int} (j : Nat) : IntL (stepR sa sb j) := IntL2 _ _
attribute [local irreducible] W1 WO WC WD WF WV
theorem f89 {g : Gz} {M : Mem} {bT : Nat} : WF tbl g 89 [.ptr bT 0] M fun v M' => ∃ b1, v = .func 97 [] [.ptr b1 0] ∧ M' = (b1, Arr1 [.ptr bT 0] {}) :: M := by
  refine WF.intro rfl (Nat.le_of_ble_eq_true rfl) ?_
  repeat' first
    | refine WC.ret ?_
    | refine WC.seq ?_
    | refine WC.region ?_
    | refine WO.nil ?_
    | refine WO.cons ?_
    | refine W1.mv rfl ?_
    | refine W1.mkfn rfl rfl ?_
    | refine W1.box rfl rfl (fun bb => ?_)
    | refine Exists.intro _ (And.intro (Res.tmp rfl Res.nil) ?_)
  exact ⟨_, rfl, rfl⟩
set_option maxHeartbeats 4000000 in
theorem f97 {g : Gz} {t : RwD} {yv : V} {bT b1 : Nat} {p : List V} {I J : Mem → Prop} {M : Mem} (h : RwF g t bT p)
    (hr : ∀ x y M, I M → WV tbl g yv [.agg [.int .i64 x, .int .i64 y]] M fun v M' => ∃ tt, v = .bool tt ∧ (tt = true → I M') ∧ (tt = false → J M')) (hI : I M) :
    WF tbl g 97 [yv, .ptr b1 0] ((b1, Arr1 [.ptr bT 0] {}) :: M) fun _ M' => I M' ∨ J M' := by
  obtain ⟨l0, l1, l2, l3⟩ := h.ld
  have hns := h.val.nS
  have hb1 : ((t.nS : Int) + 1).toNat = t.nS + 1 := by omega
  have hlm : limit = 35184372088832 := rfl
  have hN : (rep (t.nS + 1) [V.int .i64 0, V.int .i64 0]).length = (t.nS + 1) * 2 := rep_lenN _ _
  have hcl : (catTo (stepR t.sa t.sb) t.nS).length = t.nS * 2 := catTo_len _ fun _ _ => rfl
  have hci : IntL (catTo (stepR t.sa t.sb) t.nS) := catTo_int _ fun _ _ => IntL2 _ _
  refine WF.trim (WF.intro rfl (Nat.le_of_ble_eq_true rfl) ?_)
  repeat' first
    | refine W1.ldS rfl .here rfl (conjR (ReC.ldS rfl rfl .here rfl) (by simp) ?_)
    | refine W1.ldS rfl (.there .here) rfl (conjR (ReC.ldS rfl rfl (.there .here) rfl) (by simp) ?_)
    | refine W1.ldG rfl l1 (conjR (ReC.ldG rfl rfl l1) (by simp) ?_)
    | refine W1.ldG rfl l2 (conjR (ReC.ldG rfl rfl l2) (by simp) ?_)
    | refine W1.lenSlc rfl h.ok.hS.up.1 ?_
    | refine W1.add rfl rfl (by omega) (by omega) ?_
    | (refine W1.mksl rfl rfl (by omega) (by omega) (by omega) (by omega) rfl (fun bs => ?_); rw [Int.toNat_natCast, hb1])
    | refine W1.ldS rfl (.there .here) rfl ?_
    | refine W1.ldG rfl l1 ?_
    | refine W1.ldG rfl l2 ?_
    | (refine W1.cpyR (n2 := t.nS) rfl rfl (Src.rows h.ok.hS.up) hci.allSc hcl (by omega) .here (fun q => ?_); obtain ⟨cs1, e1, hl1, hi1⟩ : ∃ cs1, splice (rep (t.nS + 1) [V.int .i64 0, V.int .i64 0]) 0 ((catTo (stepR t.sa t.sb) t.nS).take (min t.nS t.nS * 2)) = cs1 ∧ cs1.length = (t.nS + 1) * 2 ∧ IntL cs1 := ⟨_, rfl, (spl_len (by rw [List.length_take]; omega)).trans hN, (rep_intN _ (IntL2 _ _)).spl (hci.tk _)⟩; rw [e1])
    | (refine W1.callV rfl rfl (WV.func ((f98 (n := t.nS) cmp99 (by omega) (by omega) hi1).mono fun v M' => ?_)); rintro ⟨cs3, hl3, hi3, rfl⟩)
    | refine W1.len rfl ?_
    | (refine WC.forO (blk := 0) (n := t.nS) [0, 49, 50] (fun _ (_ : Unit) => []) (fun i _ M' => ∃ M2, I M2 ∧ M' = (bs, Arr1 cs3 {}) :: (b1, Arr1 [.ptr bT 0] {}) :: M2) () (by omega) rfl (fun _ _ => rfl) (fun _ _ => rfl) (fun _ _ => rfl) (fun _ _ => rfl) ⟨rfl, rfl⟩ (subL.nil _) ⟨M, hI, rfl⟩ ?_ ?_ <;> first | (rintro i a M' hi ⟨M2, hI2, rfl⟩; obtain ⟨x, y, exy⟩ := hi3.row2 (n := t.nS + 1) (j := (i : Int)) (by omega) (by omega) (by omega)) | rintro a M' ⟨M2, hI2, rfl⟩)
    | refine W1.ia rfl rfl (by omega) (by omega) ?_
    | refine W1.ldX rfl .here (by omega) exy ?_
    | refine W1.alloc (d := 5) rfl (fun b5 => ?_)
    | refine W1.stAll rfl rfl rfl rfl rfl .here ?_
    | refine W1.ldAll rfl .here rfl ?_
    | (refine W1.callV rfl rfl (((hr _ _ _ hI2).frame (R := [_, _, _]) (List.perm_append_comm (l₁ := [_, _, _]))).mono fun v M' => ?_); rintro ⟨M3, ⟨tt, rfl, h1, h2⟩, rfl⟩)
    | exact ⟨(), _, [_], rfl, by repeat (first | exact subL.nil _ | refine subL.cons rfl ?_), List.perm_append_comm (l₂ := [_, _, _]), M3, h1 (by simpa using hc), rfl⟩
    | exact ⟨M3, [_, _, _], List.perm_append_comm, Or.inr (h2 (by simpa using hc))⟩
    | exact ⟨M2, [_, _], List.Perm.refl _, Or.inl hI2⟩
    | refine WC.ret ?_
    | refine WC.block (id := 1) ?_
    | refine WC.seq ?_
    | refine WC.region ?_
    | refine WC.draw ?_
    | refine WC.skip ?_
    | refine WC.cond rfl (fun hc => ?_) (fun hc => ?_)
    | refine WO.nil ?_
    | refine WO.cons ?_
    | refine WD.nil ?_
    | refine WD.cons0 ?_
    | refine WD.consH ?_
    | refine WD.consR ?_
    | refine W1.mv rfl ?_
    | refine W1.nilck rfl ?_
    | refine W1.fa rfl ?_
    | refine W1.neq rfl rfl ?_
    | refine W1.not rfl ?_
    | refine W1.bld rfl rfl ?_
    | refine W1.bldS rfl rfl rfl (fun bb => ?_)
    | refine Exists.intro _ (And.intro Res.nil ?_)
  refine W1.appK (n := 1) (c := t.nS + 1) (len := t.nS) rfl rfl (Src.row .here (Nat.le_of_ble_eq_true rfl)) (by decide) (by omega) rfl rfl (by omega) (by omega) (.there .here) ?_
  generalize hg2 : splice cs1 (0 + t.nS * 2) _ = cs2
  have hl2 : cs2.length = (t.nS + 1) * 2 := by rw [← hg2]; exact (spl_len (show _ + 2 ≤ _ by omega)).trans hl1
  have hi2 : IntL cs2 := by rw [← hg2]; exact hi1.set2
  repeat' first
    | refine WC.drop (M' := (bs, Arr1 cs2 {}) :: (b1, Arr1 [.ptr bT 0] {}) :: M) (List.sublist_cons_self _ _) ?_
    | (refine W1.callV rfl rfl (WV.func ((f98 (n := t.nS + 1) cmp99 (by omega) (by omega) hi2).mono fun v M' => ?_)); rintro ⟨cs3, hl3, hi3, rfl⟩)
    | refine W1.len rfl ?_
    | (refine WC.forO (blk := 0) (n := t.nS + 1) [0, 49, 50] (fun _ (_ : Unit) => []) (fun i _ M' => ∃ M2, I M2 ∧ M' = (bs, Arr1 cs3 {}) :: (b1, Arr1 [.ptr bT 0] {}) :: M2) () (by omega) rfl (fun _ _ => rfl) (fun _ _ => rfl) (fun _ _ => rfl) (fun _ _ => rfl) ⟨rfl, rfl⟩ (subL.nil _) ⟨M, hI, rfl⟩ ?_ ?_ <;> first | (rintro i a M' hi ⟨M2, hI2, rfl⟩; obtain ⟨x, y, exy⟩ := hi3.row2 (n := t.nS + 1) (j := (i : Int)) (by omega) (by omega) (by omega)) | rintro a M' ⟨M2, hI2, rfl⟩)
    | refine W1.ia rfl rfl (by omega) (by omega) ?_
    | refine W1.ldX rfl .here (by omega) exy ?_
    | refine W1.alloc (d := 5) rfl (fun b5 => ?_)
    | refine W1.stAll rfl rfl rfl rfl rfl .here ?_
    | refine W1.ldAll rfl .here rfl ?_
    | (refine W1.callV rfl rfl (((hr _ _ _ hI2).frame (R := [_, _, _]) (List.perm_append_comm (l₁ := [_, _, _]))).mono fun v M' => ?_); rintro ⟨M3, ⟨tt, rfl, h1, h2⟩, rfl⟩)
    | exact ⟨(), _, [_], rfl, by repeat (first | exact subL.nil _ | refine subL.cons rfl ?_), List.perm_append_comm (l₂ := [_, _, _]), M3, h1 (by simpa using hc), rfl⟩
    | exact ⟨M3, [_, _, _], List.perm_append_comm, Or.inr (h2 (by simpa using hc))⟩
    | exact ⟨M2, [_, _], List.Perm.refl _, Or.inl hI2⟩
    | refine WC.ret ?_
    | refine WC.block (id := 1) ?_
    | refine WC.seq ?_
    | refine WC.region ?_
    | refine WC.skip ?_
    | refine WC.cond rfl (fun hc => ?_) (fun hc => ?_)
    | refine WO.nil ?_
    | refine WO.cons ?_
    | refine WD.nil ?_
    | refine WD.cons0 ?_
    | refine W1.mv rfl ?_
    | refine W1.not rfl ?_
    | refine Exists.intro _ (And.intro Res.nil ?_)
end Go.Ax
end
section
namespace Go.Ax
open Go.Ax.Ir
theorem rangeM {g : Gz} {t : RwD} {bT b1 p0 : Nat} {p : List V} {asg body : ICode} {L : Env} {M0 : Mem} {K : X → Env → Mem → Prop} {fo : Opd} {I : Mem → Prop} {J : X → Mem → Prop} (h : RwF g t bT p) (hf : lkO L fo = some (.func 97 [] [.ptr b1 0])) (hI : I M0)
    (hr : ∀ l x y M, I M → WC tbl g (some l) asg ((p0, .agg [.int .i64 x, .int .i64 y]) :: L) M fun x L1 M1 => x = .normal ∧ WC tbl g (some l) body L1 M1 fun x _ M3 => ∃ M4 R, M3.Perm (R ++ M4) ∧ (x = .normal → I M4) ∧ (x ≠ .normal → J x M4))
    (hk : ∀ M, I M → K .normal L M) (hj : ∀ x M, x ≠ .normal → J x M → K x L M) :
    WC tbl g none (.rangef fo [p0] asg body) L ((b1, Arr1 [.ptr bT 0] {}) :: M0) K := by
  refine WC.rangef hf fun l => ?_
  refine WV.func (WF.permM (List.Perm.swap _ _ _) ((f97 (I := fun M => ∃ M2, I M2 ∧ M = (l, LoopAt L [p0] asg body .ready .normal) :: M2) (J := fun M => ∃ x M2, x ≠ .normal ∧ J x M2 ∧ M = (l, LoopAt L [p0] asg body (roundSt x) x) :: M2) h (fun x y M hM => ?_) ⟨M0, hI, rfl⟩).mono fun v M' => ?_))
  · obtain ⟨M2, hI2, rfl⟩ := hM
    refine WV.trim (WV.yield .here (L0 := (p0, .agg [.int .i64 x, .int .i64 y]) :: L) rfl ?_)
    refine ((hr l x y M2 hI2).frame (R := [_]) (List.perm_append_comm (l₁ := [_]) (l₂ := M2))).mono ?_
    rintro x L1 _ ⟨M1, ⟨rfl, hb⟩, rfl⟩
    refine ⟨rfl, _, Up.app .here M1, ?_⟩
    refine (hb.frame (R := [_]) (List.Perm.refl _)).mono ?_
    rintro x _ _ ⟨M3, ⟨M4, R, hP, h1, h2⟩, rfl⟩
    refine ⟨.busy, .normal, _, Up.app .here M3, (l, LoopAt L [p0] asg body (roundSt x) x) :: M4, R, ?_, roundB x, rfl, ?_, ?_⟩
    · refine (hP.append_right _).trans ?_
      rw [List.append_assoc]
      exact List.Perm.append_left R (List.perm_append_comm (l₁ := M4) (l₂ := [_]))
    · intro hx
      cases x with
      | normal => exact ⟨M4, h1 rfl, rfl⟩
      | _ => cases hx
    · intro hx
      cases x with
      | normal => cases hx
      | _ => exact ⟨_, M4, by simp, h2 (by simp), rfl⟩
  · rintro (⟨M2, h, rfl⟩ | ⟨x, M2, hx, hj', rfl⟩)
    · exact ⟨.ready, .normal, _, by simp, .here, hk _ h⟩
    · exact ⟨roundSt x, x, _, by cases x <;> simp [roundSt], .here, hj x _ hx hj'⟩
structure FL (t : RwD) (n : Nat) (cs : List V) : Prop where
  hl : cs.length = n * 14
  row : ∀ i, i < n → ∃ (p : List V) (a b bh mn : Int), (cs.drop (0 + i * 14)).take 14 = p ++ [.int .i64 a, .int .i64 b, .int .i64 bh, .int .i64 mn] ∧ PtOk t p ∧ -1 ≤ bh ∧ bh < i
structure Met (t : RwD) (n : Nat) (es : List (V × V × Nat)) (clk : Nat) : Prop where
  el : es.length = n
  nd : (es.map (·.1)).Nodup
  bn : ∀ e ∈ es, e.2.2 < clk
  ek : ∀ e ∈ es, (∃ p, e.1 = .agg p ∧ PtOk t p) ∧ ∃ q : Int, e.2.1 = .int .i64 q ∧ 1 ≤ q
theorem KA.len {t : RwD} (h : t.nF ≤ 5) : (KA t).length ≤ 6 := by simp [KA]; omega
theorem Met.bound {t : RwD} {n clk : Nat} {es : List (V × V × Nat)} (h : Met t n es clk) (h5 : t.nF ≤ 5) : n ≤ 1073741824 := by
  obtain ⟨A, eA⟩ : ∃ A : List V, A = (KA t).map (fun k => V.int .i64 k) ++ [.bool true, .bool false] := ⟨_, rfl⟩
  have hA : A.length ≤ 8 := by have := KA.len h5; simp only [eA, List.length_append, List.length_map, List.length_cons, List.length_nil]; omega
  have h1 := nodup_len h.nd (S := (allL A 10).map V.agg) (fun x hx => by
    obtain ⟨e, he, rfl⟩ := List.mem_map.1 hx
    obtain ⟨⟨p, hp, hpt⟩, _⟩ := h.ek e he
    obtain ⟨k, b, rfl, hk⟩ := hpt
    rw [hp]
    refine List.mem_map.2 ⟨P5 k b, ?_, rfl⟩
    have hm : ∀ x ∈ P5 k b, x ∈ A := by
      have mi : ∀ i, i < 5 → V.int .i64 (k i) ∈ A := fun i hi => eA ▸ List.mem_append_left _ (List.mem_map.2 ⟨k i, hk i hi, rfl⟩)
      have mb : ∀ y : Bool, V.bool y ∈ A := fun y => eA ▸ List.mem_append_right _ (by cases y <;> simp)
      intro x hx
      simp only [P5, List.mem_cons, List.mem_nil_iff, or_false] at hx
      rcases hx with rfl | rfl | rfl | rfl | rfl | rfl | rfl | rfl | rfl | rfl
      · exact mi 0 (by decide)
      · exact mb _
      · exact mi 1 (by decide)
      · exact mb _
      · exact mi 2 (by decide)
      · exact mb _
      · exact mi 3 (by decide)
      · exact mb _
      · exact mi 4 (by decide)
      · exact mb _
    have h9 := allL_mem hm
    rw [P5.len] at h9
    exact h9)
  rw [List.length_map, h.el, List.length_map, allL_len] at h1
  have h2 : A.length ^ 10 ≤ 8 ^ 10 := Nat.pow_le_pow_left hA 10
  have h3 : (8 : Nat) ^ 10 = 1073741824 := rfl
  omega
abbrev q10 : EqK := .ag [.i, .b, .i, .b, .i, .b, .i, .b, .i, .b]
def PtK (t : RwD) (v : V) : Prop := ∃ p, v = .agg p ∧ PtOk t p
theorem keyP {t : RwD} : KeyEq q10 (PtK t) := by
  rintro _ _ ⟨_, rfl, k, b, rfl, _⟩ ⟨_, rfl, k', b', rfl, _⟩
  refine ⟨(k 0 == k' 0 && (b 0 == b' 0 && (k 1 == k' 1 && (b 1 == b' 1 && (k 2 == k' 2 && (b 2 == b' 2 && (k 3 == k' 3 && (b 3 == b' 3 && (k 4 == k' 4 && (b 4 == b' 4 && true)))))))))), rfl, ?_⟩
  simp [P5]
theorem keyP1 {t : RwD} {p : List V} (h : PtOk t p) : eqk q10 (.agg p) (.agg p) = some true := by
  obtain ⟨tt, h1, h2⟩ := keyP (t := t) (.agg p) (.agg p) ⟨p, rfl, h⟩ ⟨p, rfl, h⟩
  rw [h1, h2.2 rfl]
theorem Met.look {t : RwD} {n clk : Nat} {es : List (V × V × Nat)} (h : Met t n es clk) {p : List V} (hp : PtOk t p) :
    (∃ r q, findK q10 (.agg p) es = some (some r) ∧ r.2.1 = .int .i64 q ∧ 1 ≤ q) ∨ (findK q10 (.agg p) es = some none ∧ Met t (n + 1) (es ++ [(.agg p, .int .i64 1, clk)]) (clk + 1)) := by
  rcases findK_eq keyP (k := .agg p) ⟨p, rfl, hp⟩ (es := es) (fun e he => (h.ek e he).1) with ⟨j, v, m, h1, e, he, h2⟩ | ⟨h1, h2⟩
  · obtain ⟨_, q, h3, h4⟩ := h.ek e he
    exact Or.inl ⟨_, q, h1, by rw [← h2]; exact h3, h4⟩
  · refine Or.inr ⟨h1, ⟨by simp [h.el], ?_, fun e he => ?_, fun e he => ?_⟩⟩
    · rw [List.map_append, List.nodup_append]
      refine ⟨h.nd, by simp, fun a ha b hb e => ?_⟩
      simp only [List.map_cons, List.map_nil, List.mem_singleton] at hb
      subst hb; subst e; exact h2 ha
    · rcases List.mem_append.1 he with he | he
      · have := h.bn e he; omega
      · rw [List.mem_singleton.1 he]; exact Nat.lt_succ_self _
    · rcases List.mem_append.1 he with he | he
      · exact h.ek e he
      · rw [List.mem_singleton.1 he]; exact ⟨⟨p, rfl, hp⟩, 1, rfl, Int.le_refl _⟩
theorem FL.snoc {t : RwD} {n : Nat} {cs p : List V} (h : FL t n cs) (hp : PtOk t p) {a b bh mn : Int} (h1 : -1 ≤ bh) (h2 : bh < n) : FL t (n + 1) (cs ++ (p ++ [.int .i64 a, .int .i64 b, .int .i64 bh, .int .i64 mn])) := by
  have hl := h.hl
  have hpl := hp.len
  refine ⟨by simp only [List.length_append, List.length_cons, List.length_nil]; omega, fun i hi => ?_⟩
  by_cases hin : i < n
  · obtain ⟨q, a', b', bh', mn', e, g1, g2, g3⟩ := h.row i hin
    refine ⟨q, a', b', bh', mn', ?_, g1, g2, g3⟩
    rw [← e, List.drop_append_of_le_length (by omega), List.take_append_of_le_length (by rw [List.length_drop]; omega)]
  · obtain rfl : i = n := by omega
    refine ⟨p, a, b, bh, mn, ?_, hp, h1, h2⟩
    rw [show 0 + i * 14 = cs.length by omega, List.drop_left]
    exact List.take_of_length_le (by simp; omega)
theorem FL.one {t : RwD} {p : List V} (hp : PtOk t p) {a b mn : Int} : FL t 1 (p ++ [.int .i64 a, .int .i64 b, .int .i64 (-1), .int .i64 mn]) := by
  have h0 : FL t 0 [] := ⟨rfl, fun i hi => absurd hi (Nat.not_lt_zero _)⟩
  exact h0.snoc hp (by decide) (by decide)
theorem Met.one {t : RwD} {p : List V} (hp : PtOk t p) : Met t 1 [(.agg p, .int .i64 1, 0)] 1 := by
  refine ⟨rfl, by simp, fun e he => ?_, fun e he => ?_⟩
  · rw [List.mem_singleton.1 he]; exact Nat.zero_lt_one
  · rw [List.mem_singleton.1 he]; exact ⟨⟨p, rfl, hp⟩, 1, rfl, Int.le_refl _⟩
end Go.Ax
end
section
namespace Go.Ax
open Go.Ax.Ir
def ir64b : ICode := cBl (cBl (cS2 (cS1 (cS2 (cS2 (cS2 (cS2 ir64.code)))))))
def ir64r : ICode := cBl (cS2 (cS2 (cS2 (cS2 (cS2 (cSc (cBl (cS1 (cS2 ir64b)))))))))
abbrev BfM (bT bx b2 b5 b6 b21 ba n : Nat) (cap : Option Nat) (most : Int) (vf : V) (cs : List V) (es : List (V × V × Nat)) (clk : Nat) (Mx : Mem) : Mem :=
  (b6, Arr1 [.func 53 [.ptr bT 0] []] {}) :: (b5, Arr1 [.map b21] {}) :: (b21, MapAt es clk) :: (ba, Arr1 cs {}) :: (b2, Arr1 [.ptr bx 0] {}) :: (bx, Arr1 [.slice ba 0 n cap 14, .int .i64 most, vf] {}) :: Mx
def BfI (t : RwD) (bT bx b2 b5 b6 b7 b8 b21 : Nat) (most : Int) (vf : V) (i : Nat) (r : List V) (Mx : Mem) (M : Mem) : Prop :=
  ∃ n cap ba cs es clk, FL t n cs ∧ Met t n es clk ∧ (cap = none ∨ cap = some n) ∧ i < n ∧ M = (b8, Arr1 r {}) :: (b7, Arr1 [.int .i64 (i : Int)] {}) :: BfM bT bx b2 b5 b6 b21 ba n cap most vf cs es clk Mx
theorem perm_rd (x a b c d e f h i : Nat × BP) (l : Mem) : (x :: a :: b :: c :: d :: e :: f :: h :: i :: l).Perm ([a, b, c] ++ (d :: e :: f :: h :: i :: x :: l)) :=
  (List.perm_middle (a := x) (l₁ := [a, b, c, d, e, f, h, i]) (l₂ := l)).symm
attribute [local irreducible] W1 WO WC WD WF WV
set_option maxHeartbeats 8000000 in
theorem f64_round {g : Gz} {t : RwD} {bT bx b2 b5 b6 b7 b8 b21 l i : Nat} {M : Mem} {pp : List V} {most x y a b bh mn : Int} {vf : V} {kq : Nat → Int} {bq : Nat → Bool} {L : Env} {Mx : Mem} (h : RwF g t bT pp) (hkq : ∀ j, j < 5 → kq j ∈ KA t)
    (hL : subL L [(1, .ptr bT 0), (2, .ptr b2 0), (5, .ptr b5 0), (6, .ptr b6 0), (7, .ptr b7 0), (8, .ptr b8 0)])
    (hI : BfI t bT bx b2 b5 b6 b7 b8 b21 most vf i (P5 kq bq ++ [.int .i64 a, .int .i64 b, .int .i64 bh, .int .i64 mn]) Mx M) :
    WC tbl g (some l) (cRa ir64r) ((62, .agg [.int .i64 x, .int .i64 y]) :: L) M fun z L1 M1 => z = .normal ∧ WC tbl g (some l) (cRb ir64r) L1 M1 fun z _ M3 => ∃ M4 R, M3.Perm (R ++ M4) ∧ (z = .normal → BfI t bT bx b2 b5 b6 b7 b8 b21 most vf i (P5 kq bq ++ [.int .i64 a, .int .i64 b, .int .i64 bh, .int .i64 mn]) Mx M4) ∧ (z ≠ .normal → False) := by
  obtain ⟨n, cap, ba, cs, es, clk, hF, hM, hcap, hin, rfl⟩ := hI
  have hlm : limit = 35184372088832 := rfl
  have hbd := hM.bound h.val.nF
  refine WC.weak (L' := (62, .agg [.int .i64 x, .int .i64 y]) :: [(1, .ptr bT 0), (2, .ptr b2 0), (5, .ptr b5 0), (6, .ptr b6 0), (7, .ptr b7 0), (8, .ptr b8 0)]) (subL.cons rfl (subL.cons (hL 1 _ rfl) (subL.cons (hL 2 _ rfl) (subL.cons (hL 5 _ rfl) (subL.cons (hL 6 _ rfl) (subL.cons (hL 7 _ rfl) (subL.cons (hL 8 _ rfl) (subL.nil _)))))))) ?_
  repeat' first
    | refine W1.alloc (d := 9) rfl (fun b9 => ?_)
    | refine W1.stAll rfl rfl rfl rfl rfl .here ?_
    | refine WC.region ?_
    | refine WO.nil ?_
    | refine WO.cons ?_
  refine ⟨rfl, ?_⟩
  repeat' first
    | refine W1.ldS rfl (.there (.there (.there .here))) rfl ?_
    | refine W1.ldX (vs := P5 kq bq) rfl (.there .here) (Nat.le_of_ble_eq_true rfl) rfl ?_
    | refine W1.ldAll rfl .here rfl ?_
    | (refine W1.callV rfl rfl (WV.func ((f53 h (q := P5 kq bq) ⟨kq, bq, rfl, hkq⟩).mono fun v M' => ?_)); rintro ⟨rfl, q', e, rfl, hq'⟩; have hlook := hM.look hq'; obtain ⟨k2, b2', rfl, hk2⟩ := hq')
    | refine W1.alloc (d := 10) rfl (fun b10 => ?_)
    | refine W1.stAll rfl rfl rfl rfl rfl .here ?_
    | refine WC.block (id := 3) ?_
    | refine WC.seq ?_
    | refine WC.region ?_
    | refine WO.nil ?_
    | refine WO.cons ?_
    | refine W1.mv rfl ?_
    | refine W1.fa rfl ?_
    | refine W1.ext rfl rfl ?_
  rcases hlook with ⟨⟨j, v, m⟩, q, hf, hr2, hq1⟩ | ⟨hf, hM2⟩
  · obtain rfl : v = .int .i64 q := hr2
    have hq0 : decide (0 < q) = true := decide_eq_true (by omega)
    repeat' first
      | refine W1.ldS rfl (.there (.there (.there (.there (.there .here))))) rfl ?_
      | refine W1.ldAll rfl .here rfl ?_
      | refine W1.lkpW rfl rfl (.there (.there (.there (.there (.there (.there .here)))))) hf ?_
      | exact ⟨_, [_, _], List.Perm.refl _, fun _ => ⟨n, cap, ba, cs, es, clk, hF, hM, hcap, hin, rfl⟩, fun h => absurd rfl h⟩
      | refine WC.exit ?_
      | refine WC.cond_t rfl (by first | assumption | rfl) ?_
      | refine WO.nil ?_
      | refine WO.cons ?_
      | refine W1.guard_y rfl (by first | assumption | rfl) ?_
      | refine W1.guard_n rfl (by first | assumption | rfl) ?_
      | refine W1.guard rfl (fun hc => ?_) (fun hc => ?_)
      | refine W1.pick_t rfl (by first | assumption | rfl) rfl ?_
      | refine W1.pick_f rfl (by first | assumption | rfl) rfl ?_
      | refine W1.mv rfl ?_
      | refine W1.gtr rfl rfl ?_
      | refine W1.neq rfl rfl ?_
  · repeat' first
      | refine W1.lkpW rfl rfl (.there (.there (.there (.there (.there (.there .here)))))) hf (conjR (ReC.lkpW rfl rfl rfl (.there (.there (.there (.there (.there (.there .here)))))) hf rfl) (by simp) ?_)
      | refine W1.lkpW rfl rfl (.there (.there (.there (.there (.there (.there .here)))))) hf ?_
      | refine W1.mentW rfl rfl hf (.there (.there (.there (.there (.there (.there .here)))))) (And.intro (rs1 (ReC.lkpW rfl rfl rfl (.there (.there (.there (.there (.there (.there .here)))))) (findK_app (keyP1 (t := t) ⟨k2, b2', rfl, hk2⟩) hf) rfl)) (And.intro (by simp) ?_))
      | refine W1.mstW rfl rfl rfl hM.bn (.there (.there (.there (.there (.there (.there .here)))))) ?_
      | refine W1.ldAll rfl .here rfl (conjR (ReC.ldAll rfl rfl .here rfl) (by simp) ?_)
      | refine W1.ldAll rfl .here rfl ?_
      | refine W1.ldAll rfl (.there .here) rfl (conjR (ReC.ldAll rfl rfl (.there .here) rfl) (by simp) ?_)
      | refine W1.ldS rfl (.there (.there (.there (.there (.there .here))))) rfl (conjR (ReC.ldS rfl rfl (.there (.there (.there (.there (.there .here))))) rfl) (by simp) ?_)
      | refine W1.ldS rfl (.there (.there (.there (.there (.there .here))))) rfl ?_
      | refine W1.ldS rfl (.there (.there (.there (.there (.there (.there (.there (.there .here)))))))) rfl (conjR (ReC.ldS rfl rfl (.there (.there (.there (.there (.there (.there (.there (.there .here)))))))) rfl) (by simp) ?_)
      | refine W1.ldS rfl (.there (.there (.there (.there (.there (.there (.there (.there (.there .here))))))))) rfl (conjR (ReC.ldS rfl rfl (.there (.there (.there (.there (.there (.there (.there (.there (.there .here))))))))) rfl) (by simp) ?_)
      | refine W1.ldS rfl (.there (.there (.there .here))) rfl (conjR (ReC.ldS rfl rfl (.there (.there (.there .here))) rfl) (by simp) ?_)
      | refine W1.ldS rfl (.there (.there .here)) rfl (conjR (ReC.ldS rfl rfl (.there (.there .here)) rfl) (by simp) ?_)
      | refine W1.add (a := 0) (b := 1) rfl rfl (by decide) (by decide) ?_
      | refine W1.addU rfl rfl (fun z => ?_)
      | refine W1.bldS rfl rfl rfl (fun bb => ?_)
      | refine W1.appR rfl hcap rfl (Src.row .here (Nat.le_of_ble_eq_true rfl)) (.there (.there (.there (.there (.there (.there (.there (.there .here)))))))) hF.hl (by omega) (fun b' => And.intro (rs1 (ReC.ldS rfl rfl (.there (.there (.there (.there (.there (.there (.there (.there (.there .here))))))))) rfl)) (And.intro (by simp) ?_))
      | refine W1.st rfl rfl rfl rfl (.there (.there (.there (.there (.there (.there (.there (.there (.there (.there .here)))))))))) (Nat.le_of_ble_eq_true rfl) ?_
      | exact ⟨_, [_, _], List.Perm.refl _, fun _ => ⟨n, cap, ba, cs, es, clk, hF, hM, hcap, hin, rfl⟩, fun h => absurd rfl h⟩
      | refine WC.seq ?_
      | refine WC.draw ?_
      | refine WC.skip ?_
      | refine WC.exit ?_
      | refine WC.cond_t rfl (by first | assumption | rfl) ?_
      | refine WC.cond_f rfl (by first | assumption | rfl) ?_
      | refine WO.nil ?_
      | refine WO.cons ?_
      | refine WD.nil ?_
      | refine WD.cons0 ?_
      | refine WD.consH ?_
      | refine WD.consR ?_
      | refine W1.guard_y rfl (by first | assumption | rfl) ?_
      | refine W1.guard_n rfl (by first | assumption | rfl) ?_
      | refine W1.guard rfl (fun hc => ?_) (fun hc => ?_)
      | refine W1.pick_t rfl (by first | assumption | rfl) rfl ?_
      | refine W1.pick_f rfl (by first | assumption | rfl) rfl ?_
      | refine W1.mv rfl ?_
      | refine W1.nilck rfl ?_
      | refine W1.fa rfl ?_
      | refine W1.ext rfl rfl ?_
      | refine W1.gtr rfl rfl ?_
      | refine W1.neq rfl rfl ?_
      | refine W1.bld rfl rfl ?_
      | refine WD.cons ?_
    exact ⟨_, [_, _, _], perm_rd _ _ _ _ _ _ _ _ _ _, fun _ => ⟨n + 1, none, b', _, _, _, hF.snoc (p := P5 k2 b2') (a := x) (b := y) (bh := (i : Int)) (mn := z) ⟨k2, b2', rfl, hk2⟩ (by omega) (by omega), hM2, Or.inl rfl, by omega, rfl⟩, fun h => absurd rfl h⟩
end Go.Ax
end
section
namespace Go.Ax
open Go.Ax.Ir
theorem perm_r1 (a b c d e x f y : Nat × BP) (l : Mem) : (a :: b :: c :: d :: e :: x :: f :: y :: l).Perm ([a, b, c, d, e, f] ++ (y :: x :: l)) := by
  refine List.Perm.cons _ (List.Perm.cons _ (List.Perm.cons _ (List.Perm.cons _ (List.Perm.cons _ ?_))))
  exact (List.Perm.swap f x _).trans (List.Perm.cons _ (List.Perm.swap y x l))
theorem perm_r0 (b c d e x f y : Nat × BP) (l : Mem) : (b :: c :: d :: e :: x :: f :: y :: l).Perm ([b, c, d, e, f] ++ (y :: x :: l)) := by
  refine List.Perm.cons _ (List.Perm.cons _ (List.Perm.cons _ (List.Perm.cons _ ?_)))
  exact (List.Perm.swap f x _).trans (List.Perm.cons _ (List.Perm.swap y x l))
def Post64 (t : RwD) (bx : Nat) (most : Int) (vf : V) (Mx : Mem) (v : V) (M' : Mem) : Prop :=
  ∃ (k : Int) (n : Nat) (cap : Option Nat) (ba : Nat) (cs : List V), v = .int .i64 k ∧ -1 ≤ k ∧ k < n ∧ n ≤ 1073741824 ∧ FL t n cs ∧ (cap = none ∨ cap = some n) ∧ M' = (bx, Arr1 [.slice ba 0 n cap 14, .int .i64 most, vf] {}) :: (ba, Arr1 cs {}) :: Mx
attribute [local irreducible] W1 WO WC WD WF WV
set_option maxHeartbeats 8000000 in
theorem f64 {g : Gz} {t : RwD} {bT bx : Nat} {pp : List V} {most : Int} {vf : V} {Mx : Mem} (h : RwF g t bT pp) (hv : ∀ q A, PtOk t q → WV tbl g vf [.agg q] (A ++ Mx) fun v M' => M' = A ++ Mx ∧ ∃ tt, v = .bool tt) :
    WF tbl g 64 [.ptr bx 0, .ptr bT 0] ((bx, Arr1 [.nilslice, .int .i64 most, vf] {}) :: Mx) (Post64 t bx most vf Mx) := by
  obtain ⟨l0, l1, l2, l3⟩ := h.ld
  obtain ⟨k, b, rfl, hk⟩ : ∃ k b, pp = P5 k b ∧ ∀ i, i < 5 → k i ∈ KA t := h.pt
  have hp : PtOk t (P5 k b) := ⟨k, b, rfl, hk⟩
  have hf0 : findK q10 (.agg (P5 k b)) [] = some none := by simp [findK, keyP1 hp, find]
  refine WF.trim (WF.intro rfl (Nat.le_of_ble_eq_true rfl) ?_)
  repeat' first
    | refine W1.box (d := 2) rfl rfl (fun b2 => ?_)
    | refine W1.ldG rfl l3 (conjR (ReC.ldG rfl rfl l3) (by simp) ?_)
    | refine W1.ldG rfl l3 ?_
    | refine W1.bldS rfl rfl rfl (fun ba => ?_)
    | refine W1.mkmapW (fun b21 => ?_)
    | refine W1.mapupW rfl rfl rfl hf0 .here ?_
    | refine W1.alloc (d := 5) rfl (fun b5 => ?_)
    | refine W1.alloc (d := 6) rfl (fun b6 => ?_)
    | refine W1.alloc (d := 7) rfl (fun b7 => ?_)
    | refine WC.seq ?_
    | refine WC.region ?_
    | refine WC.draw ?_
    | refine WO.nil ?_
    | refine WO.cons ?_
    | refine WD.nil ?_
    | refine WD.cons0 ?_
    | refine WD.consH ?_
    | refine WD.consR ?_
    | refine W1.mv rfl ?_
    | refine W1.nilck rfl ?_
    | refine W1.fa rfl ?_
    | refine W1.mkfn rfl rfl ?_
    | refine W1.bld rfl rfl ?_
    | refine W1.ldS rfl .here rfl (conjR (ReC.ldS rfl rfl .here rfl) (by simp) ?_)
    | refine W1.st rfl rfl rfl rfl .here (Nat.le_of_ble_eq_true rfl) ?_
    | refine W1.st rfl rfl rfl rfl (.there (.there .here)) (Nat.le_of_ble_eq_true rfl) ?_
  refine WC.block (id := 0) ?_
  refine WC.loopT (ι := Nat × Nat) (fun x => 1073741825 - x.1) (fun x => [(1, .ptr bT 0), (2, .ptr b2 0), (5, .ptr b5 0), (6, .ptr b6 0), (7, .ptr x.2 0)]) (fun x M' => ∃ n cap ba cs es clk, FL t n cs ∧ Met t n es clk ∧ (cap = none ∨ cap = some n) ∧ x.1 ≤ n ∧ M' = (x.2, Arr1 [.int .i64 (x.1 : Int)] {}) :: BfM bT bx b2 b5 b6 b21 ba n cap most vf cs es clk Mx) ?_ (0, b7) _ _ (subL.cons rfl (subL.cons rfl (subL.cons rfl (subL.cons rfl (subL.cons rfl (subL.nil _)))))) ⟨1, some 1, ba, _, _, _, FL.one hp (a := 0) (b := 0) (mn := 0), Met.one hp, Or.inr rfl, Nat.zero_le _, rfl⟩
  rintro ⟨i, b7⟩ M' ⟨n, cap, ba, cs, es, clk, hF, hM, hcap, hin, rfl⟩
  dsimp only at hin ⊢
  have hbd := hM.bound h.val.nF
  by_cases hlt : i < n
  · have hdec : decide ((i : Int) < n) = true := decide_eq_true (by omega)
    obtain ⟨q, a, b', bh, mn, er, hq, hb1, hb2⟩ := hF.row i hlt
    obtain ⟨kq, bq, rfl, hkq⟩ := hq
    have hl := hF.hl
    have er' : (cs.drop (0 + ((i : Int)).toNat * 14)).take 14 = P5 kq bq ++ [.int .i64 a, .int .i64 b', .int .i64 bh, .int .i64 mn] := by rw [Int.toNat_natCast]; exact er
    repeat' first
      | refine WC.cond_t rfl hdec ?_
      | exact ⟨(bx, _) :: (ba, _) :: Mx, [_, _, _, _, _, _], perm_r1 _ _ _ _ _ _ _ _ _, (i : Int), n, cap, ba, cs, rfl, by omega, by omega, hbd, hF, hcap, rfl⟩
      | refine W1.alloc (d := 7) rfl (fun b7n => ?_)
      | refine W1.add rfl rfl (by omega) (by omega) ?_
      | exact ⟨(i + 1, b7n), _, [_, _], by simp only; omega, by repeat (first | exact subL.nil _ | refine subL.cons rfl ?_), perm_rot3' _ _ _ _, n, cap, ba, cs, es, clk, hF, hM, hcap, by simp only; omega, rfl⟩
      | refine W1.len rfl ?_
      | refine W1.ia rfl rfl (by omega) (by omega) ?_
      | refine W1.ldX rfl (.there (.there (.there (.there .here)))) (by omega) er' (conjR (ReC.ldX rfl rfl (.there (.there (.there (.there .here)))) (by omega) er') (by simp) ?_)
      | refine W1.alloc (d := 8) rfl (fun b8 => ?_)
      | refine W1.stAll rfl rfl rfl rfl rfl .here ?_
      | refine W1.ldX (vs := P5 kq bq) rfl .here (Nat.le_of_ble_eq_true rfl) rfl (conjR (ReC.ldX (vs := P5 kq bq) rfl rfl .here (Nat.le_of_ble_eq_true rfl) rfl) (by simp) ?_)
      | (refine W1.callV rfl rfl ((hv (P5 kq bq) [_, _, _, _, _, _, _, _] ⟨kq, bq, rfl, hkq⟩).mono fun v M' => ?_); rintro ⟨rfl, tt, rfl⟩; simp only [List.cons_append, List.nil_append])
      | (refine W1.callV rfl rfl (WV.func (f89.mono fun v M' => ?_)); rintro ⟨bI, rfl, rfl⟩)
      | refine WC.block (id := 1) ?_
      | refine WC.ret ?_
      | refine WC.seq ?_
      | refine WC.region ?_
      | refine WC.draw ?_
      | refine WC.scope ?_
      | refine WC.skip ?_
      | refine WC.exit ?_
      | refine WC.cond rfl (fun hc => ?_) (fun hc => ?_)
      | refine WO.nil ?_
      | refine WO.cons ?_
      | refine WD.nil ?_
      | refine WD.cons0 ?_
      | refine WD.consH ?_
      | refine WD.consR ?_
      | refine W1.mv rfl ?_
      | refine W1.nilck rfl ?_
      | refine W1.fa rfl ?_
      | refine W1.lss rfl rfl ?_
      | refine W1.eql rfl rfl ?_
      | refine Exists.intro _ (And.intro (Res.tmp rfl Res.nil) ?_)
      | refine W1.ldS rfl .here rfl (conjR (ReC.ldS rfl rfl .here rfl) (by simp) ?_)
      | refine W1.ldS rfl .here rfl ?_
      | refine W1.ldS rfl (.there .here) rfl ?_
      | refine W1.ldS rfl (.there (.there (.there (.there (.there .here))))) rfl (conjR (ReC.ldS rfl rfl (.there (.there (.there (.there (.there .here))))) rfl) (by simp) ?_)
      | refine W1.ldS rfl (.there (.there (.there (.there (.there (.there .here)))))) rfl (conjR (ReC.ldS rfl rfl (.there (.there (.there (.there (.there (.there .here)))))) rfl) (by simp) ?_)
      | refine W1.ldS rfl (.there (.there (.there (.there (.there (.there (.there .here))))))) rfl (conjR (ReC.ldS rfl rfl (.there (.there (.there (.there (.there (.there (.there .here))))))) rfl) (by simp) ?_)
      | refine W1.st rfl rfl rfl rfl .here (Nat.le_of_ble_eq_true rfl) ?_
    refine WC.block (id := 2) (rangeM (I := BfI t bT bx b2 b5 b6 b7 b8 b21 most vf i (P5 kq bq ++ [.int .i64 a, .int .i64 b', .int .i64 bh, .int .i64 mn]) Mx) (J := fun _ _ => False) h rfl ⟨n, cap, ba, cs, es, clk, hF, hM, hcap, hlt, rfl⟩ (fun l x y M hI => f64_round h hkq ?_ hI) ?_ ?_)
    · repeat (first | exact subL.nil _ | refine subL.cons rfl ?_)
    · rintro M' ⟨n, cap, ba, cs, es, clk, hF, hM, hcap, hin, rfl⟩
      have hbd := hM.bound h.val.nF
      repeat' first
        | refine W1.alloc (d := 7) rfl (fun b7n => ?_)
        | refine W1.add rfl rfl (by omega) (by omega) ?_
        | exact ⟨(i + 1, b7n), _, [_, _], by simp only; omega, by repeat (first | exact subL.nil _ | refine subL.cons rfl ?_), perm_rot3' _ _ _ _, n, cap, ba, cs, es, clk, hF, hM, hcap, by simp only; omega, rfl⟩
        | refine WC.seq ?_
        | refine WC.region ?_
        | refine WO.nil ?_
        | refine WO.cons ?_
        | refine W1.ldS rfl .here rfl ?_
        | refine W1.ldS rfl (.there .here) rfl ?_
        | refine W1.st rfl rfl rfl rfl .here (Nat.le_of_ble_eq_true rfl) ?_
    · rintro x M' _ hx; exact hx.elim
  · have hdec : decide ((i : Int) < n) = false := decide_eq_false (by omega)
    repeat' first
      | refine WC.cond_f rfl hdec ?_
      | exact ⟨(bx, _) :: (ba, _) :: Mx, [_, _, _, _, _], perm_r0 _ _ _ _ _ _ _ _, -1, n, cap, ba, cs, rfl, by omega, by omega, hbd, hF, hcap, rfl⟩
      | refine W1.len rfl ?_
      | refine WC.ret ?_
      | refine WC.seq ?_
      | refine WC.region ?_
      | refine WC.draw ?_
      | refine WC.exit ?_
      | refine WO.nil ?_
      | refine WO.cons ?_
      | refine WD.nil ?_
      | refine WD.cons0 ?_
      | refine WD.consR ?_
      | refine W1.mv rfl ?_
      | refine W1.nilck rfl ?_
      | refine W1.fa rfl ?_
      | refine W1.lss rfl rfl ?_
      | refine Exists.intro _ (And.intro (Res.tmp rfl Res.nil) ?_)
      | refine W1.ldS rfl .here rfl (conjR (ReC.ldS rfl rfl .here rfl) (by simp) ?_)
      | refine W1.ldS rfl (.there (.there (.there (.there (.there .here))))) rfl (conjR (ReC.ldS rfl rfl (.there (.there (.there (.there (.there .here))))) rfl) (by simp) ?_)
      | refine W1.ldS rfl (.there (.there (.there (.there (.there (.there .here)))))) rfl (conjR (ReC.ldS rfl rfl (.there (.there (.there (.there (.there (.there .here)))))) rfl) (by simp) ?_)
end Go.Ax
end
section
namespace Go.Ax
open Go.Ax.Ir
def LstR (s : V) (m : Nat) (X : Mem) : Prop := (s = .nilslice ∧ m = 0 ∧ X = []) ∨ ∃ b cs, s = .slice b 0 m none 2 ∧ cs.length = m * 2 ∧ IntL cs ∧ m ≠ 0 ∧ X = [(b, Arr1 cs {})]
theorem LstR.own {s : V} {m : Nat} {X : Mem} (h : LstR s m X) (hm : m ≤ 1099511627776) : ∃ R, X = toM R ∧ OwnC (.sl (List.replicate 2 .int)) s R (m * 2 + 1) := by
  rcases h with ⟨rfl, rfl, rfl⟩ | ⟨b, cs, rfl, hl, hi, h0, rfl⟩
  · exact ⟨[], rfl, OwnC.nil (by decide)⟩
  · exact ⟨[(b, cs)], rfl, OwnC.ints (w := 2) (n := m) (b := b) (cap := none) (by decide) (by omega) hi hm (by simp)⟩
theorem FL.cell {t : RwD} {n : Nat} {cs lit : List V} {o j : Nat} (e : (cs.drop o).take 14 = lit) (hj : j < 14) : cs[o + j]? = lit[j]? := by
  rw [← e, List.getElem?_take, if_pos hj, List.getElem?_drop]
theorem FL.two {cs lit : List V} {o : Nat} (e : (cs.drop o).take 14 = lit) : (cs.drop (o + 10)).take 2 = (lit.drop 10).take 2 := by
  rw [← e, List.drop_take, List.drop_drop, List.take_take]; rfl
section
variable {ft : FT FnR} {g : Gz}
theorem W1.appL2 {L : Env} {A B : Mem} {K : Env → Mem → Prop} {d m bs : Nat} {x y : Opd} {s : V} {X : Mem} {z w : Int} {c : Option Nat} {M1 : Mem} (hs : lkO L x = some s) (hX : LstR s m X) (hy : lkO L y = some (.slice bs 0 1 c 2)) (hbs : At (A ++ (X ++ B)) bs (Arr1 [.int .i64 z, .int .i64 w] {}) M1) (hm : m + 1 ≤ 2000000000)
    (h : ∀ s' X', LstR s' (m + 1) X' → K ((d, s') :: L) (X' ++ (A ++ B))) : W1 ft g ⟨some d, .app 2 16 x y, none⟩ L (A ++ (X ++ B)) K := by
  have hlm : limit = 35184372088832 := rfl
  rcases hX with ⟨rfl, rfl, rfl⟩ | ⟨bA, cs, rfl, hcs, hci, hk0, rfl⟩
  · refine W1.appN (n := 1) hs hy (Src.row hbs (Nat.le_of_ble_eq_true rfl)) (by decide) (by omega) (fun b' => ?_)
    exact h _ [(b', _)] (Or.inr ⟨b', _, rfl, rfl, IntL2 _ _, by decide, rfl⟩)
  · refine W1.app (n := 1) hs hy (Src.row hbs (Nat.le_of_ble_eq_true rfl)) (by decide) (At.app .here) (by omega) (by omega) (fun b' => ?_)
    refine h _ [(b', _)] (Or.inr ⟨b', _, rfl, ?_, ?_, by omega, rfl⟩)
    · have hX : ∀ X : List V, X.length = 2 → (cs.drop 0 ++ X).length = (m + 1) * 2 := by intro X hX; simp [hX]; omega
      exact hX _ rfl
    · exact IntL.app (by simpa using hci) (IntL2 _ _)
end
attribute [local irreducible] W1 WO WC WD WF WV
set_option maxHeartbeats 2000000 in
theorem f96 {g : Gz} {M : Mem} {s : V} {m : Nat} {X : Mem} (hX : LstR s m X) (hm : m ≤ 2000000000) : WF tbl g 96 [s] (X ++ M) fun _ M' => ∃ X', LstR s m X' ∧ M' = X' ++ M := by
  rcases hX with ⟨rfl, rfl, rfl⟩ | ⟨b, cs, rfl, hl, hi, h0, rfl⟩
  · refine WF.intro rfl (Nat.le_of_ble_eq_true rfl) ?_
    repeat' first
      | refine W1.lenN rfl ?_
      | refine W1.sub rfl rfl (by omega) (by omega) ?_
      | refine WC.unroll ?_
      | refine WC.cond_f rfl rfl ?_
      | refine WC.seq ?_
      | refine WC.block ?_
      | refine WC.region ?_
      | refine WC.exit ?_
      | refine WO.nil ?_
      | refine WO.cons ?_
      | refine W1.mv rfl ?_
      | refine W1.lss rfl rfl ?_
      | refine Exists.intro _ (And.intro Res.nil ?_)
    exact ⟨[], Or.inl ⟨rfl, rfl, rfl⟩, rfl⟩
  · refine WF.intro rfl (Nat.le_of_ble_eq_true rfl) ?_
    repeat' first
      | refine W1.len rfl ?_
      | refine W1.sub rfl rfl (by omega) (by omega) ?_
      | (refine WC.loopT (ι := Int × Int) (fun x => (m - x.1).toNat) (fun x => [(0, .slice b 0 m none 2), (2, .int .i64 x.1), (3, .int .i64 x.2)]) (fun x M' => 0 ≤ x.1 ∧ x.1 ≤ m ∧ x.2 = m - 1 - x.1 ∧ ∃ cs, cs.length = m * 2 ∧ IntL cs ∧ M' = (b, Arr1 cs {}) :: M) ?_ (0, (m : Int) - 1) _ _ (subL.cons rfl (subL.cons rfl (subL.cons rfl (subL.nil _)))) ⟨by simp, by simp, by simp, cs, hl, hi, rfl⟩)
      | refine WC.seq ?_
      | refine WC.block ?_
      | refine WC.region ?_
      | refine WO.nil ?_
      | refine WO.cons ?_
      | refine W1.mv rfl ?_
    rintro ⟨i, j⟩ M' ⟨h1, h2, h3, cs, hl, hi, rfl⟩
    dsimp only at h1 h2 h3 ⊢
    by_cases hij : i < j
    · have hdec : decide (i < j) = true := decide_eq_true hij
      obtain ⟨x, y, e1⟩ := hi.row2 (n := m) (by omega) (j := i) (by omega) (by omega)
      obtain ⟨z, w, e2⟩ := hi.row2 (n := m) (by omega) (j := j) (by omega) (by omega)
      have hl2 : (splice cs (0 + i.toNat * 2) [.int .i64 z, .int .i64 w]).length = m * 2 := (spl_len (show _ + 2 ≤ _ by omega)).trans hl
      repeat' first
        | refine WC.cond_t rfl hdec ?_
        | refine W1.ia rfl rfl (by omega) (by omega) ?_
        | refine W1.sub rfl rfl (by omega) (by omega) ?_
        | refine W1.add rfl rfl (by omega) (by omega) ?_
        | refine W1.ldX rfl .here (by omega) e1 (conjR (ReC.ldX rfl rfl .here (by omega) e1) (by simp) ?_)
        | refine W1.ldX rfl .here (by omega) e2 (conjR (ReC.ldX rfl rfl .here (by omega) e2) (by simp) ?_)
        | refine W1.stRow2 rfl rfl (by omega) .here ?_
        | exact ⟨(i + 1, j - 1), _, [], by simp only; omega, by repeat (first | exact subL.nil _ | refine subL.cons rfl ?_), List.Perm.refl _, by simp only; omega, by simp only; omega, by simp only; omega, _, (spl_len (show _ + 2 ≤ _ by omega)).trans hl2, hi.set2.set2, rfl⟩
        | refine WC.seq ?_
        | refine WC.block ?_
        | refine WC.region ?_
        | refine WC.draw ?_
        | refine WC.skip ?_
        | refine WO.nil ?_
        | refine WO.cons ?_
        | refine WD.nil ?_
        | refine WD.cons0 ?_
        | refine WD.consH ?_
        | refine WD.consR ?_
        | refine W1.mv rfl ?_
        | refine W1.lss rfl rfl ?_
    · have hdec : decide (i < j) = false := decide_eq_false hij
      repeat' first
        | refine WC.cond_f rfl hdec ?_
        | refine WC.seq ?_
        | refine WC.region ?_
        | refine WC.exit ?_
        | refine WO.nil ?_
        | refine WO.cons ?_
        | refine W1.mv rfl ?_
        | refine W1.lss rfl rfl ?_
        | refine Exists.intro _ (And.intro Res.nil ?_)
      exact ⟨[(b, Arr1 cs {})], Or.inr ⟨b, cs, rfl, hl, hi, h0, rfl⟩, rfl⟩
set_option maxHeartbeats 4000000 in
theorem f88 {g : Gz} {t : RwD} {bx ba n : Nat} {cap : Option Nat} {most k : Int} {vf : V} {cs : List V} {Mx : Mem} (hF : FL t n cs) (hn : n ≤ 1073741824) (h0 : 0 ≤ k) (h1 : k < n) :
    WF tbl g 88 [.ptr bx 0, .int .i64 k] ((bx, Arr1 [.slice ba 0 n cap 14, .int .i64 most, vf] {}) :: (ba, Arr1 cs {}) :: Mx) fun v M' => ∃ m X, LstR v m X ∧ m ≤ 1073741824 ∧ M' = X ++ ((bx, Arr1 [.slice ba 0 n cap 14, .int .i64 most, vf] {}) :: (ba, Arr1 cs {}) :: Mx) := by
  have hl := hF.hl
  refine WF.trim (WF.intro rfl (Nat.le_of_ble_eq_true rfl) ?_)
  repeat' first
    | (refine WC.loopT (ι := Int × V) (fun x => (x.1 + 1).toNat) (fun x => [(0, .ptr bx 0), (1, .int .i64 x.1), (4, x.2)]) (fun x M' => 0 ≤ x.1 ∧ x.1 < n ∧ ∃ (m : Nat) (X : Mem), LstR x.2 m X ∧ m + x.1 < n ∧ M' = (bx, Arr1 [.slice ba 0 n cap 14, .int .i64 most, vf] {}) :: (ba, Arr1 cs {}) :: (X ++ Mx)) ?_ (k, .nilslice) _ _ (subL.cons rfl (subL.cons rfl (subL.cons rfl (subL.nil _)))) ⟨h0, h1, 0, [], Or.inl ⟨rfl, rfl, rfl⟩, by simpa using h1, rfl⟩)
    | refine WC.seq ?_
    | refine WC.block ?_
    | refine WC.region ?_
    | refine WO.nil ?_
    | refine WO.cons ?_
    | refine W1.mv rfl ?_
  rintro ⟨i, s⟩ M' ⟨h0, h1, m, X, hX, hm, rfl⟩
  dsimp only at h0 h1 hX hm ⊢
  obtain ⟨q, a, b, bh, mn, er, hq, hb1, hb2⟩ := hF.row i.toNat (by omega)
  obtain ⟨kq, bq, rfl, hkq⟩ := hq
  have c12 : cs[0 + i.toNat * 14 + 12]? = some (.int .i64 bh) := FL.cell (t := t) (n := n) er (by decide)
  have c10 : (cs.drop (0 + i.toNat * 14 + 10)).take 2 = [.int .i64 a, .int .i64 b] := FL.two er
  repeat' first
    | refine W1.ldS rfl .here rfl ?_
    | refine W1.ia rfl rfl (by omega) (by omega) ?_
    | refine W1.ldS rfl (.there .here) c12 ?_
    | refine W1.ldX rfl (.there .here) (by omega) c10 ?_
    | refine W1.bldS rfl rfl rfl (fun bs => ?_)
    | refine W1.appL2 (A := [_, _, _]) rfl hX rfl .here (by omega) (fun s2 X2 hX2 => ?_)
    | refine W1.ldS rfl (At.app (.there .here)) rfl ?_
    | refine W1.ldS rfl (At.app (.there (.there .here))) c12 ?_
    | refine WC.seq ?_
    | refine WC.block ?_
    | refine WC.region ?_
    | refine WC.skip ?_
    | refine WC.exit ?_
    | refine WC.cond rfl (fun hc => ?_) (fun hc => ?_)
    | refine WO.nil ?_
    | refine WO.cons ?_
    | refine W1.mv rfl ?_
    | refine W1.nilck rfl ?_
    | refine W1.fa rfl ?_
    | refine W1.geq rfl rfl ?_
  · have h2 : 0 ≤ bh := by simpa using ‹decide (0 ≤ bh) = true›
    have h3 : bh < i := by omega
    exact ⟨(bh, s2), (bx, Arr1 [.slice ba 0 n cap 14, .int .i64 most, vf] {}) :: (ba, Arr1 cs {}) :: (X2 ++ Mx), [_], by simp only; omega, by repeat (first | exact subL.nil _ | refine subL.cons rfl ?_), perm_sw X2 [_, _, _] Mx, h2, by simp only; omega, m + 1, X2, hX2, by simp only; omega, rfl⟩
  · refine W1.callV rfl rfl (WV.func (WF.permM (perm_sw X [_, _] Mx).symm ((f96 (M := (bx, Arr1 [.slice ba 0 n cap 14, .int .i64 most, vf] {}) :: (ba, Arr1 cs {}) :: Mx) hX (by omega)).mono fun v M' => ?_)))
    rintro ⟨X', hX', rfl⟩
    repeat' first
      | exact ⟨_, [], List.Perm.refl _, m, X', hX', by omega, rfl⟩
      | refine WC.ret ?_
      | refine WC.seq ?_
      | refine WC.region ?_
      | refine WO.nil ?_
      | refine WO.cons ?_
      | refine W1.mv rfl ?_
      | refine Exists.intro _ (And.intro (Res.tmp rfl Res.nil) ?_)
end Go.Ax
end
section
namespace Go.Ax
open Go.Ax.Ir
def PostB (w : Nat) (M : Mem) (v : V) (M' : Mem) : Prop := ∃ s R k e, v = .tup [s, .int .i64 e] ∧ OwnC (.sl (List.replicate w .int)) s R k ∧ k ≤ 4294967296 ∧ M' = toM R ++ M
attribute [local irreducible] W1 WO WC WD WF WV
set_option maxHeartbeats 1000000 in
theorem f87 {g : Gz} {A M : Mem} {t : RwD} {bT b1 : Nat} {p q : List V} (h : RwF g t bT p) (hq : PtOk t q) : WF tbl g 87 [.agg q, .ptr b1 0] (A ++ ((b1, Arr1 [.ptr bT 0] {}) :: M)) fun v M' => M' = A ++ ((b1, Arr1 [.ptr bT 0] {}) :: M) ∧ ∃ tt, v = .bool tt := by
  obtain ⟨k, b, rfl, hk⟩ := hq
  have hq : PtOk t (P5 k b) := ⟨k, b, rfl, hk⟩
  refine WF.trimS (WF.intro rfl (Nat.le_of_ble_eq_true rfl) ?_)
  repeat' first
    | refine W1.box (d := 2) rfl rfl (fun b2 => ?_)
    | refine W1.ldS rfl (.there (At.app .here)) rfl ?_
    | refine W1.ldAll rfl .here rfl ?_
    | (refine W1.callV rfl rfl (WV.func ((f49 h hq).mono fun v M' => ?_)); rintro ⟨n, X, hX, hn, rfl⟩)
    | refine W1.lenL rfl hX ?_
    | refine W1.eql rfl rfl ?_
    | exact ⟨(Suf.refl.cons).app, _, rfl⟩
    | refine WC.ret ?_
    | refine WC.seq ?_
    | refine WC.region ?_
    | refine WO.nil ?_
    | refine WO.cons ?_
    | refine W1.mv rfl ?_
    | refine Exists.intro _ (And.intro (Res.tmp rfl Res.nil) ?_)
set_option maxHeartbeats 1000000 in
theorem f58 {g : Gz} {M : Mem} {t : RwD} {bT : Nat} {p : List V} (h : RwF g t bT p) : WF tbl g 58 [.ptr bT 0] M fun v M' => (v = .tup [.nilslice, .bool false] ∧ M' = M) ∨ ∃ s m X, v = .tup [s, .bool true] ∧ LstR s m X ∧ m ≤ 1073741824 ∧ M' = X ++ M := by
  refine WF.trim (WF.intro rfl (Nat.le_of_ble_eq_true rfl) ?_)
  repeat' first
    | refine W1.box (d := 1) rfl rfl (fun b1 => ?_)
    | refine W1.alloc (d := 4) rfl (fun b4 => ?_)
    | refine W1.ldS rfl (.there .here) rfl ?_
    | (refine W1.callV rfl rfl (WV.func ((f64 h (fun q A hq => WV.func (f87 (p := p) h hq))).mono fun v M' => ?_)); rintro ⟨k, n, cap, ba, cs, rfl, hk0, hk1, hn, hF, hcap, rfl⟩)
    | exact ⟨M, [_, _, _], List.Perm.refl _, Or.inl ⟨rfl, rfl⟩⟩
    | (refine W1.callV rfl rfl (WV.func ((f88 hF hn (by simpa using ‹decide (k < 0) = false›) hk1).mono fun v M' => ?_)); rintro ⟨m, X, hX, hm, rfl⟩)
    | exact ⟨X ++ M, [_, _, _], perm_sw X [_, _, _] M, Or.inr ⟨_, m, X, rfl, hX, hm, rfl⟩⟩
    | refine WC.ret ?_
    | refine WC.seq ?_
    | refine WC.region ?_
    | refine WC.skip ?_
    | refine WC.cond rfl (fun hc => ?_) (fun hc => ?_)
    | refine WO.nil ?_
    | refine WO.cons ?_
    | refine W1.mv rfl ?_
    | refine W1.mkfn rfl rfl ?_
    | refine W1.lss rfl rfl ?_
    | refine W1.bld rfl rfl ?_
    | refine Exists.intro _ (And.intro (Res.tmp rfl (Res.tmp rfl Res.nil)) ?_)
    | refine W1.st rfl rfl rfl rfl .here (Nat.le_of_ble_eq_true rfl) ?_
set_option maxHeartbeats 1000000 in
theorem f22 {g : Gz} {M : Mem} {t : RwD} (ok : RwOk g t) : WF tbl g 22 [.agg t.cells] M (PostB 2 M) := by
  refine WF.trim (WF.intro rfl (Nat.le_of_ble_eq_true rfl) ?_)
  repeat' first
    | exact absurd (by simpa using ‹(!decide (e = 0)) = false›) he
    | refine W1.box (d := 1) rfl ok.sc3 (fun b1 => ?_)
    | (refine W1.callV rfl rfl (WV.func ((f48 ok).mono fun v M' => ?_)); rintro (⟨e, he, rfl, rfl⟩ | ⟨bT, p, rfl, val, pt, rfl⟩))
    | refine WC.row ok val pt (fun g' hg hF => ?_)
    | refine W1.ldAll rfl .here rfl ?_
    | (refine W1.callV rfl rfl (WV.func ((f58 hF).mono fun v M' => ?_)); rintro (⟨rfl, rfl⟩ | ⟨s, m, X, rfl, hX, hm, rfl⟩))
    | exact ⟨M, [_], List.Perm.refl _, _, [], 1, _, rfl, OwnC.nil (by decide), by decide, rfl⟩
    | exact ⟨M, [_, _], List.Perm.refl _, _, [], 1, _, rfl, OwnC.nil (by decide), by decide, rfl⟩
    | refine WC.ret ?_
    | refine WC.seq ?_
    | refine WC.region ?_
    | refine WC.skip ?_
    | refine WC.cond_t rfl (by first | assumption | rfl) ?_
    | refine WC.cond_f rfl (by first | assumption | rfl) ?_
    | refine WC.cond rfl (fun hc => ?_) (fun hc => ?_)
    | refine WO.nil ?_
    | refine WO.cons ?_
    | refine W1.mv rfl ?_
    | refine W1.ext rfl rfl ?_
    | refine W1.neq rfl rfl ?_
    | refine W1.not rfl ?_
    | refine Exists.intro _ (And.intro (Res.tmp rfl (Res.tmp rfl Res.nil)) ?_)
  obtain ⟨R, rfl, ho⟩ := hX.own (by omega)
  exact ⟨toM R ++ M, [_, _], (perm_sw (toM R) [_] M).cons _, _, R, m * 2 + 1, 0, rfl, ho, by omega, rfl⟩
end Go.Ax
end
section
namespace Go.Ax
open Go.Ax.Ir
attribute [local irreducible] W1 WO WC WD WF WV
set_option maxHeartbeats 1000000 in
theorem f63 {g : Gz} {M : Mem} {t : RwD} {q : List V} (hq : PtOk t q) : WF tbl g 63 [.agg q] M fun v M' => M' = M ∧ ∃ tt, v = .bool tt := by
  obtain ⟨k, b, rfl, hk⟩ := hq
  refine WF.trimS (WF.intro rfl (Nat.le_of_ble_eq_true rfl) ?_)
  repeat' first
    | refine W1.box (d := 1) rfl rfl (fun b2 => ?_)
    | exact ⟨Suf.refl.cons, _, rfl⟩
    | refine WC.ret ?_
    | refine WC.seq ?_
    | refine WC.region ?_
    | refine WO.nil ?_
    | refine WO.cons ?_
    | refine W1.mv rfl ?_
    | refine Exists.intro _ (And.intro (Res.tmp rfl Res.nil) ?_)
set_option maxHeartbeats 1000000 in
theorem f65 {g : Gz} {M : Mem} {t : RwD} {q : List V} (hq : PtOk t q) : WF tbl g 65 [.agg q] M fun v M' => M' = M ∧ ∃ tt, v = .bool tt := by
  obtain ⟨k, b, rfl, hk⟩ := hq
  refine WF.trimS (WF.intro rfl (Nat.le_of_ble_eq_true rfl) ?_)
  repeat' first
    | refine W1.box (d := 1) rfl rfl (fun b2 => ?_)
    | exact ⟨Suf.refl.cons, _, rfl⟩
    | refine WC.ret ?_
    | refine WC.seq ?_
    | refine WC.region ?_
    | refine WO.nil ?_
    | refine WO.cons ?_
    | refine W1.mv rfl ?_
    | refine Exists.intro _ (And.intro (Res.tmp rfl Res.nil) ?_)
set_option maxHeartbeats 1000000 in
theorem f29 {g : Gz} {M : Mem} {t : RwD} {steps : Int} (ok : RwOk g t) : WF tbl g 29 [.agg t.cells, .int .i64 steps] M fun v M' => M' = M ∧ ∃ a e, v = .tup [.int .i64 a, .int .i64 e] := by
  refine WF.trimS (WF.intro rfl (Nat.le_of_ble_eq_true rfl) ?_)
  repeat' first
    | exact absurd (by simpa using ‹(!decide (e = 0)) = false›) he
    | refine W1.box (d := 2) rfl ok.sc3 (fun b1 => ?_)
    | (refine W1.callV rfl rfl (WV.func ((f48 ok).mono fun v M' => ?_)); rintro (⟨e, he, rfl, rfl⟩ | ⟨bT, p, rfl, val, pt, rfl⟩))
    | refine WC.row ok val pt (fun g' hg hF => ?_)
    | refine W1.ldAll rfl .here rfl ?_
    | refine W1.alloc (d := 8) rfl (fun b8 => ?_)
    | (refine W1.callV rfl rfl (WV.func ((f44one .here).mono fun v M' => ?_)); rintro ⟨rfl, tt, rfl, htt⟩)
    | (refine W1.callV rfl rfl (WV.func ((f64 hF (fun q A hq => WV.func (f65 hq))).mono fun v M' => ?_)); rintro ⟨k, n, cap, ba, cs, rfl, hk0, hk1, hn, hFL, hcap, rfl⟩)
    | exact ⟨Suf.refl.cons.cons.cons.cons.cons, _, _, rfl⟩
    | exact ⟨Suf.refl.cons.cons.cons, _, _, rfl⟩
    | exact ⟨Suf.refl.cons, _, _, rfl⟩
    | refine W1.ldS rfl .here rfl ?_
    | refine W1.len rfl ?_
    | refine WC.ret ?_
    | refine WC.seq ?_
    | refine WC.block ?_
    | refine WC.region ?_
    | refine WC.skip ?_
    | refine WC.cond_f rfl (by first | assumption | rfl) ?_
    | refine WC.cond rfl (fun hc => ?_) (fun hc => ?_)
    | refine WO.nil ?_
    | refine WO.cons ?_
    | refine W1.mv rfl ?_
    | refine W1.fa rfl ?_
    | refine W1.ext rfl rfl ?_
    | refine W1.neq rfl rfl ?_
    | refine W1.bld rfl rfl ?_
    | refine W1.bldS rfl rfl rfl (fun bb => ?_)
    | refine Exists.intro _ (And.intro (Res.tmp rfl (Res.tmp rfl Res.nil)) ?_)
    | refine W1.st rfl rfl rfl rfl .here (Nat.le_of_ble_eq_true rfl) ?_
set_option maxHeartbeats 4000000 in
theorem f27 {g : Gz} {M : Mem} {t : RwD} (ok : RwOk g t) : WF tbl g 27 [.agg t.cells] M fun v M' => M' = M ∧ ∃ a b e, v = .tup [.int .i64 a, .int .i64 b, .int .i64 e] := by
  refine WF.trimS (WF.intro rfl (Nat.le_of_ble_eq_true rfl) ?_)
  repeat' first
    | exact absurd (by simpa using ‹(!decide (e = 0)) = false›) he
    | refine W1.box (d := 1) rfl ok.sc3 (fun b1 => ?_)
    | (refine W1.callV rfl rfl (WV.func ((f48 ok).mono fun v M' => ?_)); rintro (⟨e, he, rfl, rfl⟩ | ⟨bT, p, rfl, val, pt, rfl⟩))
    | refine WC.row ok val pt (fun g' hg hF => ?_)
    | refine W1.ldAll rfl .here rfl ?_
    | refine W1.alloc (d := 6) rfl (fun b6 => ?_)
    | (refine W1.callV rfl rfl (WV.func ((f64 hF (fun q A hq => WV.func (f63 hq))).mono fun v M' => ?_)); rintro ⟨k, n, cap, ba, cs, rfl, hk0, hk1, hn, hFL, hcap, rfl⟩)
    | exact ⟨Suf.refl.cons.cons.cons.cons, _, _, _, rfl⟩
    | exact ⟨Suf.refl.cons, _, _, _, rfl⟩
    | refine W1.ldS rfl .here rfl ?_
    | refine W1.len rfl ?_
    | refine WC.ret ?_
    | (refine WC.forO (blk := 0) (n := n) [5, 22, 23] (fun _ (x : Int × Int) => [(2, .int .i64 x.1), (3, .int .i64 x.2)]) (fun i _ M' => M' = (b6, Arr1 [.slice ba 0 n cap 14, .int .i64 (-1), .func 63 [] []] {}) :: (ba, Arr1 cs {}) :: (b1, Arr1 t.cells {}) :: M) (0, 0) (by omega) rfl (fun _ _ => rfl) (fun _ _ => rfl) (fun _ _ => rfl) (fun _ _ => rfl) ⟨rfl, rfl⟩ (subL.cons rfl (subL.cons rfl (subL.nil _))) rfl ?_ ?_ <;> first | (rintro i ⟨y, z⟩ M' hi rfl; obtain ⟨q, a, b', bh, mn, er, hq, hb1, hb2⟩ := hFL.row i hi; obtain ⟨kq, bq, rfl, hkq⟩ := hq; have hq : PtOk t (P5 kq bq) := ⟨kq, bq, rfl, hkq⟩; have hl := hFL.hl; have er' : (cs.drop (0 + ((i : Int)).toNat * 14)).take 14 = P5 kq bq ++ [.int .i64 a, .int .i64 b', .int .i64 bh, .int .i64 mn] := by rw [Int.toNat_natCast]; exact er) | rintro ⟨y, z⟩ M' rfl)
    | refine W1.ia rfl rfl (by omega) (by omega) ?_
    | refine W1.ldX rfl (.there .here) (by omega) er' ?_
    | refine W1.alloc (d := 8) rfl (fun b8 => ?_)
    | refine W1.ldX (vs := P5 kq bq) rfl .here (Nat.le_of_ble_eq_true rfl) rfl ?_
    | (refine W1.callV rfl rfl (WV.func ((f49 hF hq).mono fun v M' => ?_)); rintro ⟨m, X, hX, hm, rfl⟩)
    | refine W1.lenL rfl hX ?_
    | refine W1.ldS rfl (At.app .here) rfl (conjR (ReC.ldS rfl rfl (At.app .here) rfl) (by simp) ?_)
    | exact ⟨((m : Int), mn), (b6, Arr1 [.slice ba 0 n cap 14, .int .i64 (-1), .func 63 [] []] {}) :: (ba, Arr1 cs {}) :: (b1, Arr1 t.cells {}) :: M, X ++ [_], rfl, subL.cons rfl (subL.cons rfl (subL.cons rfl (subL.cons rfl (subL.cons rfl (subL.nil _))))), by rw [List.append_assoc]; exact List.Perm.refl _, rfl⟩
    | exact ⟨(y, z), (b6, Arr1 [.slice ba 0 n cap 14, .int .i64 (-1), .func 63 [] []] {}) :: (ba, Arr1 cs {}) :: (b1, Arr1 t.cells {}) :: M, X ++ [_], rfl, subL.cons rfl (subL.cons rfl (subL.cons rfl (subL.cons rfl (subL.cons rfl (subL.nil _))))), by rw [List.append_assoc]; exact List.Perm.refl _, rfl⟩
    | refine WC.seq ?_
    | refine WC.block ?_
    | refine WC.region ?_
    | refine WC.draw ?_
    | refine WC.skip ?_
    | refine WC.cond_t rfl (by first | assumption | rfl) ?_
    | refine WC.cond_f rfl (by first | assumption | rfl) ?_
    | refine WC.cond rfl (fun hc => ?_) (fun hc => ?_)
    | refine WO.nil ?_
    | refine WO.cons ?_
    | refine WD.nil ?_
    | refine WD.cons0 ?_
    | refine WD.consR ?_
    | refine W1.guard_y rfl (by first | assumption | rfl) ?_
    | refine W1.guard_n rfl (by first | assumption | rfl) ?_
    | refine W1.guard rfl (fun hc => ?_) (fun hc => ?_)
    | refine W1.pick_t rfl (by first | assumption | rfl) rfl ?_
    | refine W1.pick_f rfl (by first | assumption | rfl) rfl ?_
    | refine W1.mv rfl ?_
    | refine W1.fa rfl ?_
    | refine W1.ext rfl rfl ?_
    | refine W1.lss rfl rfl ?_
    | refine W1.eql rfl rfl ?_
    | refine W1.neq rfl rfl ?_
    | refine W1.bld rfl rfl ?_
    | refine Exists.intro _ (And.intro (Res.tmp rfl (Res.tmp rfl (Res.tmp rfl Res.nil))) ?_)
    | refine W1.st rfl rfl rfl rfl .here (Nat.le_of_ble_eq_true rfl) ?_
end Go.Ax
end
