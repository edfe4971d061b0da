import Derived.Test.YthlhpjjimbnabaaGreatE1
import Derived.Test.YthlhpjjimbnabaaGreatA4
import Derived.Test.YthlhpjjimbnabaaGreatA7
set_option linter.unusedSectionVars false
set_option linter.unusedVariables false
set_option linter.unusedSimpArgs false
section
namespace Go.Ax
open Go.Ax.Ir
def Cln (e n : Nat) (row : Nat → List V) (M : Mem) (v : V) (M' : Mem) : Prop := (v = .nilslice ∧ n = 0 ∧ M' = M) ∨ ∃ b cap, v = .slice b 0 n cap e ∧ (∀ c, cap = some c → n ≤ c) ∧ M' = (b, Arr1 (catTo row n) {}) :: M
theorem SlcR.cases {g : Gz} {M : Mem} {s : V} {n e : Nat} {row : Nat → List V} (h : SlcR g M s n e row) : (s = .nilslice ∧ n = 0) ∨ ∃ b o cap, s = .slice b o n cap e := by
  rcases h.1 with h1 | ⟨b, o, cap, h1, _⟩
  · exact Or.inl h1
  · exact Or.inr ⟨b, o, cap, h1⟩
attribute [local irreducible] W1 WO WC WD WF WV
theorem f54 {g : Gz} {M : Mem} {s : V} {n : Nat} {row : Nat → List V} (hs : SlcR g M s n 4 row) (hn : n ≤ 1000) : WF tbl g 54 [s] M (Cln 4 n row M) := by
  have hlm : limit = 35184372088832 := rfl
  refine WF.trim ?_
  rcases hs.cases with ⟨rfl, rfl⟩ | ⟨b, o, cap, rfl⟩
  · refine WF.intro rfl (Nat.le_of_ble_eq_true rfl) ?_
    repeat' first
      | refine W1.eqv rfl rfl rfl ?_
      | refine WC.cond_t rfl rfl ?_
      | refine WC.ret ?_
      | refine WC.seq ?_
      | refine WC.region ?_
      | refine WO.nil ?_
      | refine WO.cons ?_
      | refine W1.mv rfl ?_
      | refine Exists.intro _ (And.intro (Res.tmp rfl Res.nil) ?_)
    exact ⟨M, [], List.Perm.refl _, Or.inl ⟨rfl, rfl, rfl⟩⟩
  · by_cases h0 : n = 0
    · subst h0
      refine WF.intro rfl (Nat.le_of_ble_eq_true rfl) ?_
      repeat' first
        | refine W1.eqv rfl rfl rfl ?_
        | refine WC.cond_f rfl rfl ?_
        | refine W1.bldS (d := 5) rfl rfl rfl (fun bs => ?_)
        | refine W1.app0 rfl rfl (Src.rows hs.cons) ?_
        | refine WC.ret ?_
        | refine WC.seq ?_
        | refine WC.region ?_
        | refine WC.skip ?_
        | refine WO.nil ?_
        | refine WO.cons ?_
        | refine W1.mv rfl ?_
        | refine Exists.intro _ (And.intro (Res.tmp rfl Res.nil) ?_)
      exact ⟨_, [], List.Perm.refl _, Or.inr ⟨_, _, rfl, by simp, rfl⟩⟩
    · refine WF.intro rfl (Nat.le_of_ble_eq_true rfl) ?_
      repeat' first
        | refine W1.eqv rfl rfl rfl ?_
        | refine WC.cond_f rfl rfl ?_
        | refine W1.bldS (d := 5) rfl rfl rfl (fun bs => ?_)
        | refine W1.appG rfl rfl (Src.rows hs.cons) h0 (by omega) (Src.row .here (Nat.zero_le _)) (by omega) (fun b' => ?_)
        | refine WC.ret ?_
        | refine WC.seq ?_
        | refine WC.region ?_
        | refine WC.skip ?_
        | refine WO.nil ?_
        | refine WO.cons ?_
        | refine W1.mv rfl ?_
        | refine Exists.intro _ (And.intro (Res.tmp rfl Res.nil) ?_)
      exact ⟨(_, Arr1 (catTo row n) {}) :: M, [_], List.Perm.swap _ _ _, Or.inr ⟨_, none, by rw [Nat.zero_add]; rfl, by simp, rfl⟩⟩
theorem f55 {g : Gz} {M : Mem} {s : V} {n : Nat} {row : Nat → List V} (hs : SlcR g M s n 2 row) (hn : n ≤ 1000) : WF tbl g 55 [s] M (Cln 2 n row M) := by
  have hlm : limit = 35184372088832 := rfl
  refine WF.trim ?_
  rcases hs.cases with ⟨rfl, rfl⟩ | ⟨b, o, cap, rfl⟩
  · refine WF.intro rfl (Nat.le_of_ble_eq_true rfl) ?_
    repeat' first
      | refine W1.eqv rfl rfl rfl ?_
      | refine WC.cond_t rfl rfl ?_
      | refine WC.ret ?_
      | refine WC.seq ?_
      | refine WC.region ?_
      | refine WO.nil ?_
      | refine WO.cons ?_
      | refine W1.mv rfl ?_
      | refine Exists.intro _ (And.intro (Res.tmp rfl Res.nil) ?_)
    exact ⟨M, [], List.Perm.refl _, Or.inl ⟨rfl, rfl, rfl⟩⟩
  · by_cases h0 : n = 0
    · subst h0
      refine WF.intro rfl (Nat.le_of_ble_eq_true rfl) ?_
      repeat' first
        | refine W1.eqv rfl rfl rfl ?_
        | refine WC.cond_f rfl rfl ?_
        | refine W1.bldS (d := 5) rfl rfl rfl (fun bs => ?_)
        | refine W1.app0 rfl rfl (Src.rows hs.cons) ?_
        | refine WC.ret ?_
        | refine WC.seq ?_
        | refine WC.region ?_
        | refine WC.skip ?_
        | refine WO.nil ?_
        | refine WO.cons ?_
        | refine W1.mv rfl ?_
        | refine Exists.intro _ (And.intro (Res.tmp rfl Res.nil) ?_)
      exact ⟨_, [], List.Perm.refl _, Or.inr ⟨_, _, rfl, by simp, rfl⟩⟩
    · refine WF.intro rfl (Nat.le_of_ble_eq_true rfl) ?_
      repeat' first
        | refine W1.eqv rfl rfl rfl ?_
        | refine WC.cond_f rfl rfl ?_
        | refine W1.bldS (d := 5) rfl rfl rfl (fun bs => ?_)
        | refine W1.appG rfl rfl (Src.rows hs.cons) h0 (by omega) (Src.row .here (Nat.zero_le _)) (by omega) (fun b' => ?_)
        | refine WC.ret ?_
        | refine WC.seq ?_
        | refine WC.region ?_
        | refine WC.skip ?_
        | refine WO.nil ?_
        | refine WO.cons ?_
        | refine W1.mv rfl ?_
        | refine Exists.intro _ (And.intro (Res.tmp rfl Res.nil) ?_)
      exact ⟨(_, Arr1 (catTo row n) {}) :: M, [_], List.Perm.swap _ _ _, Or.inr ⟨_, none, by rw [Nat.zero_add]; rfl, by simp, rfl⟩⟩
theorem OwnC.flat {row : List Ty} {n b c k : Nat} (hk : n * c + n + 1 ≤ k) {cap : Option Nat} {cs : List V} (hw : row.length ≠ 0) (hn : n ≤ 1099511627776) (hc : ∀ c, cap = some c → n ≤ c) (h : ∀ i, i < n → OwnRow row ((cs.drop (i * row.length)).take row.length) [] c) :
    OwnC (.sl row) (.slice b 0 n cap row.length) [(b, cs)] k := by
  simp only [OwnC]
  refine ⟨n, cs, fun i => (cs.drop (i * row.length)).take row.length, fun _ => [], fun _ => c, h, hw, hn, by omega, by rw [sumTo_const]; omega, Or.inr ⟨b, 0, cap, rfl, hc, ?_, by rw [catA_nil]⟩⟩
  intro i _ j hj
  rw [List.getElem?_take, if_pos hj, List.getElem?_drop]
  congr 1; omega
abbrev tyFig : List Ty := [.str, .int, .bool, .int]
abbrev tyStep : List Ty := [.int, .int]
def FigL (t : RwD) (cs : List V) : Prop := cs.length = t.nF * 4 ∧ ∀ i, i < t.nF → cs[i * 4]? = some (.str (t.nm i)) ∧ (∃ h, cs[i * 4 + 1]? = some (.int .i64 h)) ∧ (∃ b, cs[i * 4 + 2]? = some (.bool b)) ∧ cs[i * 4 + 3]? = some (.int .i64 (t.wants i))
theorem FigL.row {t : RwD} {cs : List V} (h : FigL t cs) {i : Nat} (hi : i < t.nF) : ∃ h b, (cs.drop (i * 4)).take 4 = [.str (t.nm i), .int .i64 h, .bool b, .int .i64 (t.wants i)] := by
  obtain ⟨h0, ⟨x, h1⟩, ⟨b, h2⟩, h3⟩ := h.2 i hi
  refine ⟨x, b, List.ext_getElem? fun j => ?_⟩
  rw [List.getElem?_take, List.getElem?_drop]
  rcases (show j = 0 ∨ j = 1 ∨ j = 2 ∨ j = 3 ∨ 4 ≤ j by omega) with rfl | rfl | rfl | rfl | h4
  · exact h0
  · exact h1
  · exact h2
  · exact h3
  · rw [if_neg (by omega), List.getElem?_eq_none (by simp only [List.length_cons, List.length_nil]; omega)]
theorem FigL.setH {t : RwD} {cs : List V} (h : FigL t cs) {i : Nat} (hi : i < t.nF) (x : Int) : FigL t (splice cs (0 + ((i : Int)).toNat * 4 + 1) [.int .i64 x]) := by
  have hl := h.1
  rw [show 0 + ((i : Int)).toNat * 4 + 1 = i * 4 + 1 by omega]
  refine ⟨(spl_len (by simp only [List.length_singleton]; omega)).trans hl, fun j hj => ?_⟩
  obtain ⟨h0, h1, h2, h3⟩ := h.2 j hj
  rw [splice_one (by omega), splice_one (by omega), splice_one (by omega), splice_one (by omega), if_neg (show ¬ j * 4 = i * 4 + 1 by omega), if_neg (show ¬ j * 4 + 2 = i * 4 + 1 by omega), if_neg (show ¬ j * 4 + 3 = i * 4 + 1 by omega)]
  refine ⟨h0, ?_, h2, h3⟩
  by_cases e : j * 4 + 1 = i * 4 + 1
  · rw [if_pos e]; exact ⟨x, rfl⟩
  · rw [if_neg e]; exact h1
theorem FigL.setB {t : RwD} {cs : List V} (h : FigL t cs) {i : Nat} (hi : i < t.nF) (x : Bool) : FigL t (splice cs (0 + ((i : Int)).toNat * 4 + 2) [.bool x]) := by
  have hl := h.1
  rw [show 0 + ((i : Int)).toNat * 4 + 2 = i * 4 + 2 by omega]
  refine ⟨(spl_len (by simp only [List.length_singleton]; omega)).trans hl, fun j hj => ?_⟩
  obtain ⟨h0, h1, h2, h3⟩ := h.2 j hj
  rw [splice_one (by omega), splice_one (by omega), splice_one (by omega), splice_one (by omega), if_neg (show ¬ j * 4 = i * 4 + 2 by omega), if_neg (show ¬ j * 4 + 1 = i * 4 + 2 by omega), if_neg (show ¬ j * 4 + 3 = i * 4 + 2 by omega)]
  refine ⟨h0, h1, ?_, h3⟩
  by_cases e : j * 4 + 2 = i * 4 + 2
  · rw [if_pos e]; exact ⟨x, rfl⟩
  · rw [if_neg e]; exact h2
theorem own_fig {s : List UInt8} {h w : Int} {b : Bool} {c : Nat} (hs : s.length + 5 ≤ c) : OwnRow tyFig [.str s, .int .i64 h, .bool b, .int .i64 w] [] c := by
  simp only [tyFig, OwnRow, OwnC]
  refine ⟨_, _, [], [], s.length + 2, 3, rfl, ⟨⟨s, rfl, by omega⟩, rfl, by omega⟩, ⟨_, _, [], [], 1, 2, rfl, ⟨⟨_, rfl⟩, rfl, by omega⟩, ⟨_, _, [], [], 1, 1, rfl, ⟨⟨_, rfl⟩, rfl, by omega⟩, ⟨_, _, [], [], 1, 0, rfl, ⟨⟨_, rfl⟩, rfl, by omega⟩, ⟨rfl, rfl⟩, rfl, by omega⟩, rfl, by omega⟩, rfl, by omega⟩, rfl, by omega⟩
theorem FigL.clone {t : RwD} : FigL t (catTo t.fig t.nF) := by
  have e : ∀ i, i < t.nF → ∀ j, j < 4 → (catTo t.fig t.nF)[i * 4 + j]? = (t.fig i)[j]? := catTo_at t.nF fun i _ => rfl
  exact ⟨catTo_len _ fun i _ => rfl, fun i hi => ⟨e i hi 0 (by decide), ⟨_, e i hi 1 (by decide)⟩, ⟨_, e i hi 2 (by decide)⟩, e i hi 3 (by decide)⟩⟩
theorem FigL.own {t : RwD} {cs : List V} {b : Nat} {cap : Option Nat} (h : FigL t cs) (h5 : t.nF ≤ 5) (hc : ∀ c, cap = some c → t.nF ≤ c) (hN : ∀ i, i < t.nF → (t.nm i).length ≤ 1000000000) :
    OwnC (.sl tyFig) (.slice b 0 t.nF cap 4) [(b, cs)] 6000000000 := by
  exact OwnC.flat (row := tyFig) (n := t.nF) (k := 6000000000) (by omega) (b := b) (c := 1000000010) (cap := cap) (cs := cs) (by decide) (by omega) hc (fun i hi => by
    obtain ⟨x, y, e⟩ := h.row hi
    rw [show tyFig.length = 4 from rfl, e]
    exact own_fig (by have := hN i hi; omega))
end Go.Ax
end
section
namespace Go.Ax
open Go.Ax.Ir
theorem IntL.cat {sa sb : Nat → Int} : ∀ n, IntL (catTo (stepR sa sb) n)
  | 0 => fun v hv => by cases hv
  | n + 1 => (IntL.cat n).app (IntL2 _ _)
theorem Cln.own2 {n : Nat} {sa sb : Nat → Int} {M M' : Mem} {v : V} (h : Cln 2 n (stepR sa sb) M v M') (hn : n ≤ 1000) : ∃ R k, OwnC (.sl tyStep) v R k ∧ k ≤ 3000 ∧ M' = toM R ++ M := by
  rcases h with ⟨rfl, rfl, rfl⟩ | ⟨b, cap, rfl, hc, rfl⟩
  · exact ⟨[], 1, OwnC.nil (by decide), by decide, rfl⟩
  · exact ⟨[(b, _)], n * 2 + 1, OwnC.ints (w := 2) (by decide) (catTo_len _ fun _ _ => rfl) (IntL.cat n) (by omega) hc, by omega, rfl⟩
abbrev tyRow : List Ty := [.sl tyFig, .sl tyStep, .int]
def PostR (M : Mem) (v : V) (M' : Mem) : Prop := ∃ vs R k e, v = .tup [.agg vs, .int .i64 e] ∧ OwnRow tyRow vs R k ∧ k ≤ 7000000000 ∧ M' = toM R ++ M
theorem own_row {a b : V} {z : Int} {Ra Rb : Bks} {ka kb : Nat} (ha : OwnC (.sl tyFig) a Ra ka) (hb : OwnC (.sl tyStep) b Rb kb) : OwnRow tyRow [a, b, .int .i64 z] (Ra ++ Rb) (ka + kb + 1) := by
  simp only [tyRow, OwnRow]
  refine ⟨_, _, Ra, Rb, ka, kb + 1, rfl, ha, ⟨_, _, Rb, [], kb, 1, rfl, hb, ⟨_, _, [], [], 1, 0, rfl, ?_, ⟨rfl, rfl⟩, rfl, by omega⟩, by simp, by omega⟩, rfl, by omega⟩
  simp only [OwnC]
  exact ⟨⟨_, rfl⟩, trivial, by omega⟩
theorem PostR.bad {M M' R : Mem} {v : V} {e : Int} (hv : v = .tup [.agg [.nilslice, .nilslice, .int .i64 0], .int .i64 e]) (hM : M' = R ++ M) : ∃ M1 R, M'.Perm (R ++ M1) ∧ PostR M v M1 :=
  ⟨M, R, by rw [hM], _, [], _, e, hv, own_row (OwnC.nil (by decide)) (OwnC.nil (by decide)), by decide, rfl⟩
theorem PostR.ok {M M' R : Mem} {v a b : V} {z : Int} {Ra Rb : Bks} {ka kb : Nat} (hv : v = .tup [.agg [a, b, .int .i64 z], .int .i64 0]) (ha : OwnC (.sl tyFig) a Ra ka) (hb : OwnC (.sl tyStep) b Rb kb) (hka : ka ≤ 6000000000) (hkb : kb ≤ 3000) (hp : M'.Perm (R ++ (toM (Ra ++ Rb) ++ M))) : ∃ M1 R, M'.Perm (R ++ M1) ∧ PostR M v M1 :=
  ⟨_, R, hp, _, _, _, 0, hv, own_row ha hb, by omega, rfl⟩
theorem conjB {g : Gz} {o : IOper} {L : Env} {M Mk : Mem} {pre : List (Nat × Mem)} {bk : List Nat} {k : Nat} {Q : Prop} (h : ReC g o L M) (hb : bk = [k]) (hm : (k, Mk) ∈ pre) (h2 : ReC g o L Mk) (hq : Q) : ReC g o L M ∧ (∀ k ∈ bk, ∃ Mk, (k, Mk) ∈ pre ∧ ReC g o L Mk) ∧ Q :=
  ⟨h, by subst hb; intro j hj; rw [List.mem_singleton.1 hj]; exact ⟨Mk, hm, h2⟩, hq⟩
theorem P5.ldI {k : Nat → Int} {b : Nat → Bool} {i : Nat} (h : i < 5) : (P5 k b)[0 + ((i : Int)).toNat * 2 + 0]? = some (.int .i64 (k i)) := by
  rcases (show i = 0 ∨ i = 1 ∨ i = 2 ∨ i = 3 ∨ i = 4 by omega) with rfl | rfl | rfl | rfl | rfl <;> rfl
theorem perm_17 (X M : Mem) (a b c d : Nat × BP) : (X ++ (a :: b :: c :: d :: M)).Perm ([b, c, d] ++ ((a :: X) ++ M)) := by
  refine (perm_sw X [a, b, c, d] M).trans ?_
  exact (List.perm_middle (l₁ := [b, c, d]) (a := a) (l₂ := X ++ M)).symm
attribute [local irreducible] W1 WO WC WD WF WV
set_option maxHeartbeats 4000000 in
theorem f17 {g : Gz} {M : Mem} {t : RwD} {s : V} {n : Nat} {xa xb : Nat → Int} (ok : RwOk g t) (hs : SlcR g [] s n 2 (stepR xa xb)) (hn : n ≤ 1000000000) (hN : ∀ i, i < t.nF → (t.nm i).length ≤ 1000000000) : WF tbl g 17 [.agg t.cells, s] M (PostR M) := by
  refine WF.trim (WF.intro rfl (Nat.le_of_ble_eq_true rfl) ?_)
  repeat' first
    | exact absurd (by simpa using ‹(!decide (e = 0)) = false›) he
    | refine W1.box (d := 2) rfl ok.sc3 (fun b2 => ?_)
    | refine W1.alloc (d := 4) rfl (fun b4 => ?_)
    | (refine W1.callV rfl rfl (WV.func ((f48 ok).mono fun v M' => ?_)); rintro (⟨e, he, rfl, rfl⟩ | ⟨bT, p, rfl, val, pt, rfl⟩))
    | (refine WC.row ok val pt (fun g' hg hF => ?_); have hs' := hs.lessG hg; have ok' := hF.ok; obtain ⟨k, b, rfl, hk⟩ := pt; obtain ⟨l0, l1, l2, l3⟩ := hF.ld)
    | refine W1.ldAll rfl (.there .here) rfl ?_
    | refine W1.lenSlc rfl hs'.up.1 ?_
    | refine W1.ldG rfl l3 ?_
    | refine W1.alloc (d := 8) rfl (fun b8 => ?_)
    | exact ⟨_, Res.cell rfl .here (rdB_all rfl) (Res.tmp rfl Res.nil), PostR.bad (R := [_, _]) rfl rfl⟩
    | exact ⟨_, Res.cell rfl (.there .here) (rdB_all rfl) (Res.tmp rfl Res.nil), PostR.bad (R := [_, _, _]) rfl rfl⟩
    | refine WC.ret ?_
    | refine WC.seq ?_
    | refine WC.region ?_
    | refine WC.skip ?_
    | refine WC.cond_f rfl (by first | assumption | rfl) ?_
    | refine WC.cond rfl (fun hc => ?_) (fun hc => ?_)
    | refine WO.nil ?_
    | refine WO.cons ?_
    | refine W1.mv rfl ?_
    | refine W1.nilck rfl ?_
    | refine W1.fa rfl ?_
    | refine W1.ext rfl rfl ?_
    | refine W1.gtr rfl rfl ?_
    | refine W1.neq rfl rfl ?_
    | refine W1.bld rfl rfl ?_
    | refine WC.block (id := 0) ?_
    | refine W1.stAll rfl rfl rfl rfl rfl .here ?_
  have hn20 : n ≤ 20 := by have := of_decide_eq_false ‹decide (20 < (n : Int)) = false›; omega
  refine WC.forO (blk := 1) (n := n) [2, 4, 6, 8, 31, 32] (fun _ (_ : Unit) => []) (fun i _ M' => ∃ q, PtOk t q ∧ M' = (b8, Arr1 q {}) :: (b4, Arr1 [.nilslice, .nilslice, .int .i64 0] {}) :: (b2, Arr1 t.cells {}) :: M) () (by omega) rfl (fun _ _ => rfl) (fun _ _ => rfl) (fun _ _ => rfl) (fun _ _ => rfl) ⟨rfl, rfl⟩ (subL.nil _) ⟨_, hF.pt, rfl⟩ ?_ ?_
  · rintro i a M' hi ⟨_, ⟨k, b, rfl, hk⟩, rfl⟩
    have hq : PtOk t (P5 k b) := ⟨k, b, rfl, hk⟩
    repeat' first
      | (refine W1.iaRow rfl rfl hs'.up (by omega) (by omega) (fun bf o hrd => ?_); rw [Int.toNat_natCast] at hrd)
      | refine W1.ldV (vs := stepR xa xb i) rfl rfl hrd ?_
      | refine W1.alloc (d := 10) rfl (fun b10 => ?_)
      | refine W1.ldAll rfl (.there .here) rfl ?_
      | refine W1.ldAll rfl .here rfl ?_
      | (refine W1.callV rfl rfl (WV.func ((f53 hF hq).mono fun v M' => ?_)); rintro ⟨rfl, _, e, rfl, k2, b2, rfl, hk2⟩)
      | exact ⟨_, Res.cell rfl (.there (.there (.there .here))) (rdB_all rfl) (Res.tmp rfl Res.nil), PostR.bad (R := [_, _, _, _, _]) rfl rfl⟩
      | exact ⟨(), _, [_], rfl, by repeat (first | exact subL.nil _ | refine subL.cons rfl ?_), List.Perm.refl _, _, ⟨k2, b2, rfl, hk2⟩, rfl⟩
      | refine WC.ret ?_
      | refine WC.seq ?_
      | refine WC.block ?_
      | refine WC.region ?_
      | refine WC.skip ?_
      | refine WC.cond rfl (fun hc => ?_) (fun hc => ?_)
      | refine WO.nil ?_
      | refine WO.cons ?_
      | refine W1.mv rfl ?_
      | refine W1.ext rfl rfl ?_
      | refine W1.neq rfl rfl ?_
      | refine W1.bld rfl rfl ?_
      | refine W1.stAll rfl rfl rfl rfl rfl .here ?_
      | refine W1.stAll rfl rfl rfl rfl rfl (.there .here) ?_
      | refine W1.stAll rfl rfl rfl rfl rfl (.there (.there .here)) ?_
  · rintro a M' ⟨_, ⟨kq, bq, rfl, hkq⟩, rfl⟩
    have hq : PtOk t (P5 kq bq) := ⟨kq, bq, rfl, hkq⟩
    have h5 := val.nF
    have hs10 := val.nS
    obtain ⟨tt, he1, he2⟩ := keyP (t := t) (.agg (P5 kq bq)) (.agg (P5 k b)) ⟨_, rfl, hq⟩ ⟨_, rfl, hF.pt⟩
    have hFg : ∀ cs b cap, FigL t cs → (∀ c, cap = some c → t.nF ≤ c) → OwnC (.sl tyFig) (.slice b 0 t.nF cap 4) [(b, cs)] 6000000000 := fun cs b cap h1 h2 => h1.own h5 h2 hN
    repeat' first
      | refine W1.ldS rfl (.there (.there .here)) rfl (conjR (ReC.ldS rfl rfl (.there (.there .here)) rfl) (by simp) ?_)
      | (refine W1.callV rfl rfl (WV.func ((f54 ok'.hF.up (by omega)).mono fun v M' => ?_)); rintro (⟨rfl, h0, rfl⟩ | ⟨bF, capF, rfl, hcF, rfl⟩))
      | refine W1.ldS rfl (.there (.there (.there .here))) rfl (conjB (ReC.ldS rfl rfl (.there (.there (.there .here))) rfl) rfl (List.mem_cons_self ..) (ReC.ldS rfl rfl (.there (.there .here)) rfl) ?_)
      | (refine W1.callV rfl rfl (WV.func ((f55 ok'.hS.up (by omega)).mono fun v M' hc => ?_)); obtain ⟨RS, kS, hoS, hkS, rfl⟩ := hc.own2 (by omega); clear hc; have hsv := hoS.scalar; have hsc : ∀ x, V.scalar x = true → [x, v, V.int .i64 t.bench].all V.scalar = true := fun x hx => by simp only [List.all_cons, hsv, hx]; rfl)
      | refine W1.stS rfl rfl rfl (Up.app (.there (.there .here)) _) (Nat.le_of_ble_eq_true rfl) ?_
      | refine W1.stS rfl rfl rfl (Up.app (.there (.there (.there .here))) _) (Nat.le_of_ble_eq_true rfl) ?_
      | refine W1.stS rfl rfl hsv (Up.app (.there (.there .here)) _) (Nat.le_of_ble_eq_true rfl) ?_
      | refine W1.stS rfl rfl hsv (Up.app (.there (.there (.there .here))) _) (Nat.le_of_ble_eq_true rfl) ?_
      | refine W1.ldAll rfl (At.app .here) rfl (conjR (ReC.ldAll rfl rfl (At.app .here) rfl) (by simp) ?_)
      | refine W1.ldAll rfl (At.app (.there .here)) rfl (conjR (ReC.ldAll rfl rfl (At.app (.there .here)) rfl) (by simp) ?_)
      | refine W1.ldG rfl l3 (conjR (ReC.ldG rfl rfl l3) (by simp) ?_)
      | refine W1.eqv rfl rfl he1 ?_
      | refine W1.ldAll rfl (At.app (.there (.there .here))) rfl ?_
      | refine W1.ldAll rfl (At.app (.there (.there (.there .here)))) rfl ?_
      | refine W1.stAll rfl rfl rfl rfl (hsc _ rfl) (Up.app (.there .here) _) ?_
      | refine W1.stAll rfl rfl rfl rfl (hsc _ rfl) (Up.app (.there (.there .here)) _) ?_
      | refine W1.lenN rfl ?_
      | refine W1.len rfl ?_
      | exact ⟨_, Res.cell rfl (.there (At.app (.there .here))) (rdB_all rfl) (Res.tmp rfl Res.nil), PostR.ok (R := [_, _, _, _]) (ka := 1) rfl (OwnC.nil (by decide)) hoS (by decide) hkS ((perm_sw (toM RS) [_, _, _] M).cons _)⟩
      | exact ⟨_, Res.cell rfl (.there (At.app (.there (.there .here)))) (rdB_all rfl) (Res.tmp rfl Res.nil), PostR.ok (R := [_, _, _, _]) rfl (hFg _ _ _ FigL.clone hcF) hoS (by decide) hkS ((perm_17 (toM RS) M _ _ _ _).cons _)⟩
      | refine W1.ldS rfl (At.app (.there (.there .here))) rfl ?_
      | refine WC.ret ?_
      | refine W1.ldS rfl (At.app (.there (.there (.there .here)))) rfl ?_
      | refine WC.seq ?_
      | refine WC.region ?_
      | refine WC.draw ?_
      | refine WC.skip ?_
      | refine WC.cond rfl (fun hc => ?_) (fun hc => ?_)
      | refine WO.nil ?_
      | refine WO.cons ?_
      | refine WD.nil ?_
      | refine WD.cons0 ?_
      | refine WD.consH ?_
      | refine WD.consR ?_
      | refine W1.mv rfl ?_
      | refine W1.nilck rfl ?_
      | refine W1.fa rfl ?_
    · repeat' first
        | refine WC.block (id := 3) ?_
        | refine WC.unroll ?_
        | refine WC.cond_f rfl rfl ?_
        | refine W1.ldAll rfl (At.app (.there (.there .here))) rfl ?_
        | refine W1.stAll rfl rfl rfl rfl (hsc _ rfl) (Up.app (.there .here) _) ?_
        | exact ⟨_, Res.cell rfl (.there (At.app (.there .here))) (rdB_all rfl) (Res.tmp rfl Res.nil), PostR.ok (R := [_, _, _, _]) (ka := 1) rfl (OwnC.nil (by decide)) hoS (by decide) hkS ((perm_sw (toM RS) [_, _, _] M).cons _)⟩
        | refine WC.ret ?_
        | refine WC.seq ?_
        | refine WC.region ?_
        | refine WC.exit ?_
        | refine WO.nil ?_
        | refine WO.cons ?_
        | refine W1.mv rfl ?_
        | refine W1.lss rfl rfl ?_
    · refine WC.forO (blk := 3) (n := t.nF) [2, 4, 8, 66] (fun _ (_ : Unit) => []) (fun i _ M' => ∃ cs, FigL t cs ∧ M' = toM RS ++ ((bF, Arr1 cs {}) :: (b8, Arr1 (P5 kq bq) {}) :: (b4, Arr1 [.nilslice, .nilslice, .int .i64 0] {}) :: (b2, Arr1 [.slice bF 0 t.nF capF 4, v, .int .i64 t.bench] {}) :: M)) () (by omega) rfl (fun _ _ => rfl) (fun _ _ => rfl) (fun _ _ => rfl) (fun _ _ => rfl) ⟨rfl, rfl⟩ (subL.nil _) ⟨_, FigL.clone, rfl⟩ ?_ ?_
      · rintro i a M' hi ⟨cs, hcs, rfl⟩
        have hl := hcs.1
        have hl2 := (hcs.setH hi (kq i)).1
        repeat' first
          | refine W1.ldS rfl (At.app (.there (.there (.there .here)))) rfl (conjR (ReC.ldS rfl rfl (At.app (.there (.there (.there .here)))) rfl) (by simp) ?_)
          | refine W1.iaa rfl rfl (by omega) (by omega) ?_
          | refine W1.ldS rfl (At.app (.there .here)) (P5.ldI (by omega)) (conjR (ReC.ldS rfl rfl (At.app (.there .here)) (P5.ldI (by omega))) (by simp) ?_)
          | refine W1.ldS rfl (At.app (.there .here)) (P5.ldB (by omega) (by omega)) (conjR (ReC.ldS rfl rfl (At.app (.there .here)) (P5.ldB (by omega) (by omega))) (by simp) ?_)
          | refine W1.ia rfl rfl (by omega) (by omega) ?_
          | refine W1.stS (cs := cs) rfl rfl rfl (Up.app .here _) (by omega) ?_
          | refine W1.stS (cs := splice cs _ [.int .i64 (kq i)]) rfl rfl rfl (Up.app .here _) (by omega) ?_
          | exact ⟨(), _, [], rfl, by repeat (first | exact subL.nil _ | refine subL.cons rfl ?_), List.Perm.refl _, _, (hcs.setH hi (kq i)).setB hi (bq ((i : Int)).toNat), rfl⟩
          | refine WC.seq ?_
          | refine WC.block ?_
          | refine WC.region ?_
          | refine WC.draw ?_
          | refine WO.nil ?_
          | refine WO.cons ?_
          | refine WD.nil ?_
          | refine WD.cons0 ?_
          | refine WD.consH ?_
          | refine WD.consR ?_
          | refine W1.mv rfl ?_
          | refine W1.fa rfl ?_
      · rintro a M' ⟨cs, hcs, rfl⟩
        repeat' first
          | refine W1.ldAll rfl (At.app (.there (.there (.there .here)))) rfl ?_
          | refine W1.stAll rfl rfl rfl rfl (hsc _ rfl) (Up.app (.there (.there .here)) _) ?_
          | exact ⟨_, Res.cell rfl (.there (At.app (.there (.there .here)))) (rdB_all rfl) (Res.tmp rfl Res.nil), PostR.ok (R := [_, _, _, _]) rfl (hFg _ _ _ hcs hcF) hoS (by decide) hkS ((perm_17 (toM RS) M _ _ _ _).cons _)⟩
          | refine WC.ret ?_
          | refine WC.seq ?_
          | refine WC.region ?_
          | refine WO.nil ?_
          | refine WO.cons ?_
          | refine W1.mv rfl ?_
end Go.Ax
end
section
namespace Go.Ax
open Go.Ax.Ir
section
variable {ft : FT FnR} {g : Gz}
theorem W1.clip {L : Env} {M : Mem} {K : Env → Mem → Prop} {d n e : Nat} {x y z : Opd} {s : V} {row : Nat → List V} (hx : lkO L x = some s) (hy : lkO L y = some (.int .i64 n)) (hz : lkO L z = some (.int .i64 n)) (hs : SlcR g [] s n e row)
    (h : ∀ s', SlcR g [] s' n e row → (s' = .nilslice ∧ n = 0 ∨ ∃ b o, s' = .slice b o n (some n) e) → K ((d, s') :: L) M) : W1 ft g ⟨some d, .slc e x none (some y) (some z), none⟩ L M K := by
  obtain ⟨hs, he, hl⟩ := hs
  rcases hs with ⟨rfl, rfl⟩ | ⟨b, o, cap, rfl, hc, hr⟩
  · exact W1.pure (v := .nilslice) rfl (fun τ hl => by simp [puO, slcF, bounds, lo?, hl.opd hx, hl.opd hy, hl.opd hz]) (h _ ⟨Or.inl ⟨rfl, rfl⟩, he, hl⟩ (Or.inl ⟨rfl, rfl⟩))
  · refine W1.pure (v := .slice b o n (some n) e) rfl (fun τ hl => ?_) (h _ ⟨Or.inr ⟨b, o, some n, rfl, (fun c e => by cases e; exact Nat.le_refl _), hr⟩, he, hl⟩ (Or.inr ⟨b, o, rfl⟩))
    simp [puO, slcF, bounds, lo?, hl.opd hx, hl.opd hy, hl.opd hz]
theorem W1.lenR {L : Env} {M : Mem} {K : Env → Mem → Prop} {d m : Nat} {x : Opd} {s : V} {X : Mem} (hx : lkO L x = some s) (hX : LstR s m X) (h : K ((d, .int .i64 m) :: L) M) : W1 ft g ⟨some d, .len false x, none⟩ L M K := by
  rcases hX with ⟨rfl, rfl, rfl⟩ | ⟨b, cs, rfl, hl, hi, h0, rfl⟩
  · exact W1.lenN hx h
  · exact W1.len hx h
theorem W1.appM {L : Env} {M M1 : Mem} {K : Env → Mem → Prop} {d n bq : Nat} {x y : Opd} {s : V} {row : Nat → List V} {c : Option Nat} {a b : V} (hx : lkO L x = some s) (hs : SlcR g [] s n 2 row) (hn : n ≤ 1000) (hsh : s = .nilslice ∧ n = 0 ∨ ∃ b o, s = .slice b o n (some n) 2) (hy : lkO L y = some (.slice bq 0 1 c 2)) (hat : At M bq (Arr1 [a, b] {}) M1)
    (h : ∀ b', K ((d, .slice b' 0 (n + 1) none 2) :: L) ((b', Arr1 (catTo row n ++ [a, b]) {}) :: M)) : W1 ft g ⟨some d, .app 2 16 x y, none⟩ L M K := by
  have hlm : limit = 35184372088832 := rfl
  rcases hsh with ⟨rfl, rfl⟩ | ⟨b0, o, rfl⟩
  · exact W1.appN (n := 1) hx hy (Src.row hat (Nat.le_of_ble_eq_true rfl)) (by decide) (by omega) h
  · exact W1.appG (n := 1) hx hy (Src.row hat (Nat.le_of_ble_eq_true rfl)) (by decide) (by omega) (Src.rows hs.up) (by omega) h
end
def RwD.more (t : RwD) (s : V) (x y : Int) : RwD := { t with sS := s, nS := t.nS + 1, sa := fun j => if j = t.nS then x else t.sa j, sb := fun j => if j = t.nS then y else t.sb j }
theorem RwVal.more {t : RwD} (h : RwVal t) {s : V} {x y : Int} (h0 : 0 ≤ x) (h1 : x < y) (h2 : y < t.nF) (hd : ∀ j, j < t.nS → ¬ (t.sa j = x ∧ t.sb j = y)) : RwVal (t.more s x y) := by
  refine ⟨h.nF, fun j hj => ?_, fun i j hij hj => ?_, h.bench⟩
  · simp only [RwD.more] at hj ⊢
    by_cases e : j = t.nS
    · simp only [if_pos e]; exact ⟨h0, h1, h2⟩
    · simp only [if_neg e]; exact h.st j (by omega)
  · simp only [RwD.more] at hj ⊢
    have ei : ¬ i = t.nS := by omega
    simp only [if_neg ei]
    by_cases e : j = t.nS
    · simp only [if_pos e]; exact hd i (by omega)
    · simp only [if_neg e]; exact h.dist i j hij (by omega)
theorem catTo_more {t : RwD} {s : V} {x y : Int} : catTo (stepR t.sa t.sb) t.nS ++ [.int .i64 x, .int .i64 y] = catTo (stepR (t.more s x y).sa (t.more s x y).sb) (t.nS + 1) := by
  have h1 : catTo (stepR (t.more s x y).sa (t.more s x y).sb) t.nS = catTo (stepR t.sa t.sb) t.nS := catTo_congr _ fun i hi => by
    have e : ¬ i = t.nS := by omega
    simp [stepR, RwD.more, e]
  rw [catTo, h1]
  simp [stepR, RwD.more]
theorem SlcR.froz {g : Gz} {b n e : Nat} {row : Nat → List V} {cap : Option Nat} {a : BA} (hg : g b = some (.arr (catTo row n) a)) (hc : ∀ c, cap = some c → n ≤ c) (he : e ≠ 0) (hl : ∀ i, i < n → (row i).length = e) : SlcR g [] (.slice b 0 n cap e) n e row := by
  refine ⟨Or.inr ⟨b, 0, cap, rfl, hc, fun hp hs => ?_⟩, he, hl⟩
  obtain ⟨k1, k2⟩ := hs.fz b _ hg
  refine ⟨_, _, k1, k2, fun i hi j hj => ?_⟩
  have h := catTo_at n hl i hi j hj
  have hj' : j < (row i).length := by rw [hl i hi]; exact hj
  rw [Nat.zero_add, h]
  show _ = some ((row i)[j]?.getD .undef)
  rw [List.getElem?_eq_getElem hj']; rfl
attribute [local irreducible] W1 WO WC WD WF WV
theorem f70 {g : Gz} {M : Mem} {s : V} {n : Nat} {row : Nat → List V} (hs : SlcR g [] s n 2 row) : WF tbl g 70 [s] M fun v M' => M' = M ∧ SlcR g [] v n 2 row ∧ (v = .nilslice ∧ n = 0 ∨ ∃ b o, v = .slice b o n (some n) 2) := by
  refine WF.intro rfl (Nat.le_of_ble_eq_true rfl) ?_
  repeat' first
    | refine W1.lenSlc rfl hs.up.1 ?_
    | refine W1.clip rfl rfl rfl hs (fun s' h1 h2 => ?_)
    | refine WC.ret ?_
    | refine WC.seq ?_
    | refine WC.region ?_
    | refine WO.nil ?_
    | refine WO.cons ?_
    | refine W1.mv rfl ?_
    | refine Exists.intro _ (And.intro (Res.tmp rfl Res.nil) ?_)
  exact ⟨rfl, h1, h2⟩
theorem f58z {g : Gz} {M M' : Mem} {t : RwD} {bT : Nat} {p : List V} (hat : At M bT (Arr1 (t.cells ++ p) {}) M') (ok : RwOk g t) (val : RwVal t) (pt : PtOk t p) : WF tbl g 58 [.ptr bT 0] M fun v M1 => ∃ X, M1 = (bT, Arr1 (t.cells ++ p) {}) :: (X ++ M') ∧ ((v = .tup [.nilslice, .bool false]) ∨ ∃ s m, v = .tup [s, .bool true] ∧ LstR s m X ∧ m ≤ 1073741824) := by
  refine WF.freeze hat fun hb => (f58 (p := p) ⟨ok.lessG (Gz.le_add hb), val, pt, Gz.add_eq _ _ _⟩).mono fun v M1 => ?_
  rintro (⟨rfl, rfl⟩ | ⟨s, m, X, rfl, hX, hm, rfl⟩)
  · exact ⟨[], rfl, Or.inl rfl⟩
  · exact ⟨X, rfl, Or.inr ⟨s, m, rfl, hX, hm⟩⟩
theorem f58y {g : Gz} {M M' : Mem} {t : RwD} {bT bs : Nat} {cap : Option Nat} {p cs : List V} {x y : Int} (hat : At M bT (Arr1 ([t.sF, .slice bs 0 (t.nS + 1) cap 2, .int .i64 t.bench] ++ p) {}) ((bs, Arr1 cs {}) :: M')) (hcs : cs = catTo (stepR t.sa t.sb) t.nS ++ [.int .i64 x, .int .i64 y]) (hcap : ∀ c, cap = some c → t.nS + 1 ≤ c) (ok : RwOk g t) (val : RwVal t) (pt : PtOk t p)
    (h0 : 0 ≤ x) (h1 : x < y) (h2 : y < t.nF) (hd : ∀ j, j < t.nS → ¬ (t.sa j = x ∧ t.sb j = y)) : WF tbl g 58 [.ptr bT 0] M fun v M1 => ∃ R, M1 = R ++ M' ∧ ((v = .tup [.nilslice, .bool false]) ∨ ∃ s m X, v = .tup [s, .bool true] ∧ LstR s m X ∧ m ≤ 1073741824) := by
  have hn := val.nS
  refine WF.freeze hat fun hb => WF.freeze .here fun hb2 => ?_
  have ok2 := (ok.lessG (Gz.le_add hb)).lessG (Gz.le_add (o := .arr cs {}) hb2)
  rw [catTo_more (s := .slice bs 0 (t.nS + 1) cap 2)] at hcs
  subst hcs
  refine (f58 (t := t.more (.slice bs 0 (t.nS + 1) cap 2) x y) (p := p) ⟨⟨ok2.hF, SlcR.froz (Gz.add_eq _ _ _) hcap (by decide) fun _ _ => rfl, ok2.nF, by simp only [RwD.more]; omega, ok2.cF, rfl⟩, val.more h0 h1 h2 hd, pt, Gz.le_add hb2 _ _ (Gz.add_eq _ _ _)⟩).mono fun v M1 => ?_
  rintro (⟨rfl, rfl⟩ | ⟨s, m, X, rfl, hX, hm, rfl⟩)
  · exact ⟨[_, _], rfl, Or.inl rfl⟩
  · exact ⟨_ :: _ :: X, rfl, Or.inr ⟨s, m, X, rfl, hX, hm⟩⟩
set_option maxHeartbeats 4000000 in
theorem f36 {g : Gz} {M : Mem} {t : RwD} {x y : Int} (ok : RwOk g t) : WF tbl g 36 [.agg t.cells, .int .i64 x, .int .i64 y] M fun v M' => M' = M ∧ ∃ a e, v = .tup [.int .i64 a, .int .i64 e] := by
  have h5 := ok.nF
  have hlm : limit = 35184372088832 := rfl
  refine WF.trimS (WF.intro rfl (Nat.le_of_ble_eq_true rfl) ?_)
  repeat' first
    | exact absurd (by simpa using ‹(!decide (e = 0)) = false›) he
    | refine W1.box (d := 3) rfl ok.sc3 (fun b3 => ?_)
    | (refine W1.callV rfl rfl (WV.func ((f48 ok).mono fun v M' => ?_)); rintro (⟨e, he, rfl, rfl⟩ | ⟨bT, p, rfl, val, pt, rfl⟩))
    | refine W1.ldS rfl (.there .here) rfl (conjR (ReC.ldS rfl rfl (.there .here) rfl) (by simp) ?_)
    | refine W1.ldAll rfl .here rfl (conjR (ReC.ldAll rfl rfl .here rfl) (by simp) ?_)
    | refine W1.ldS rfl (.there .here) rfl ?_
    | refine W1.ldAll rfl .here rfl ?_
    | refine W1.lenSlc rfl ok.hF.up.1 ?_
    | refine W1.sub rfl rfl (by omega) (by omega) ?_
    | (refine W1.callV rfl rfl (WV.func ((f44two .here).mono fun v M' => ?_)); rintro ⟨rfl, tt, rfl, htt⟩)
    | (refine W1.callV rfl rfl (WV.func ((f58z (.there .here) ok val pt).mono fun v M' => ?_)); rintro ⟨X1, rfl, rfl | ⟨s1, m1, rfl, hX1, hm1⟩⟩)
    | exact ⟨by repeat (first | exact Suf.refl | apply Suf.cons | apply Suf.app), _, _, rfl⟩
    | refine WC.ret ?_
    | refine W1.alloc (d := 12) rfl (fun b12 => ?_)
    | refine WC.seq ?_
    | refine WC.region ?_
    | refine WC.draw ?_
    | refine WC.skip ?_
    | refine WC.cond_t rfl (by first | assumption | rfl) ?_
    | refine WC.cond_f rfl (by first | assumption | rfl) ?_
    | refine WC.cond rfl (fun hc => ?_) (fun hc => ?_)
    | refine WO.nil ?_
    | refine WO.cons ?_
    | refine WD.nil ?_
    | refine WD.cons0 ?_
    | refine WD.consH ?_
    | refine WD.consR ?_
    | refine W1.mv rfl ?_
    | refine W1.nilck rfl ?_
    | refine W1.fa rfl ?_
    | refine W1.ext rfl rfl ?_
    | refine W1.geq rfl rfl ?_
    | refine W1.neq rfl rfl ?_
    | refine W1.not rfl ?_
    | refine W1.bld rfl rfl ?_
    | refine W1.bldS rfl rfl rfl (fun bb => ?_)
    | refine Exists.intro _ (And.intro (Res.tmp rfl (Res.tmp rfl Res.nil)) ?_)
    | refine WC.block (id := 0) ?_
    | refine W1.stAll rfl rfl rfl rfl rfl .here ?_
    | (refine W1.callV rfl rfl (WV.func ((f47 ok.hS.up (by have := ok.nS; omega)).mono fun v M' => ?_)); rintro ⟨rfl, tc, rfl, hc1, hc2⟩)
    | (refine W1.callV rfl rfl (WV.func ((f70 ok.hS).mono fun v M' => ?_)); rintro ⟨rfl, hcl, hsh⟩)
    | refine W1.appM rfl hcl (by have := val.nS; omega) hsh rfl .here (fun bn => ?_)
    | refine W1.st rfl rfl rfl rfl (.there (.there (.there .here))) (by simp [RwD.cells]) ?_
    | refine W1.lenN rfl ?_
    | refine W1.lenR rfl (by assumption) ?_
    | (refine W1.callV rfl rfl (WV.func ((f58y (t := t) (p := p) (x := x) (y := y) (.there (.there (.there .here))) rfl (by simp) ok val pt (by have := htt ‹tt = false›; omega) (by have := of_decide_eq_false ‹decide (y ≤ x) = false›; omega) (by have := htt ‹tt = false›; omega) (hc2 (by simpa using ‹(!tc) = true›))).mono fun v M' => ?_)); rintro ⟨R2, rfl, rfl | ⟨s2, m2, X2, rfl, hX2, hm2⟩⟩)
end Go.Ax
end
section
namespace Go.Ax
open Go.Ax.Ir
def LstG (s : V) (k : Nat) (X : Mem) : Prop := (s = .nilslice ∧ k = 0 ∧ X = []) ∨ ∃ b cap cs, s = .slice b 0 k cap 1 ∧ (cap = none ∨ cap = some k) ∧ cs.length = k ∧ IntL cs ∧ k ≠ 0 ∧ X = [(b, Arr1 cs {})]
theorem LstG.own {s : V} {k : Nat} {X : Mem} (h : LstG s k X) (hk : k ≤ 100) : ∃ R, X = toM R ∧ OwnC (.sl [.int]) s R (k + 1) := by
  rcases h with ⟨rfl, rfl, rfl⟩ | ⟨b, cap, cs, rfl, hc, hl, hi, h0, rfl⟩
  · exact ⟨[], rfl, OwnC.nil (by decide)⟩
  · have h := OwnC.ints (w := 1) (n := k) (b := b) (cap := cap) (by decide) (by omega) hi (by omega) (by rintro c rfl; rcases hc with h | h <;> cases h; exact Nat.le_refl _)
    rw [Nat.mul_one] at h
    exact ⟨[(b, cs)], rfl, h⟩
theorem LstG.ownc {s : V} {k : Nat} {X : Mem} (h : LstG s k X) (h0 : k ≠ 0) (hk : k ≤ 40) : ∃ R, X = toM R ∧ OwnC (.sl [.int]) s R 100 := by
  rcases h with ⟨rfl, rfl, rfl⟩ | ⟨b, cap, cs, rfl, hc, hl, hi, h0, rfl⟩
  · exact absurd rfl h0
  · refine ⟨[(b, cs)], rfl, OwnC.flat (row := [.int]) (n := k) (c := 1) (k := 100) (by omega) (by decide) (by omega) (by rintro c rfl; rcases hc with h | h <;> cases h; exact Nat.le_refl _) fun i hik => ownRow_ints (w := 1) (hi.dt _ _) ?_⟩
    simp only [List.length_take, List.length_drop, List.length_singleton]
    omega
theorem W1.lenG {ft : FT FnR} {g : Gz} {L : Env} {M : Mem} {K : Env → Mem → Prop} {d k : Nat} {x : Opd} {s : V} {X : Mem} (hx : lkO L x = some s) (hX : LstG s k X) (h : K ((d, .int .i64 k) :: L) M) : W1 ft g ⟨some d, .len false x, none⟩ L M K := by
  rcases hX with ⟨rfl, rfl, rfl⟩ | ⟨b, cap, cs, rfl, _, hl, hi, h0, rfl⟩
  · exact W1.lenN hx h
  · exact W1.len hx h
def bitsC (m i : Int) : Bool :=
  match binI .shr .i64 m .i64 i with
  | some (.int .i64 a) => match binI .and .i64 a .i64 1 with
    | some (.int .i64 c) => match binI .shl .i64 1 .i64 i with
      | some (.int .i64 e) => match binI .or .i64 m .i64 e with
        | some (.int .i64 f) => decide (c = 1) || (decide (m < f) && decide (f < 32))
        | _ => false
      | _ => false
    | _ => false
  | _ => false
theorem bits_all : ∀ m : Fin 32, ∀ i : Fin 5, bitsC (m.val : Int) (i.val : Int) = true := by decide +kernel
theorem bits {m i : Int} (h0 : 0 ≤ m) (h1 : m < 32) (h2 : 0 ≤ i) (h3 : i < 5) : ∃ a c e f : Int, binI .shr .i64 m .i64 i = some (.int .i64 a) ∧ binI .and .i64 a .i64 1 = some (.int .i64 c) ∧ binI .shl .i64 1 .i64 i = some (.int .i64 e) ∧ binI .or .i64 m .i64 e = some (.int .i64 f) ∧ (c ≠ 1 → m < f ∧ f < 32) := by
  have h := bits_all ⟨m.toNat, by omega⟩ ⟨i.toNat, by omega⟩
  simp only [Int.toNat_of_nonneg h0, Int.toNat_of_nonneg h2] at h
  unfold bitsC at h
  split at h
  · next a ea =>
    split at h
    · next c ec =>
      split at h
      · next e ee =>
        split at h
        · next f ef =>
          refine ⟨a, c, e, f, ea, ec, ee, ef, fun hc => ?_⟩
          simpa [hc] using h
        · cases h
      · cases h
    · cases h
  · cases h
def Ix (t : RwD) (v : V) : Prop := ∃ q : Int, v = .int .i64 q ∧ 0 ≤ q ∧ q < t.nF
theorem ix_look {t : RwD} (h0 : 0 < t.nF) {es : List (V × V × Nat)} (hes : ∀ e ∈ es, IsI e.1 ∧ Ix t e.2.1) (w : Int) : ∃ r q, findK (.sc .i) (.int .i64 w) es = some r ∧ lkW (.int .i64 0) r = .int .i64 q ∧ 0 ≤ q ∧ q < t.nF := by
  have hk : IsI (.int .i64 w) := ⟨w, rfl⟩
  obtain ⟨r, e3⟩ := find_some (q := .sc .i) (k := .int .i64 w) (es := es) 0 fun e he => keyI _ _ hk (hes e he).1
  have e4 : findK (.sc .i) (.int .i64 w) es = some r := by simp [findK, keyI _ _ hk hk, e3]
  cases r with
  | none => exact ⟨none, 0, e4, rfl, by omega, by omega⟩
  | some p =>
    obtain ⟨j, v, n⟩ := p
    obtain ⟨k', hk'⟩ := find_mem e3
    obtain ⟨q, h1, h2, h3⟩ := (hes _ hk').2
    exact ⟨_, q, e4, h1, h2, h3⟩
section
variable {ft : FT FnR} {g : Gz}
theorem W1.lkpT {L : Env} {M : Mem} {K : Env → Mem → Prop} {d : Nat} {q : EqK} {z vk w : V} {m k : Opd} {b : Nat} {es : List (V × V × Nat)} {clk : Nat} {r : Option (Nat × V × Nat)} {M' : Mem} (hm : lkO L m = some (.map b)) (hk : lkO L k = some vk) (hat : At M b (MapAt es clk) M') (hf : findK q vk es = some r) (hw : lkW z r = w)
    (h : K ((d, w) :: L) M) : W1 ft g ⟨some d, .lkp q z false m k, none⟩ L M K := by
  subst hw; exact W1.lkpW hm hk hat hf h
end
abbrev FolM (t : RwD) (b17 b18 b7 bm b1 : Nat) (es : List (V × V × Nat)) (clk : Nat) (met : Int) (M : Mem) : Mem :=
  (b17, Arr1 [.int .i64 met] {}) :: (b18, Arr1 [.func 67 [] [.ptr b17 0, .ptr b18 0, .ptr b7 0, .ptr b1 0]] {}) :: (b7, Arr1 [.map bm] {}) :: (bm, MapAt es clk) :: (b1, Arr1 t.cells {}) :: M
attribute [local irreducible] W1 WO WC WD WF WV
set_option maxHeartbeats 1000000 in
theorem f66 {g : Gz} {M : Mem} {t : RwD} {i : Nat} : WF tbl g 66 [.agg (t.fig i)] M fun v M' => M' = M ∧ ∃ tt, v = .bool tt := by
  refine WF.trimS (WF.intro rfl (Nat.le_of_ble_eq_true rfl) ?_)
  repeat' first
    | refine W1.box (d := 1) rfl rfl (fun b2 => ?_)
    | refine W1.ldS rfl .here rfl ?_
    | exact ⟨Suf.refl.cons, _, rfl⟩
    | refine WC.ret ?_
    | refine WC.seq ?_
    | refine WC.region ?_
    | refine WO.nil ?_
    | refine WO.cons ?_
    | refine W1.guard_y rfl (by first | assumption | rfl) ?_
    | refine W1.guard_n rfl (by first | assumption | rfl) ?_
    | refine W1.guard rfl (fun hc => ?_) (fun hc => ?_)
    | refine W1.pick_t rfl (by first | assumption | rfl) rfl ?_
    | refine W1.pick_f rfl (by first | assumption | rfl) rfl ?_
    | refine W1.mv rfl ?_
    | refine W1.fa rfl ?_
    | refine W1.eql rfl rfl ?_
    | refine Exists.intro _ (And.intro (Res.tmp rfl Res.nil) ?_)
set_option maxHeartbeats 4000000 in
theorem f67 {g : Gz} {M : Mem} {t : RwD} {b17 b18 b7 bm b1 clk : Nat} {es : List (V × V × Nat)} (ok : RwOk g t) (h5 : t.nF ≤ 5) (hes : ∀ e ∈ es, IsI e.1 ∧ Ix t e.2.1) : ∀ (fuel : Nat) (met i : Int), 0 ≤ met → met < 32 → (32 - met).toNat ≤ fuel → 0 ≤ i → i < t.nF →
    WF tbl g 67 [.int .i64 i, .ptr b17 0, .ptr b18 0, .ptr b7 0, .ptr b1 0] (FolM t b17 b18 b7 bm b1 es clk met M) fun v M' => ∃ (k : Nat) (X : Mem) (met' : Int), LstG v k X ∧ met ≤ met' ∧ met' < 32 ∧ k ≤ met' - met ∧ M' = X ++ FolM t b17 b18 b7 bm b1 es clk met' M := by
  intro fuel
  induction fuel with
  | zero => intro met i h0 h1 h2; omega
  | succ fuel ih =>
    intro met i h0 h1 h2 hi0 hi1
    have hlm : limit = 35184372088832 := rfl
    obtain ⟨a, c, e, f, e1, e2, e3, e4, hf⟩ := bits h0 h1 hi0 (by omega)
    obtain ⟨r, q, hfind, hval, hq0, hq1⟩ := ix_look (by omega) hes (t.wants i.toNat)
    refine WF.trim (WF.intro rfl (Nat.le_of_ble_eq_true rfl) ?_)
    repeat' first
      | refine W1.ldS rfl .here rfl (conjR (ReC.ldS rfl rfl .here rfl) (by simp) ?_)
      | refine W1.ldS rfl (.there .here) rfl (conjR (ReC.ldS rfl rfl (.there .here) rfl) (by simp) ?_)
      | refine W1.ldS rfl (.there (.there .here)) rfl (conjR (ReC.ldS rfl rfl (.there (.there .here)) rfl) (by simp) ?_)
      | refine W1.ldS rfl (.there (.there (.there (.there .here)))) rfl (conjR (ReC.ldS rfl rfl (.there (.there (.there (.there .here)))) rfl) (by simp) ?_)
      | refine W1.ldS rfl .here rfl ?_
      | refine W1.bin rfl rfl e1 ?_
      | refine W1.bin rfl rfl e2 ?_
      | refine W1.bin rfl rfl e3 ?_
      | refine W1.bin rfl rfl e4 ?_
      | refine WC.ret ?_
      | refine W1.stS rfl rfl rfl .here (Nat.le_of_ble_eq_true rfl) ?_
      | refine W1.iaRow rfl rfl ok.hF.up (by omega) (by omega) (fun bf o hrd => ?_)
      | refine W1.ldR rfl (hrd.at 3 rfl) (conjR (ReC.ldR rfl rfl (hrd.at 3 rfl)) (by simp) ?_)
      | refine W1.lkpT rfl rfl (.there (.there (.there .here))) hfind hval (conjR (ReC.lkpW rfl rfl rfl (.there (.there (.there .here))) hfind hval) (by simp) ?_)
      | exact ⟨_, [], List.Perm.refl _, 0, [], met, Or.inl ⟨rfl, rfl, rfl⟩, Int.le_refl _, h1, by omega, rfl⟩
      | (have hcf := hf (by simpa using ‹decide (c = 1) = false›); refine W1.callV rfl rfl (WV.func ((ih f q (by omega) hcf.2 (by omega) hq0 hq1).mono fun v M' => ?_)); rintro ⟨k, X, met', (⟨rfl, rfl, rfl⟩ | ⟨bL, cap, cs, rfl, hc, hl, hint, h0', rfl⟩), hm1, hm2, hk, rfl⟩)
      | refine W1.bldS (d := 17) rfl rfl rfl (fun bq => ?_)
      | refine W1.app0 rfl rfl Src.nil ?_
      | refine W1.appG (n := k) rfl rfl (Src.row (.there .here) (by omega)) h0' (by omega) (Src.row .here (Nat.le_of_ble_eq_true rfl)) (by omega) (fun b' => ?_)
      | refine WC.seq ?_
      | refine WC.region ?_
      | refine WC.draw ?_
      | refine WC.skip ?_
      | refine WC.cond rfl (fun hc => ?_) (fun hc => ?_)
      | refine WO.nil ?_
      | refine WO.cons ?_
      | refine WD.nil ?_
      | refine WD.cons0 ?_
      | refine WD.consH ?_
      | refine WD.consR ?_
      | refine W1.mv rfl ?_
      | refine W1.fa rfl ?_
      | refine W1.eql rfl rfl ?_
      | refine Exists.intro _ (And.intro (Res.tmp rfl Res.nil) ?_)
    · exact ⟨_, [], List.Perm.refl _, 1, [(_, _)], met', Or.inr ⟨_, _, _, rfl, Or.inr rfl, rfl, IntL1 _, by decide, rfl⟩, by omega, hm2, by omega, rfl⟩
    · refine ⟨_, [_, _], perm_rot3' _ _ _ _, 1 + k, [(_, _)], met', Or.inr ⟨_, none, _, rfl, Or.inl rfl, ?_, (IntL1 i).app ((hint.dt 0 (k * 1))), by omega, rfl⟩, by omega, hm2, by omega, rfl⟩
      simp [hl, rep]
      omega
end Go.Ax
end
section
namespace Go.Ax
open Go.Ax.Ir
def LL (s : V) (n : Nat) (R : Bks) : Prop := (s = .nilslice ∧ n = 0 ∧ R = []) ∨ ∃ b cs Rs, s = .slice b 0 n none 1 ∧ cs.length = n ∧ n ≠ 0 ∧ (∀ i, i < n → ∃ v, cs[i]? = some v ∧ OwnC (.sl [.int]) v (Rs i) 100) ∧ R = (b, cs) :: catA Rs n
theorem LL.own {s : V} {n : Nat} {R : Bks} (h : LL s n R) (hn : n ≤ 50) : ∃ k, OwnC (.sl [.sl [.int]]) s R k ∧ k ≤ 10000 := by
  rcases h with ⟨rfl, rfl, rfl⟩ | ⟨b, cs, Rs, rfl, hl, h0, hr, rfl⟩
  · exact ⟨1, OwnC.nil (by decide), by decide⟩
  · refine ⟨10000, ?_, Nat.le_refl _⟩
    unfold OwnC
    refine ⟨n, cs, fun i => (cs.drop i).take 1, Rs, fun _ => 100, fun i hi => ?_, by decide, by omega, by omega, by rw [sumTo_const]; omega, Or.inr ⟨b, 0, none, rfl, by simp, fun i hi j hj => ?_, rfl⟩⟩
    · obtain ⟨v, h1, h2⟩ := hr i hi
      have e : (cs.drop i).take 1 = [v] := by
        apply List.ext_getElem?
        intro j
        rw [List.getElem?_take, List.getElem?_drop]
        rcases j with _ | j
        · exact h1
        · rw [if_neg (by omega)]; rfl
      show OwnRow [.sl [.int]] ((cs.drop i).take 1) (Rs i) 100
      rw [e]
      simp only [OwnRow]
      exact ⟨v, [], Rs i, [], 100, 0, rfl, h2, ⟨rfl, rfl⟩, by simp, by omega⟩
    · simp only [List.length_singleton] at hj
      rw [List.getElem?_take, if_pos hj, List.getElem?_drop]
      simp
section
variable {ft : FT FnR} {g : Gz}
theorem W1.permM {o : IOper} {L : Env} {M M' : Mem} {K : Env → Mem → Prop} (hp : M.Perm M') (h : W1 ft g o L M' K) : W1 ft g o L M K := by
  intro τ hh hl hs
  obtain ⟨n, τ', h', L', M1, e, l, s, k, hK⟩ := h τ hh hl (hs.perm hp)
  exact ⟨n, τ', h', L', M1, e, l, s, k.perm hp.symm (List.Perm.refl _), hK⟩
theorem W1.appLL {L : Env} {A B : Mem} {K : Env → Mem → Prop} {d n bq : Nat} {x y : Opd} {s v : V} {R : Bks} {c : Option Nat} {M1 : Mem} (hs : lkO L x = some s) (hX : LL s n R) (hy : lkO L y = some (.slice bq 0 1 c 1)) (hbq : At (A ++ (toM R ++ B)) bq (Arr1 [v] {}) M1) (hn : n ≤ 1000)
    (h : ∀ s' b' cs' RR, (∀ Rv, OwnC (.sl [.int]) v Rv 100 → LL s' (n + 1) (((b', cs') :: RR) ++ Rv)) → K ((d, s') :: L) ((b', Arr1 cs' {}) :: (A ++ (toM RR ++ B)))) : W1 ft g ⟨some d, .app 1 24 x y, none⟩ L (A ++ (toM R ++ B)) K := by
  have hlm : limit = 35184372088832 := rfl
  rcases hX with ⟨rfl, rfl, rfl⟩ | ⟨b, cs, Rs, rfl, hl, h0, hr, rfl⟩
  · refine W1.appN (n := 1) hs hy (Src.row hbq (Nat.le_of_ble_eq_true rfl)) (by decide) (by omega) (fun b' => ?_)
    refine h _ b' _ [] fun Rv hv => Or.inr ⟨b', [v], fun _ => Rv, rfl, rfl, by decide, fun i hi => ?_, rfl⟩
    obtain rfl : i = 0 := by omega
    exact ⟨v, rfl, hv⟩
  · refine W1.app (cs := cs) (n := 1) hs hy (Src.row hbq (Nat.le_of_ble_eq_true rfl)) (by decide) (At.app .here) (by omega) (by omega) (fun b' => ?_)
    refine h _ b' (cs.drop 0 ++ [v]) (catA Rs n) fun Rv hv => Or.inr ⟨b', cs.drop 0 ++ [v], fun i => if i = n then Rv else Rs i, rfl, ?_, by omega, fun i hi => ?_, ?_⟩
    · show (cs.drop 0 ++ [v]).length = n + 1
      simp [hl]
    · show ∃ w, (cs.drop 0 ++ [v])[i]? = some w ∧ _
      by_cases e : i = n
      · subst e
        refine ⟨v, ?_, by simpa using hv⟩
        rw [List.drop_zero, List.getElem?_append_right (by omega), hl, Nat.sub_self]; rfl
      · obtain ⟨w, h1, h2⟩ := hr i (by omega)
        refine ⟨w, ?_, by simpa [e] using h2⟩
        rw [List.drop_zero, List.getElem?_append_left (by omega)]; exact h1
    · rw [catA, if_pos rfl, catA_congr (f' := Rs) n fun i hi => if_neg (by omega)]
      rfl
end
theorem perm_31 (p q a b c d e : Nat × BP) (P Y M : Mem) : (p :: ([q, a, b, c, d, e] ++ (P ++ (Y ++ M)))).Perm ([q] ++ ((p :: (P ++ Y)) ++ ([a, b, c, d, e] ++ M))) := by
  refine (List.Perm.swap q p _).trans (List.Perm.cons q (List.Perm.cons p ?_))
  show ([a, b, c, d, e] ++ (P ++ (Y ++ M))).Perm _
  rw [← List.append_assoc P Y M]
  exact perm_sw [a, b, c, d, e] (P ++ Y) M
theorem perm_31q (q : Nat × BP) (X A P M : Mem) : (q :: (X ++ (A ++ (P ++ M)))).Perm ((q :: A) ++ (P ++ (X ++ M))) :=
  List.Perm.cons q ((perm_sw X A (P ++ M)).trans (List.Perm.append_left A (perm_sw X P M)))
theorem LstG.ownd {s : V} {k : Nat} {X : Mem} (h : LstG s k X) (h0 : k ≠ 0) (hk : k ≤ 40) : (∃ b cap, s = .slice b 0 k cap 1) ∧ ∃ R, X = toM R ∧ OwnC (.sl [.int]) s R 100 := by
  refine ⟨?_, h.ownc h0 hk⟩
  rcases h with ⟨rfl, rfl, rfl⟩ | ⟨b, cap, cs, rfl, _⟩
  · exact absurd rfl h0
  · exact ⟨b, cap, rfl⟩
theorem perm_31a (a b c d e f : Nat × BP) (M : Mem) : (a :: b :: c :: d :: e :: f :: M).Perm (e :: b :: a :: d :: f :: c :: M) := by
  refine (List.perm_middle (l₁ := [a, b, c, d]) (a := e) (l₂ := f :: M)).trans (List.Perm.cons e ?_)
  exact (List.Perm.swap b a _).trans (List.Perm.cons b (List.Perm.cons a (perm_m2 c d f M)))
theorem perm_31b (e b a d f : Nat × BP) (M : Mem) : (e :: b :: a :: d :: f :: M).Perm (b :: a :: d :: e :: f :: M) :=
  (List.perm_middle (l₁ := [b, a, d]) (a := e) (l₂ := f :: M)).symm
def PostLL (M : Mem) (v : V) (M' : Mem) : Prop := ∃ s R k e, v = .tup [s, .int .i64 e] ∧ OwnC (.sl [.sl [.int]]) s R k ∧ k ≤ 10000 ∧ M' = toM R ++ M
theorem PostLL.bad {M M' : Mem} {v : V} {e : Int} (hv : v = .tup [.nilslice, .int .i64 e]) (hM : Suf M M') : ∃ M1 R, M'.Perm (R ++ M1) ∧ PostLL M v M1 := by
  obtain ⟨R, rfl⟩ := hM
  exact ⟨M, R, List.Perm.refl _, _, [], 1, e, hv, OwnC.nil (by decide), by decide, rfl⟩
attribute [local irreducible] W1 WO WC WD WF WV
set_option maxHeartbeats 8000000 in
theorem f31 {g : Gz} {M : Mem} {t : RwD} (ok : RwOk g t) : WF tbl g 31 [.agg t.cells] M (PostLL M) := by
  have hnF := ok.nF
  refine WF.trim (WF.intro rfl (Nat.le_of_ble_eq_true rfl) ?_)
  repeat' first
    | refine W1.box (d := 1) rfl ok.sc3 (fun b1 => ?_)
    | refine W1.ldAll rfl .here rfl ?_
    | refine W1.ldS rfl .here rfl ?_
    | (refine W1.callV rfl rfl (WV.func ((f7 ok).mono fun v M' => ?_)); rintro ⟨rfl, p1, a1, e, rfl, hv⟩)
    | (refine W1.callV rfl rfl (WV.func ((f42 ok.hF.up (by omega) (fun i hi => WV.func f66)).mono fun v M' => ?_)); rintro ⟨rfl, tt, rfl⟩)
    | exact PostLL.bad rfl (by repeat (first | exact Suf.refl | apply Suf.cons))
    | refine WC.ret ?_
    | refine W1.mkmapOf IsI (Ix t) (fun bm => ?_)
    | refine W1.alloc (d := 7) rfl (fun b7 => ?_)
    | refine W1.stS rfl rfl rfl .here (Nat.le_of_ble_eq_true rfl) ?_
    | refine W1.ldS rfl (.there (.there .here)) rfl ?_
    | refine W1.lenSlc rfl ok.hF.up.1 ?_
    | refine WC.seq ?_
    | refine WC.region ?_
    | refine WC.skip ?_
    | refine WC.cond rfl (fun hc => ?_) (fun hc => ?_)
    | refine WO.nil ?_
    | refine WO.cons ?_
    | refine W1.mv rfl ?_
    | refine W1.fa rfl ?_
    | refine W1.ext rfl rfl ?_
    | refine W1.neq rfl rfl ?_
    | refine Exists.intro _ (And.intro (Res.tmp rfl (Res.tmp rfl Res.nil)) ?_)
  have val := hv (by simpa using ‹(!decide (e = 0)) = false›)
  have h5 := val.nF
  refine WC.forO (blk := 0) (n := t.nF) [1, 2, 7, 35, 36] (fun _ (_ : Unit) => []) (fun i _ M' => M' = (b7, Arr1 [.map bm] {}) :: (bm, MapOf IsI (Ix t)) :: (b1, Arr1 t.cells {}) :: M) () (by omega) rfl (fun _ _ => rfl) (fun _ _ => rfl) (fun _ _ => rfl) (fun _ _ => rfl) ⟨rfl, rfl⟩ (subL.nil _) rfl ?_ ?_
  · rintro i a M' hi rfl
    repeat' first
      | (refine W1.iaRow rfl rfl ok.hF.up (by omega) (by omega) (fun b o hrd => ?_); rw [Int.toNat_natCast] at hrd)
      | refine W1.ldV (vs := t.fig i) rfl rfl hrd ?_
      | refine W1.alloc (d := 9) rfl (fun b9 => ?_)
      | refine W1.stAll rfl rfl rfl rfl rfl .here ?_
      | refine W1.ldS rfl (.there .here) rfl ?_
      | refine W1.ldS rfl .here rfl ?_
      | refine W1.lkpOk rfl rfl (.there (.there .here)) keyI ⟨_, rfl⟩ (fun v hv => ?_) ?_
      | refine W1.mapup rfl rfl rfl (.there (.there .here)) keyI ⟨_, rfl⟩ ⟨_, rfl, by omega, by omega⟩ ?_
      | exact PostLL.bad rfl (by repeat (first | exact Suf.refl | apply Suf.cons))
      | exact ⟨(), _, [_], rfl, by repeat (first | exact subL.nil _ | refine subL.cons rfl ?_), List.Perm.refl _, rfl⟩
      | refine WC.ret ?_
      | refine WC.seq ?_
      | refine WC.block ?_
      | refine WC.region ?_
      | refine WC.skip ?_
      | refine WC.cond_t rfl (by first | assumption | rfl) ?_
      | refine WC.cond_f rfl (by first | assumption | rfl) ?_
      | refine WO.nil ?_
      | refine WO.cons ?_
      | refine W1.mv rfl ?_
      | refine W1.fa rfl ?_
      | refine W1.ext rfl rfl ?_
      | refine Exists.intro _ (And.intro (Res.tmp rfl (Res.tmp rfl Res.nil)) ?_)
  · rintro a M' rfl
    repeat' first
      | refine W1.mkmapOf IsI IsI (fun bw => ?_)
      | refine W1.ldS rfl (.there (.there (.there .here))) rfl ?_
      | refine W1.lenSlc rfl ok.hF.up.1 ?_
      | refine WC.seq ?_
      | refine WC.region ?_
      | refine WO.nil ?_
      | refine WO.cons ?_
      | refine W1.mv rfl ?_
      | refine W1.fa rfl ?_
    refine WC.forO (blk := 2) (n := t.nF) [1, 2, 7, 12, 57, 58] (fun _ (_ : Unit) => []) (fun i _ M' => M' = (bw, MapOf IsI IsI) :: (b7, Arr1 [.map bm] {}) :: (bm, MapOf IsI (Ix t)) :: (b1, Arr1 t.cells {}) :: M) () (by omega) rfl (fun _ _ => rfl) (fun _ _ => rfl) (fun _ _ => rfl) (fun _ _ => rfl) ⟨rfl, rfl⟩ (subL.nil _) rfl ?_ ?_
    · rintro i a M' hi rfl
      repeat' first
        | (refine W1.iaRow rfl rfl ok.hF.up (by omega) (by omega) (fun b o hrd => ?_); rw [Int.toNat_natCast] at hrd)
        | refine W1.ldV (vs := t.fig i) rfl rfl hrd ?_
        | refine W1.alloc (d := 14) rfl (fun b14 => ?_)
        | refine W1.stAll rfl rfl rfl rfl rfl .here ?_
        | refine W1.ldS rfl (.there (.there .here)) rfl ?_
        | refine W1.ldS rfl .here rfl ?_
        | refine W1.lkpOk rfl rfl (.there (.there (.there .here))) keyI ⟨_, rfl⟩ (fun v hv => ?_) ?_
        | (refine W1.lkp1 rfl rfl (.there .here) keyI ⟨_, rfl⟩ ⟨_, rfl⟩ (fun v hv => ?_); obtain ⟨w, rfl⟩ := hv)
        | refine W1.addU rfl rfl (fun z => ?_)
        | refine W1.mapup rfl rfl rfl (.there .here) keyI ⟨_, rfl⟩ ⟨_, rfl⟩ ?_
        | exact PostLL.bad rfl (by repeat (first | exact Suf.refl | apply Suf.cons))
        | exact ⟨(), _, [_], rfl, by repeat (first | exact subL.nil _ | refine subL.cons rfl ?_), List.Perm.refl _, rfl⟩
        | refine WC.ret ?_
        | refine WC.seq ?_
        | refine WC.block ?_
        | refine WC.region ?_
        | refine WC.skip ?_
        | refine WC.cond_t rfl (by first | assumption | rfl) ?_
        | refine WC.cond_f rfl (by first | assumption | rfl) ?_
        | refine WC.cond rfl (fun hc => ?_) (fun hc => ?_)
        | refine WO.nil ?_
        | refine WO.cons ?_
        | refine W1.mv rfl ?_
        | refine W1.fa rfl ?_
        | refine W1.ext rfl rfl ?_
        | refine W1.gtr rfl rfl ?_
        | refine W1.not rfl ?_
        | refine Exists.intro _ (And.intro (Res.tmp rfl (Res.tmp rfl Res.nil)) ?_)
    · rintro a M' rfl
      repeat' first
        | refine W1.alloc (d := 17) rfl (fun b17 => ?_)
        | refine W1.alloc (d := 18) rfl (fun b18 => ?_)
        | refine W1.ldS rfl (.there (.there (.there (.there (.there .here))))) rfl ?_
        | refine W1.lenSlc rfl ok.hF.up.1 ?_
        | refine W1.stS rfl rfl rfl .here (Nat.le_of_ble_eq_true rfl) ?_
        | refine WC.seq ?_
        | refine WC.region ?_
        | refine WO.nil ?_
        | refine WO.cons ?_
        | refine W1.mv rfl ?_
        | refine W1.fa rfl ?_
        | refine W1.mkfn rfl rfl ?_
      refine WC.permM (perm_31a _ _ _ _ _ _ M) (WC.pin fun o ho => ?_)
      obtain ⟨es, clk, rfl, hes⟩ := ho
      refine WC.permM (perm_31b _ _ _ _ _ _) ?_
      refine WC.forO (blk := 4) (n := t.nF) [1, 17, 18, 85, 86] (fun _ (s : V) => [(2, s)]) (fun i s M' => ∃ n R met, LL s n R ∧ n ≤ i ∧ 0 ≤ met ∧ met < 32 ∧ M' = toM R ++ FolM t b17 b18 b7 bm b1 es clk met ((bw, MapOf IsI IsI) :: M)) .nilslice (by omega) rfl (fun _ _ => rfl) (fun _ _ => rfl) (fun _ _ => rfl) (fun _ _ => rfl) ⟨rfl, rfl⟩ (subL.cons rfl (subL.nil _)) ⟨0, [], 0, Or.inl ⟨rfl, rfl, rfl⟩, Nat.le_refl _, by decide, by decide, rfl⟩ ?_ ?_
      · rintro i s M' hi ⟨n, R, met, hLL, hn, hm0, hm3, rfl⟩
        repeat' first
          | refine W1.ldS rfl (At.app (.there .here)) rfl ?_
          | (refine W1.callV rfl rfl (WV.func (WF.permM (perm_sw (toM R) [_, _, _, _, _] _) ((f67 ok h5 hes 32 met i hm0 hm3 (by omega) (by omega) (by omega)).mono fun v M' => ?_))); rintro ⟨k, X, met', hX, hm1, hm2, hk, rfl⟩)
          | refine W1.lenG rfl hX ?_
          | (obtain ⟨⟨bL, capL, rfl⟩, Rv, rfl, hov⟩ := hX.ownd (by have := of_decide_eq_true ‹decide (1 < (k : Int)) = true›; omega) (by omega); refine W1.bldS (d := 98) rfl rfl rfl (fun bq => ?_))
          | refine W1.permM (perm_31q _ (toM Rv) [_, _, _, _, _] (toM R) _) (W1.appLL rfl hLL rfl .here (by omega) (fun s' b' cs' RR hRR => ?_))
          | exact ⟨s', ((b', Arr1 cs' {}) :: (toM RR ++ toM Rv)) ++ FolM t b17 b18 b7 bm b1 es clk met' ((bw, MapOf IsI IsI) :: M), [_], rfl, by repeat (first | exact subL.nil _ | refine subL.cons rfl ?_), perm_31 _ _ _ _ _ _ _ _ _ _, n + 1, _, met', hRR Rv hov, by omega, by omega, hm2, by simp [toM]⟩
          | exact ⟨s, toM R ++ FolM t b17 b18 b7 bm b1 es clk met' ((bw, MapOf IsI IsI) :: M), X, rfl, by repeat (first | exact subL.nil _ | refine subL.cons rfl ?_), (perm_sw (toM R) [_, _, _, _, _] _).symm.append_left X, n, R, met', hLL, by omega, by omega, hm2, rfl⟩
          | refine WC.seq ?_
          | refine WC.block ?_
          | refine WC.region ?_
          | refine WC.skip ?_
          | refine WC.cond rfl (fun hc => ?_) (fun hc => ?_)
          | refine WO.nil ?_
          | refine WO.cons ?_
          | refine W1.mv rfl ?_
          | refine W1.gtr rfl rfl ?_
      · rintro s M' ⟨n, R, met, hLL, hn, hm0, hm3, rfl⟩
        obtain ⟨k, hk1, hk2⟩ := hLL.own (by omega)
        repeat' first
          | refine WC.ret ?_
          | refine WC.seq ?_
          | refine WC.region ?_
          | refine WO.nil ?_
          | refine WO.cons ?_
          | refine W1.mv rfl ?_
          | refine Exists.intro _ (And.intro (Res.tmp rfl (Res.tmp rfl Res.nil)) ?_)
        exact ⟨toM R ++ M, [_, _, _, _, _, _], perm_sw (toM R) [_, _, _, _, _, _] M, s, R, k, 0, rfl, hk1, hk2, rfl⟩
end Go.Ax
end
section
namespace Go.Ax
open Go.Ax.Ir
abbrev tyAnew : List Ty := tyRow ++ [.sl tyStep, .int, .int, .int]
theorem SlcR.congr {g : Gz} {M : Mem} {s : V} {n e : Nat} {row row' : Nat → List V} (h : SlcR g M s n e row) (hr : ∀ i, i < n → row i = row' i) : SlcR g M s n e row' := by
  obtain ⟨h1, he, hl⟩ := h
  refine ⟨?_, he, fun i hi => by rw [← hr i hi]; exact hl i hi⟩
  rcases h1 with h | ⟨b, o, cap, h1, h2, h3⟩
  · exact Or.inl h
  · refine Or.inr ⟨b, o, cap, h1, h2, fun hp hs => ?_⟩
    obtain ⟨cs, a, q1, q2, q3⟩ := h3 hp hs
    refine ⟨cs, a, q1, q2, fun i hi j hj => ?_⟩
    rw [q3 i hi j hj]; simp only [hr i hi]
theorem Cell.steps {g : Gz} {v : V} {b : Nat} (h : Cell g (.sl tyStep) v b) : ∃ (n : Nat) (sa sb : Nat → Int), SlcR g [] v n 2 (stepR sa sb) ∧ v.scalar = true ∧ n < b := by
  obtain ⟨np, rows, kf, s1, s2, s3, s4, s5⟩ := h.sl_inv
  have : ∀ i, ∃ p q : Int, i < np → rows i = [.int .i64 p, .int .i64 q] := by
    intro i
    by_cases hi : i < np
    · obtain ⟨u, us, _, _, e, y, h, _⟩ := (s5 i hi).cons_inv
      obtain ⟨u1, us, _, _, rfl, y1, h, _⟩ := h.cons_inv
      obtain rfl := h.nil_inv
      obtain ⟨p, rfl⟩ := y.int_inv
      obtain ⟨q, rfl⟩ := y1.int_inv
      exact ⟨p, q, fun _ => e⟩
    · exact ⟨0, 0, fun h => absurd h hi⟩
  obtain ⟨sa, this⟩ := Classical.skolem.1 this
  obtain ⟨sb, hr⟩ := Classical.skolem.1 this
  exact ⟨np, sa, sb, SlcR.congr s1 hr, s2, s3⟩
theorem bridge {g : Gz} {vs : List V} {b : Nat} (h : Row g tyRow vs b) (hb : b ≤ 1048576) : ∃ t : RwD, vs = t.cells ∧ RwOk g t ∧ ∀ i, i < t.nF → (t.nm i).length ≤ 1000000000 := by
  obtain ⟨v0, vs, a0, b0, rfl, c0, h, l0⟩ := h.cons_inv
  obtain ⟨v1, vs, a1, b1, rfl, c1, h, l1⟩ := h.cons_inv
  obtain ⟨v2, vs, a2, b2, rfl, c2, h, l2⟩ := h.cons_inv
  obtain rfl := h.nil_inv
  obtain ⟨bench, rfl⟩ := c2.int_inv
  obtain ⟨nS, sa, sb, s1, sc1, ln1⟩ := c1.steps
  obtain ⟨n0, r0, k0, s0, sc0, ln0, ls0, hr0⟩ := c0.sl_inv
  have hv : ∀ i, ∃ (nm : List UInt8) (hs : Int) (br : Bool) (wn : Int), i < n0 → r0 i = [.str nm, .int .i64 hs, .bool br, .int .i64 wn] ∧ nm.length ≤ 1000000000 := by
    intro i
    by_cases hi : i < n0
    · have hk := kf_le hi ls0
      obtain ⟨w0, ws, d0, e0, er, y0, h, m0⟩ := (hr0 i hi).cons_inv
      obtain ⟨w1, ws, d1, e1, rfl, y1, h, m1⟩ := h.cons_inv
      obtain ⟨w2, ws, d2, e2, rfl, y2, h, m2⟩ := h.cons_inv
      obtain ⟨w3, ws, d3, e3, rfl, y3, h, m3⟩ := h.cons_inv
      obtain rfl := h.nil_inv
      simp only [Cell] at y0
      obtain ⟨nm, rfl, hnm⟩ := y0
      obtain ⟨x, rfl⟩ := y1.int_inv
      obtain ⟨y, rfl⟩ := y2.bool_inv
      obtain ⟨z, rfl⟩ := y3.int_inv
      exact ⟨nm, x, y, z, fun _ => ⟨er, by omega⟩⟩
    · exact ⟨[], 0, false, 0, fun h => absurd h hi⟩
  obtain ⟨nm, hv⟩ := Classical.skolem.1 hv
  obtain ⟨hs, hv⟩ := Classical.skolem.1 hv
  obtain ⟨br, hv⟩ := Classical.skolem.1 hv
  obtain ⟨wn, hv⟩ := Classical.skolem.1 hv
  exact ⟨⟨v0, v1, bench, n0, nS, nm, hs, br, wn, sa, sb⟩, rfl, ⟨SlcR.congr s0 fun i hi => (hv i hi).1, s1, by show n0 ≤ _; omega, by show nS ≤ _; omega, sc0, sc1⟩, fun i hi => (hv i hi).2⟩
end Go.Ax
end
section
namespace Go.Ax
open Go.Ax.Ir
abbrev ftb : FT FnR := (tbl : FT FnR)
section
variable {g : Gz}
attribute [local irreducible] W1 WO WC WD WF WV
theorem put_bool (t : Bool) : PutA ftb g 93 [.bool t] 1 := by
  refine ⟨[.int .i64 (if t then 1 else 0)], [], by simp, by simp, fun v hv => ⟨_, by simpa using hv⟩, by simp [StrL], fun b cn cs M hM hl1 hl2 => ?_⟩
  obtain ⟨sn, ss, Mn, Ms, hp, l1, l2⟩ := hM.ex
  have hss := l2.scalar
  have hl1' : cn.length + 1 ≤ 1099511627776 := hl1
  have hfin : ∀ (n : Int) (b' bb : Nat) (M' : Mem), M' = (b', Arr1 (cn ++ [.int .i64 n]) {}) :: (bb, Arr1 [.int .i64 n] {}) :: (b, Arr1 [.slice b' 0 (cn.length + 1) none 1, ss] {}) :: Ms →
      ∃ M1 R, M'.Perm (R ++ M1) ∧ HpM b (cn ++ [.int .i64 n]) (cs ++ []) M1 := by
    rintro n b' bb M' rfl
    refine ⟨_, _, perm3 _ _ _ _, ⟨⟨_, ss, [(b', Arr1 (cn ++ [.int .i64 n]) {})], Ms, List.Perm.refl _, Or.inr ⟨b', by simp, rfl⟩, by simpa using l2⟩, hM.ints.app fun v hv => ⟨n, by simpa using hv⟩, by simpa using hM.strs⟩⟩
  refine WF.permM hp (WF.trim (WF.intro rfl (Nat.le_of_ble_eq_true rfl) ?_ (fun _ _ => rfl)))
  cases t <;> rcases l1 with ⟨rfl, rfl, rfl⟩ | ⟨bn, rfl, rfl⟩
  all_goals
    repeat' first
      | refine WC.seq ?_
      | refine WC.region ?_
      | refine WC.skip ?_
      | refine WC.cond_t rfl (by first | assumption | rfl) ?_
      | refine WC.cond_f rfl (by first | assumption | rfl) ?_
      | refine WO.nil ?_
      | refine WO.cons ?_
      | refine W1.mv rfl ?_
      | refine W1.nilck rfl ?_
      | refine W1.fa rfl ?_
      | refine W1.bldS rfl rfl rfl (fun bb => ?_)
      | refine Exists.intro _ (And.intro Res.nil ?_)
      | refine W1.ldS rfl .here rfl ?_
      | refine W1.appN (n := 1) rfl rfl (Src.row .here (Nat.le_of_ble_eq_true rfl)) (by decide) (by decide) (fun b' => ?_)
      | refine W1.app (n := 1) rfl rfl (Src.row .here (Nat.le_of_ble_eq_true rfl)) (by decide) (.there (.there .here)) (by simp) (by show (cn.length + 1) * 8 ≤ 35184372088832; omega) (fun b' => ?_)
      | refine W1.st rfl rfl rfl rfl (.there (.there .here)) (Nat.le_of_ble_eq_true rfl) ?_
    exact hfin _ _ _ _ rfl
end
theorem p93 : PutT ftb 93 .bool := by
  intro g v k hv
  simp only [Cell] at hv
  obtain ⟨⟨n, rfl⟩, hk⟩ := hv
  exact (put_bool n).le hk
theorem p8 : PutT ftb 8 .int := putT_int rfl (fun _ _ => rfl)
theorem p9 : PutT ftb 9 .int := putT_int rfl (fun _ _ => rfl)
theorem p92 : PutT ftb 92 .str := putT_str rfl (fun _ _ => rfl)
theorem p13 : PutT ftb 13 (.sl [.int]) := putT_list1 (p := 50) (fe := 8) rfl (fun _ _ => rfl) rfl (fun _ _ => rfl) p8
theorem p32 : PutT ftb 32 (.sl [.sl [.int]]) := putT_list1 (p := 68) (fe := 13) rfl (fun _ _ => rfl) rfl (fun _ _ => rfl) p13
theorem p60 : PutR ftb 60 [.int, .int] := putG_ok (is := [⟨false, 1, 8⟩, ⟨false, 1, 8⟩]) rfl (fun _ _ => rfl) (.one p8 (.one p8 .nil))
theorem p23 : PutT ftb 23 (.sl tyStep) := putT_listN (p := 59) (fe := 60) (e := 2) rfl (fun _ _ => rfl) rfl (fun _ _ => rfl) rfl p60
theorem p84 : PutR ftb 84 tyFig := putG_ok (is := [⟨false, 1, 92⟩, ⟨false, 1, 8⟩, ⟨false, 1, 93⟩, ⟨false, 1, 8⟩]) rfl (fun _ _ => rfl) (.one p92 (.one p8 (.one p93 (.one p8 .nil))))
theorem p56 : PutT ftb 56 (.sl tyFig) := putT_listN (p := 83) (fe := 84) (e := 4) rfl (fun _ _ => rfl) rfl (fun _ _ => rfl) rfl p84
theorem p18 : PutR ftb 18 tyRow := putG_ok (is := [⟨false, 1, 56⟩, ⟨false, 1, 23⟩, ⟨false, 1, 8⟩]) rfl (fun _ _ => rfl) (.one p56 (.one p23 (.one p8 .nil)))
theorem p4 {g : Gz} {vs : List V} {k : Nat} (hrow : Ax.Row g tyAnew vs k) : ∃ ns ss : List V, ns.length ≤ k ∧ ss.length ≤ k ∧ IntL ns ∧ StrL ss ∧
    ∀ b cn cs M, HpM b cn cs M → cn.length + k ≤ lim40 → cs.length + k ≤ lim40 → WF ftb g 4 [.agg vs, .ptr b 0] M fun _ M' => HpM b (cn ++ ns) (cs ++ ss) M' :=
  putAll_ok (is := [⟨true, 3, 18⟩, ⟨false, 1, 23⟩, ⟨false, 1, 8⟩, ⟨false, 1, 8⟩, ⟨false, 1, 8⟩]) rfl (fun _ _ => rfl) (.many (us := tyRow) rfl p18 (.one p23 (.one p8 (.one p8 (.one p8 .nil))))) hrow
attribute [local irreducible] W1 WO WC WD WF WV in
theorem w95 : WipeT ftb 95 .bool := by
  intro g b o cs v R k M hcs hv
  simp only [OwnC] at hv
  obtain ⟨⟨q, rfl⟩, rfl, hk⟩ := hv
  have hlt := (List.getElem?_eq_some_iff.1 hcs).1
  refine WF.intro rfl (Nat.le_of_ble_eq_true rfl) ?_
  repeat' first
    | refine W1.ldS rfl .here hcs ?_
    | refine W1.st rfl rfl rfl rfl .here (by show o + 1 ≤ cs.length; omega) ?_
    | refine WC.region ?_
    | refine WO.nil ?_
    | refine WO.cons ?_
    | refine W1.mv rfl ?_
    | refine W1.nilck rfl ?_
    | refine W1.not rfl ?_
    | refine Exists.intro _ (And.intro Res.nil ?_)
  exact ⟨.bool (!q), [], 1, by simp [OwnC], List.Perm.refl _⟩
theorem w52 : WipeT ftb 52 .int := wipeT_int rfl (fun _ _ => rfl)
theorem w94 : WipeT ftb 94 .str := wipeT_str rfl (fun _ _ => rfl)
theorem w15 : WipeT ftb 15 (.sl [.int]) := wipeT_list (p := 51) (fe := 52) (e := 1) rfl (fun _ _ => rfl) rfl (fun _ _ => rfl) rfl w52.row
theorem w34 : WipeT ftb 34 (.sl [.sl [.int]]) := wipeT_list (p := 69) (fe := 15) (e := 1) rfl (fun _ _ => rfl) rfl (fun _ _ => rfl) rfl w15.row
theorem w62 : WipeR ftb 62 tyStep := wipeG_ok (is := [(1, 52), (1, 52)]) rfl (fun _ _ => rfl) (by simp) (.one w52 (.one w52 .nil))
theorem w25 : WipeT ftb 25 (.sl tyStep) := wipeT_list (p := 61) (fe := 62) (e := 2) rfl (fun _ _ => rfl) rfl (fun _ _ => rfl) rfl w62
theorem w86 : WipeR ftb 86 tyFig := wipeG_ok (is := [(1, 94), (1, 52), (1, 95), (1, 52)]) rfl (fun _ _ => rfl) (by simp) (.one w94 (.one w52 (.one w95 (.one w52 .nil))))
theorem w57 : WipeT ftb 57 (.sl tyFig) := wipeT_list (p := 85) (fe := 86) (e := 4) rfl (fun _ _ => rfl) rfl (fun _ _ => rfl) rfl w86
theorem w20 : WipeR ftb 20 tyRow := wipeG_ok (is := [(1, 57), (1, 25), (1, 52)]) rfl (fun _ _ => rfl) (by simp) (.one w57 (.one w25 (.one w52 .nil)))
end Go.Ax
end
section
namespace Go.Ax
open Go.Ax.Ir
attribute [local irreducible] W1 WO WC WD WF WV
structure InOk (g : Gz) (bx : Nat) (t : RwD) (sl : V) (np : Nat) (xa xb : Nat → Int) (n1 n2 n3 : Int) : Prop where
  hX : g bx = some (.arr (t.cells ++ [sl, .int .i64 n1, .int .i64 n2, .int .i64 n3]) {})
  ok : RwOk g t
  hN : ∀ i, i < t.nF → (t.nm i).length ≤ 1000000000
  hs : SlcR g [] sl np 2 (stepR xa xb)
  hsc : sl.scalar = true
  hnp : np ≤ 1000000000
set_option maxHeartbeats 1000000 in
theorem ag6 {g : Gz} {bx : Nat} {t : RwD} {sl : V} {np : Nat} {xa xb : Nat → Int} {n1 n2 n3 : Int} (I : InOk g bx t sl np xa xb n1 n2 n3) : AgC ftb g 6 [.ptr bx 0] := by
  have l3 : rdAgg g true bx 0 3 = some (.agg t.cells) := by simp [rdAgg, rdG, I.hX, RwD.cells]
  have k3 : rdAgg g false bx 3 1 = some sl := by simp [rdAgg, I.hX, RwD.cells]
  have k4 : rdAgg g false bx 4 1 = some (.int .i64 n1) := by simp [rdAgg, I.hX, RwD.cells]
  have k5 : rdAgg g false bx 5 1 = some (.int .i64 n2) := by simp [rdAgg, I.hX, RwD.cells]
  have k6 : rdAgg g false bx 6 1 = some (.int .i64 n3) := by simp [rdAgg, I.hX, RwD.cells]
  intro b
  have l40 : lim40 = 1099511627776 := rfl
  have hlim : limit = 35184372088832 := rfl
  refine WF.intro rfl (Nat.le_of_ble_eq_true rfl) ?_
  repeat' first
    | refine W1.ldG rfl l3 ?_
    | (refine W1.callV rfl rfl (WV.func ((f7 I.ok).mono fun v M' => ?_)); rintro ⟨rfl, p, a, e, rfl, hv⟩)
    | refine W1.put (Q := []) (Mh := [(b, E2P)]) (k := 1) rfl (p8 g _ 1 cellInt) (HpM.new b) (by simp only [List.length_nil]; omega) (by simp only [List.length_nil]; omega) (fun v ns ss Mh' h1 h2 hM => ?_)
    | refine W1.put (Q := []) (k := 1) rfl (p8 g _ 1 cellInt) hM (by simp only [List.length_append, List.length_nil]; omega) (by simp only [List.length_append, List.length_nil]; omega) (fun v ns ss Mh' h1 h2 hM => ?_)
    | refine W1.put (Q := []) (k := 1) rfl (p9 g _ 1 cellInt) hM (by simp only [List.length_append, List.length_nil]; omega) (by simp only [List.length_append, List.length_nil]; omega) (fun v ns ss Mh' h1 h2 hM => ?_)
    | refine WC.ret ?_
    | refine WC.seq ?_
    | refine WC.region ?_
    | refine WO.nil ?_
    | refine WO.cons ?_
    | refine W1.mv rfl ?_
    | refine W1.fa rfl ?_
    | refine W1.ext rfl rfl ?_
    | refine Exists.intro _ (And.intro (Res.tmp rfl Res.nil) ?_)
  exact ⟨10, [], _, _, _, [], rfl, by decide, by simp, hM, by simp only [List.length_append, List.length_nil]; omega, by simp only [List.length_append, List.length_nil]; omega, nothing_ok rfl (fun _ _ => rfl)⟩
set_option maxHeartbeats 1000000 in
theorem ag11 {g : Gz} {bx : Nat} {t : RwD} {sl : V} {np : Nat} {xa xb : Nat → Int} {n1 n2 n3 : Int} (I : InOk g bx t sl np xa xb n1 n2 n3) : AgC ftb g 11 [.ptr bx 0] := by
  have l3 : rdAgg g true bx 0 3 = some (.agg t.cells) := by simp [rdAgg, rdG, I.hX, RwD.cells]
  have k3 : rdAgg g false bx 3 1 = some sl := by simp [rdAgg, I.hX, RwD.cells]
  have k4 : rdAgg g false bx 4 1 = some (.int .i64 n1) := by simp [rdAgg, I.hX, RwD.cells]
  have k5 : rdAgg g false bx 5 1 = some (.int .i64 n2) := by simp [rdAgg, I.hX, RwD.cells]
  have k6 : rdAgg g false bx 6 1 = some (.int .i64 n3) := by simp [rdAgg, I.hX, RwD.cells]
  intro b
  have l40 : lim40 = 1099511627776 := rfl
  have hlim : limit = 35184372088832 := rfl
  refine WF.intro rfl (Nat.le_of_ble_eq_true rfl) ?_
  repeat' first
    | refine W1.ldG rfl l3 ?_
    | (refine W1.callV rfl rfl (WV.func ((f12 I.ok).mono fun v M' => ?_)); rintro ⟨s, R, k, e, rfl, ho, hk, rfl⟩)
    | refine W1.putO (pre := [_]) (R := R) rfl p13 ho (HpM.new b) (by simp only [List.length_nil]; omega) (by simp only [List.length_nil]; omega) (fun v ns ss Mh' h1 h2 hM => ?_)
    | refine W1.put (Q := _ :: toM R) (k := 1) rfl (p9 g _ 1 cellInt) hM (by simp only [List.length_append, List.length_nil]; omega) (by simp only [List.length_append, List.length_nil]; omega) (fun v ns ss Mh' h1 h2 hM => ?_)
    | refine WC.ret ?_
    | refine WC.seq ?_
    | refine WC.region ?_
    | refine WO.nil ?_
    | refine WO.cons ?_
    | refine W1.mv rfl ?_
    | refine W1.fa rfl ?_
    | refine W1.ext rfl rfl ?_
    | refine W1.mkfn rfl rfl ?_
    | refine W1.alloc rfl (fun bb => ?_)
    | refine Exists.intro _ (And.intro (Res.tmp rfl Res.nil) ?_)
    | refine W1.st0 rfl rfl ho.scalar .here ?_
    | refine W1.ldS rfl .here rfl ?_
  exact ⟨14, [.ptr _ 0], _, _, _, _ :: toM R, rfl, by decide, agc_perm, hM, by simp only [List.length_append, List.length_nil]; omega, by simp only [List.length_append, List.length_nil]; omega, wipeC_ok (fn := 15) rfl (fun _ _ => rfl) w15 ho⟩
set_option maxHeartbeats 1000000 in
theorem ag16 {g : Gz} {bx : Nat} {t : RwD} {sl : V} {np : Nat} {xa xb : Nat → Int} {n1 n2 n3 : Int} (I : InOk g bx t sl np xa xb n1 n2 n3) : AgC ftb g 16 [.ptr bx 0] := by
  have l3 : rdAgg g true bx 0 3 = some (.agg t.cells) := by simp [rdAgg, rdG, I.hX, RwD.cells]
  have k3 : rdAgg g false bx 3 1 = some sl := by simp [rdAgg, I.hX, RwD.cells]
  have k4 : rdAgg g false bx 4 1 = some (.int .i64 n1) := by simp [rdAgg, I.hX, RwD.cells]
  have k5 : rdAgg g false bx 5 1 = some (.int .i64 n2) := by simp [rdAgg, I.hX, RwD.cells]
  have k6 : rdAgg g false bx 6 1 = some (.int .i64 n3) := by simp [rdAgg, I.hX, RwD.cells]
  intro b
  have l40 : lim40 = 1099511627776 := rfl
  have hlim : limit = 35184372088832 := rfl
  refine WF.intro rfl (Nat.le_of_ble_eq_true rfl) ?_
  repeat' first
    | refine W1.ldG rfl l3 ?_
    | refine W1.ldG rfl k3 ?_
    | (refine W1.callV rfl rfl (WV.func ((f17 I.ok I.hs I.hnp I.hN).mono fun v M' => ?_)); rintro ⟨s, R, k, e, rfl, ho, hk, rfl⟩)
    | refine W1.putOR (pre := [_]) (R := R) rfl p18 ho (HpM.new b) (by simp only [List.length_nil]; omega) (by simp only [List.length_nil]; omega) (fun v ns ss Mh' h1 h2 hM => ?_)
    | refine W1.put (Q := _ :: toM R) (k := 1) rfl (p9 g _ 1 cellInt) hM (by simp only [List.length_append, List.length_nil]; omega) (by simp only [List.length_append, List.length_nil]; omega) (fun v ns ss Mh' h1 h2 hM => ?_)
    | refine WC.ret ?_
    | refine WC.seq ?_
    | refine WC.region ?_
    | refine WO.nil ?_
    | refine WO.cons ?_
    | refine W1.mv rfl ?_
    | refine W1.fa rfl ?_
    | refine W1.ext rfl rfl ?_
    | refine W1.mkfn rfl rfl ?_
    | refine W1.alloc rfl (fun bb => ?_)
    | refine Exists.intro _ (And.intro (Res.tmp rfl Res.nil) ?_)
    | refine W1.stAll rfl rfl ho.length rfl (List.all_eq_true.2 ho.scalar) .here ?_
    | refine W1.ldAll rfl .here ho.length ?_
  exact ⟨19, [.ptr _ 0], _, _, _, _ :: toM R, rfl, by decide, agc_perm, hM, by simp only [List.length_append, List.length_nil]; omega, by simp only [List.length_append, List.length_nil]; omega, wipeCR_ok (fn := 20) rfl (fun _ _ => rfl) w20 ho⟩
set_option maxHeartbeats 1000000 in
theorem ag21 {g : Gz} {bx : Nat} {t : RwD} {sl : V} {np : Nat} {xa xb : Nat → Int} {n1 n2 n3 : Int} (I : InOk g bx t sl np xa xb n1 n2 n3) : AgC ftb g 21 [.ptr bx 0] := by
  have l3 : rdAgg g true bx 0 3 = some (.agg t.cells) := by simp [rdAgg, rdG, I.hX, RwD.cells]
  have k3 : rdAgg g false bx 3 1 = some sl := by simp [rdAgg, I.hX, RwD.cells]
  have k4 : rdAgg g false bx 4 1 = some (.int .i64 n1) := by simp [rdAgg, I.hX, RwD.cells]
  have k5 : rdAgg g false bx 5 1 = some (.int .i64 n2) := by simp [rdAgg, I.hX, RwD.cells]
  have k6 : rdAgg g false bx 6 1 = some (.int .i64 n3) := by simp [rdAgg, I.hX, RwD.cells]
  intro b
  have l40 : lim40 = 1099511627776 := rfl
  have hlim : limit = 35184372088832 := rfl
  refine WF.intro rfl (Nat.le_of_ble_eq_true rfl) ?_
  repeat' first
    | refine W1.ldG rfl l3 ?_
    | (refine W1.callV rfl rfl (WV.func ((f22 I.ok).mono fun v M' => ?_)); rintro ⟨s, R, k, e, rfl, ho, hk, rfl⟩)
    | refine W1.putO (pre := [_]) (R := R) rfl p23 ho (HpM.new b) (by simp only [List.length_nil]; omega) (by simp only [List.length_nil]; omega) (fun v ns ss Mh' h1 h2 hM => ?_)
    | refine W1.put (Q := _ :: toM R) (k := 1) rfl (p9 g _ 1 cellInt) hM (by simp only [List.length_append, List.length_nil]; omega) (by simp only [List.length_append, List.length_nil]; omega) (fun v ns ss Mh' h1 h2 hM => ?_)
    | refine WC.ret ?_
    | refine WC.seq ?_
    | refine WC.region ?_
    | refine WO.nil ?_
    | refine WO.cons ?_
    | refine W1.mv rfl ?_
    | refine W1.fa rfl ?_
    | refine W1.ext rfl rfl ?_
    | refine W1.mkfn rfl rfl ?_
    | refine W1.alloc rfl (fun bb => ?_)
    | refine Exists.intro _ (And.intro (Res.tmp rfl Res.nil) ?_)
    | refine W1.st0 rfl rfl ho.scalar .here ?_
    | refine W1.ldS rfl .here rfl ?_
  exact ⟨24, [.ptr _ 0], _, _, _, _ :: toM R, rfl, by decide, agc_perm, hM, by simp only [List.length_append, List.length_nil]; omega, by simp only [List.length_append, List.length_nil]; omega, wipeC_ok (fn := 25) rfl (fun _ _ => rfl) w25 ho⟩
set_option maxHeartbeats 1000000 in
theorem ag26 {g : Gz} {bx : Nat} {t : RwD} {sl : V} {np : Nat} {xa xb : Nat → Int} {n1 n2 n3 : Int} (I : InOk g bx t sl np xa xb n1 n2 n3) : AgC ftb g 26 [.ptr bx 0] := by
  have l3 : rdAgg g true bx 0 3 = some (.agg t.cells) := by simp [rdAgg, rdG, I.hX, RwD.cells]
  have k3 : rdAgg g false bx 3 1 = some sl := by simp [rdAgg, I.hX, RwD.cells]
  have k4 : rdAgg g false bx 4 1 = some (.int .i64 n1) := by simp [rdAgg, I.hX, RwD.cells]
  have k5 : rdAgg g false bx 5 1 = some (.int .i64 n2) := by simp [rdAgg, I.hX, RwD.cells]
  have k6 : rdAgg g false bx 6 1 = some (.int .i64 n3) := by simp [rdAgg, I.hX, RwD.cells]
  intro b
  have l40 : lim40 = 1099511627776 := rfl
  have hlim : limit = 35184372088832 := rfl
  refine WF.intro rfl (Nat.le_of_ble_eq_true rfl) ?_
  repeat' first
    | refine W1.ldG rfl l3 ?_
    | (refine W1.callV rfl rfl (WV.func ((f27 I.ok).mono fun v M' => ?_)); rintro ⟨rfl, x, y, e, rfl⟩)
    | refine W1.put (Q := []) (Mh := [(b, E2P)]) (k := 1) rfl (p8 g _ 1 cellInt) (HpM.new b) (by simp only [List.length_nil]; omega) (by simp only [List.length_nil]; omega) (fun v ns ss Mh' h1 h2 hM => ?_)
    | refine W1.put (Q := []) (k := 1) rfl (p8 g _ 1 cellInt) hM (by simp only [List.length_append, List.length_nil]; omega) (by simp only [List.length_append, List.length_nil]; omega) (fun v ns ss Mh' h1 h2 hM => ?_)
    | refine W1.put (Q := []) (k := 1) rfl (p9 g _ 1 cellInt) hM (by simp only [List.length_append, List.length_nil]; omega) (by simp only [List.length_append, List.length_nil]; omega) (fun v ns ss Mh' h1 h2 hM => ?_)
    | refine WC.ret ?_
    | refine WC.seq ?_
    | refine WC.region ?_
    | refine WO.nil ?_
    | refine WO.cons ?_
    | refine W1.mv rfl ?_
    | refine W1.fa rfl ?_
    | refine W1.ext rfl rfl ?_
    | refine Exists.intro _ (And.intro (Res.tmp rfl Res.nil) ?_)
  exact ⟨10, [], _, _, _, [], rfl, by decide, by simp, hM, by simp only [List.length_append, List.length_nil]; omega, by simp only [List.length_append, List.length_nil]; omega, nothing_ok rfl (fun _ _ => rfl)⟩
set_option maxHeartbeats 1000000 in
theorem ag28 {g : Gz} {bx : Nat} {t : RwD} {sl : V} {np : Nat} {xa xb : Nat → Int} {n1 n2 n3 : Int} (I : InOk g bx t sl np xa xb n1 n2 n3) : AgC ftb g 28 [.ptr bx 0] := by
  have l3 : rdAgg g true bx 0 3 = some (.agg t.cells) := by simp [rdAgg, rdG, I.hX, RwD.cells]
  have k3 : rdAgg g false bx 3 1 = some sl := by simp [rdAgg, I.hX, RwD.cells]
  have k4 : rdAgg g false bx 4 1 = some (.int .i64 n1) := by simp [rdAgg, I.hX, RwD.cells]
  have k5 : rdAgg g false bx 5 1 = some (.int .i64 n2) := by simp [rdAgg, I.hX, RwD.cells]
  have k6 : rdAgg g false bx 6 1 = some (.int .i64 n3) := by simp [rdAgg, I.hX, RwD.cells]
  intro b
  have l40 : lim40 = 1099511627776 := rfl
  have hlim : limit = 35184372088832 := rfl
  refine WF.intro rfl (Nat.le_of_ble_eq_true rfl) ?_
  repeat' first
    | refine W1.ldG rfl l3 ?_
    | refine W1.ldG rfl k4 ?_
    | (refine W1.callV rfl rfl (WV.func ((f29 I.ok).mono fun v M' => ?_)); rintro ⟨rfl, n, e, rfl⟩)
    | refine W1.put (Q := []) (Mh := [(b, E2P)]) (k := 1) rfl (p8 g _ 1 cellInt) (HpM.new b) (by simp only [List.length_nil]; omega) (by simp only [List.length_nil]; omega) (fun v ns ss Mh' h1 h2 hM => ?_)
    | refine W1.put (Q := []) (k := 1) rfl (p9 g _ 1 cellInt) hM (by simp only [List.length_append, List.length_nil]; omega) (by simp only [List.length_append, List.length_nil]; omega) (fun v ns ss Mh' h1 h2 hM => ?_)
    | refine WC.ret ?_
    | refine WC.seq ?_
    | refine WC.region ?_
    | refine WO.nil ?_
    | refine WO.cons ?_
    | refine W1.mv rfl ?_
    | refine W1.fa rfl ?_
    | refine W1.ext rfl rfl ?_
    | refine Exists.intro _ (And.intro (Res.tmp rfl Res.nil) ?_)
  exact ⟨10, [], _, _, _, [], rfl, by decide, by simp, hM, by simp only [List.length_append, List.length_nil]; omega, by simp only [List.length_append, List.length_nil]; omega, nothing_ok rfl (fun _ _ => rfl)⟩
set_option maxHeartbeats 1000000 in
theorem ag30 {g : Gz} {bx : Nat} {t : RwD} {sl : V} {np : Nat} {xa xb : Nat → Int} {n1 n2 n3 : Int} (I : InOk g bx t sl np xa xb n1 n2 n3) : AgC ftb g 30 [.ptr bx 0] := by
  have l3 : rdAgg g true bx 0 3 = some (.agg t.cells) := by simp [rdAgg, rdG, I.hX, RwD.cells]
  have k3 : rdAgg g false bx 3 1 = some sl := by simp [rdAgg, I.hX, RwD.cells]
  have k4 : rdAgg g false bx 4 1 = some (.int .i64 n1) := by simp [rdAgg, I.hX, RwD.cells]
  have k5 : rdAgg g false bx 5 1 = some (.int .i64 n2) := by simp [rdAgg, I.hX, RwD.cells]
  have k6 : rdAgg g false bx 6 1 = some (.int .i64 n3) := by simp [rdAgg, I.hX, RwD.cells]
  intro b
  have l40 : lim40 = 1099511627776 := rfl
  have hlim : limit = 35184372088832 := rfl
  refine WF.intro rfl (Nat.le_of_ble_eq_true rfl) ?_
  repeat' first
    | refine W1.ldG rfl l3 ?_
    | (refine W1.callV rfl rfl (WV.func ((f31 I.ok).mono fun v M' => ?_)); rintro ⟨s, R, k, e, rfl, ho, hk, rfl⟩)
    | refine W1.putO (pre := [_]) (R := R) rfl p32 ho (HpM.new b) (by simp only [List.length_nil]; omega) (by simp only [List.length_nil]; omega) (fun v ns ss Mh' h1 h2 hM => ?_)
    | refine W1.put (Q := _ :: toM R) (k := 1) rfl (p9 g _ 1 cellInt) hM (by simp only [List.length_append, List.length_nil]; omega) (by simp only [List.length_append, List.length_nil]; omega) (fun v ns ss Mh' h1 h2 hM => ?_)
    | refine WC.ret ?_
    | refine WC.seq ?_
    | refine WC.region ?_
    | refine WO.nil ?_
    | refine WO.cons ?_
    | refine W1.mv rfl ?_
    | refine W1.fa rfl ?_
    | refine W1.ext rfl rfl ?_
    | refine W1.mkfn rfl rfl ?_
    | refine W1.alloc rfl (fun bb => ?_)
    | refine Exists.intro _ (And.intro (Res.tmp rfl Res.nil) ?_)
    | refine W1.st0 rfl rfl ho.scalar .here ?_
    | refine W1.ldS rfl .here rfl ?_
  exact ⟨33, [.ptr _ 0], _, _, _, _ :: toM R, rfl, by decide, agc_perm, hM, by simp only [List.length_append, List.length_nil]; omega, by simp only [List.length_append, List.length_nil]; omega, wipeC_ok (fn := 34) rfl (fun _ _ => rfl) w34 ho⟩
set_option maxHeartbeats 1000000 in
theorem ag35 {g : Gz} {bx : Nat} {t : RwD} {sl : V} {np : Nat} {xa xb : Nat → Int} {n1 n2 n3 : Int} (I : InOk g bx t sl np xa xb n1 n2 n3) : AgC ftb g 35 [.ptr bx 0] := by
  have l3 : rdAgg g true bx 0 3 = some (.agg t.cells) := by simp [rdAgg, rdG, I.hX, RwD.cells]
  have k3 : rdAgg g false bx 3 1 = some sl := by simp [rdAgg, I.hX, RwD.cells]
  have k4 : rdAgg g false bx 4 1 = some (.int .i64 n1) := by simp [rdAgg, I.hX, RwD.cells]
  have k5 : rdAgg g false bx 5 1 = some (.int .i64 n2) := by simp [rdAgg, I.hX, RwD.cells]
  have k6 : rdAgg g false bx 6 1 = some (.int .i64 n3) := by simp [rdAgg, I.hX, RwD.cells]
  intro b
  have l40 : lim40 = 1099511627776 := rfl
  have hlim : limit = 35184372088832 := rfl
  refine WF.intro rfl (Nat.le_of_ble_eq_true rfl) ?_
  repeat' first
    | refine W1.ldG rfl l3 ?_
    | refine W1.ldG rfl k5 ?_
    | refine W1.ldG rfl k6 ?_
    | (refine W1.callV rfl rfl (WV.func ((f36 I.ok).mono fun v M' => ?_)); rintro ⟨rfl, n, e, rfl⟩)
    | refine W1.put (Q := []) (Mh := [(b, E2P)]) (k := 1) rfl (p8 g _ 1 cellInt) (HpM.new b) (by simp only [List.length_nil]; omega) (by simp only [List.length_nil]; omega) (fun v ns ss Mh' h1 h2 hM => ?_)
    | refine W1.put (Q := []) (k := 1) rfl (p9 g _ 1 cellInt) hM (by simp only [List.length_append, List.length_nil]; omega) (by simp only [List.length_append, List.length_nil]; omega) (fun v ns ss Mh' h1 h2 hM => ?_)
    | refine WC.ret ?_
    | refine WC.seq ?_
    | refine WC.region ?_
    | refine WO.nil ?_
    | refine WO.cons ?_
    | refine W1.mv rfl ?_
    | refine W1.fa rfl ?_
    | refine W1.ext rfl rfl ?_
    | refine Exists.intro _ (And.intro (Res.tmp rfl Res.nil) ?_)
  exact ⟨10, [], _, _, _, [], rfl, by decide, by simp, hM, by simp only [List.length_append, List.length_nil]; omega, by simp only [List.length_append, List.length_nil]; omega, nothing_ok rfl (fun _ _ => rfl)⟩
end Go.Ax
end
section
namespace Go.Ax
open Go.Ax.Ir
noncomputable def tb0 (_ : Nat) : List V := []
theorem TabG.lessG {tb : Nat → List V} {g g' : Gz} (hg : g.le g') (h : TabG tb g) : TabG tb g' := fun k hk => hg _ _ (h k hk)
noncomputable abbrev rft : FT FnR := rootFt tbl 5 37 38 tb0
theorem rplain : ∀ f args h x, rft.orc f args h = some x → rft.fn f = none := rootFt_plain rfl rfl
theorem lift3 {g : Gz} {f : Nat} {args : List V} {M : Mem} {K : V → Mem → Prop} (h : WF ftb g f args M K) : WF rft g f args M K := WF.lift rplain h
attribute [local irreducible] W1 WO WC WD WF WV
def ir3e : ICode := cS2 (cS2 (cS2 (cS2 (cS2 ir3.code))))
theorem root_end {g : Gz} (htg : TabG tb0 g) {b3 b4 : Nat} {cn cs : List V} {M1 M2 : Mem} {L : Env} (h3 : HpM b3 cn cs M1) (h4 : HpM b4 cn cs M2) (ln : cn.length ≤ limit) (ls : cs.length ≤ limit) (hL : subL L [(3, .ptr b3 0), (4, .ptr b4 0), (5, .bool true)]) :
    WC rft g none ir3e L (M2 ++ M1) (retK g ir3.res fun v _ => v = .bool true) := by
  obtain ⟨sn, ss, Mn, Ms, hp, l1, l2⟩ := h3.ex
  obtain ⟨sn', ss', Mn', Ms', hp', l1', l2'⟩ := h4.ex
  obtain ⟨R1, rfl, c1, k1⟩ := l1.toM
  obtain ⟨R2, rfl, c2, k2⟩ := l2.toM
  obtain ⟨R1', rfl, c1', k1'⟩ := l1'.toM
  obtain ⟨R2', rfl, c2', k2'⟩ := l2'.toM
  have hP : (M2 ++ M1).Perm ((b4, Arr1 [sn', ss'] {}) :: (b3, Arr1 [sn, ss] {}) :: toM ((R1' ++ R2') ++ (R1 ++ R2))) := by
    refine (hp'.append hp).trans ?_
    rw [List.cons_append, toM_app, toM_app, toM_app]
    exact List.Perm.cons _ List.perm_middle
  refine WC.permM hP ?_
  refine WC.weak hL ?_
  repeat' first
    | refine W1.ldAll rfl .here rfl ?_
    | refine W1.ldAll rfl (.there .here) rfl ?_
    | (refine W1.callV rfl rfl (WV.func (WF.permM (List.perm_append_comm (l₁ := [_, _])) (WF.freezeL fun g' hg hR => ((WF.frame (M0 := []) (lift3 (f_same (ft := ftb) (sm := 37) rfl (fun _ _ => rfl) (k1 g' fun p hp => hR p (by simp [hp])) (k2 g' fun p hp => hR p (by simp [hp])) (k1' g' fun p hp => hR p (by simp [hp])) (k2' g' fun p hp => hR p (by simp [hp])) c1 c2 c1' c2' h3.ints h3.strs ln ls)) (List.Perm.refl _)).mono fun v M' => ?_)))); rintro ⟨_, rfl, rfl⟩)
    | refine W1.awake (by decide) htg ?_
    | refine WC.ret ?_
    | refine WC.seq ?_
    | refine WC.region ?_
    | refine WO.nil ?_
    | refine WO.cons ?_
    | refine W1.guard_y rfl (by first | assumption | rfl) ?_
    | refine W1.pick_t rfl (by first | assumption | rfl) rfl ?_
    | refine W1.mv rfl ?_
    | refine Exists.intro _ (And.intro (Res.tmp rfl Res.nil) ?_)
  rfl
set_option maxHeartbeats 1000000 in
theorem f3 {g : Gz} {vs : List V} {k : Nat} (hrow : Ax.Row g tyAnew vs k) (hk : k ≤ 1048576) (htg : TabG tb0 g) (hg : GOk g) : WF rft g 3 [.agg vs] [] fun v _ => v = .bool true := by
  obtain ⟨ns, ss, a1, a2, _, _, put⟩ := p4 hrow
  obtain ⟨v1, v2, k1, k2, rfl, r1, r2, _⟩ := hrow.split
  obtain ⟨t, rfl, ok, hN⟩ := bridge r1 (by omega)
  obtain ⟨sl, ws, _, _, rfl, d0, r2, _⟩ := r2.cons_inv
  obtain ⟨w1, ws, _, _, rfl, d1, r2, _⟩ := r2.cons_inv
  obtain ⟨w2, ws, _, _, rfl, d2, r2, _⟩ := r2.cons_inv
  obtain ⟨w3, ws, _, _, rfl, d3, r2, _⟩ := r2.cons_inv
  obtain rfl := r2.nil_inv
  obtain ⟨np, xa, xb, hpl, s2, s3⟩ := d0.steps
  obtain ⟨n1, rfl⟩ := d1.int_inv
  obtain ⟨n2, rfl⟩ := d2.int_inv
  obtain ⟨n3, rfl⟩ := d3.int_inv
  have l40 : lim40 = 1099511627776 := rfl
  have hlim : limit = 35184372088832 := rfl
  have hsc : (V.agg (t.cells ++ [sl, .int .i64 n1, .int .i64 n2, .int .i64 n3])).cells.all V.scalar = true := by
    refine List.all_eq_true.2 fun v hv => ?_
    rcases List.mem_append.1 (show v ∈ t.cells ++ [sl, .int .i64 n1, .int .i64 n2, .int .i64 n3] from hv) with h | h
    · exact List.all_eq_true.1 ok.sc3 v h
    · simp only [List.mem_cons, List.mem_nil_iff, or_false] at h
      rcases h with rfl | rfl | rfl | rfl
      · exact s2
      iterate 3 rfl
  refine WF.intro rfl (Nat.le_of_ble_eq_true rfl) ?_ (fun _ _ => rfl)
  refine WC.seq (WC.region (WO.cons (W1.box rfl hsc fun bx => WO.cons (W1.mv rfl (WO.nil ?_)))))
  refine WC.freeze .here fun hb => WC.withSat fun hp hs => ?_
  have s0 := hs.less (Gz.le_add hb)
  have hle := Gz.le_add (o := .arr (V.agg (t.cells ++ [sl, .int .i64 n1, .int .i64 n2, .int .i64 n3])).cells {}) hb
  have hg' := hg.add (b := bx) hb (hrow.dom s0)
  have htg' := htg.lessG hle
  have hX := Gz.add_eq g bx (.arr (V.agg (t.cells ++ [sl, .int .i64 n1, .int .i64 n2, .int .i64 n3])).cells {})
  have I : InOk _ bx t sl np xa xb n1 n2 n3 := ⟨hX, ok.lessG hle, hN, hpl.lessG hle, s2, by omega⟩
  have l7 : rdAgg (g.add bx (.arr (V.agg (t.cells ++ [sl, .int .i64 n1, .int .i64 n2, .int .i64 n3])).cells {})) true bx 0 7 = some (.agg (t.cells ++ [sl, .int .i64 n1, .int .i64 n2, .int .i64 n3])) := by
    unfold rdAgg rdG; rw [hX]; rfl
  have hin : V.insD (fun c => ∃ p, (g.add bx (.arr (V.agg (t.cells ++ [sl, .int .i64 n1, .int .i64 n2, .int .i64 n3])).cells {})) c = some p) [.ptr bx 0] := ⟨⟨_, hX⟩, trivial⟩
  obtain ⟨ns, ss, a1, a2, _, _, put⟩ := p4 (hrow.lessG hle)
  repeat' first
    | refine W1.ldG rfl l7 ?_
    | (refine W1.callV rfl rfl (WV.func (((lift3 (put _ [] [] _ (HpM.new _) (by simp only [List.length_nil]; omega) (by simp only [List.length_nil]; omega))).frame (List.Perm.swap _ _ _)).mono fun v M' => ?_)); rintro ⟨M1, hM1, rfl⟩)
    | (refine W1.callV rfl rfl (WV.func (((lift3 (put _ [] [] [(_, E2P)] (HpM.new _) (by simp only [List.length_nil]; omega) (by simp only [List.length_nil]; omega))).frame List.perm_append_comm).mono fun v M' => ?_)); rintro ⟨M2, hM2, rfl⟩)
    | refine W1.again (sm := 37) rfl (by decide) htg' hg' hin (ag6 I) ?_
    | refine W1.again (sm := 37) rfl (by decide) htg' hg' hin (ag11 I) ?_
    | refine W1.again (sm := 37) rfl (by decide) htg' hg' hin (ag16 I) ?_
    | refine W1.again (sm := 37) rfl (by decide) htg' hg' hin (ag21 I) ?_
    | refine W1.again (sm := 37) rfl (by decide) htg' hg' hin (ag26 I) ?_
    | refine W1.again (sm := 37) rfl (by decide) htg' hg' hin (ag28 I) ?_
    | refine W1.again (sm := 37) rfl (by decide) htg' hg' hin (ag30 I) ?_
    | refine W1.again (sm := 37) rfl (by decide) htg' hg' hin (ag35 I) ?_
    | refine WC.mono (root_end htg' hM1 hM2 ?_ ?_ ?_) (fun x L1 M1 h => ?_)
    | refine WC.seq ?_
    | refine WC.region ?_
    | refine WO.nil ?_
    | refine WO.cons ?_
    | refine W1.guard_y rfl (by first | assumption | rfl) ?_
    | refine W1.pick_t rfl (by first | assumption | rfl) rfl ?_
    | refine W1.mv rfl ?_
    | refine W1.mkfn rfl rfl ?_
    | refine W1.alloc rfl (fun bb => ?_)
  · simp only [List.length_append, List.length_nil]; omega
  · simp only [List.length_append, List.length_nil]; omega
  · repeat (first | exact subL.nil _ | refine subL.cons rfl ?_)
  · cases x with
    | normal => obtain ⟨vs, hr, hK⟩ := h; exact ⟨vs, fun τ hh hl hs => hr τ hh hl (hs.freeze .here), hK⟩
    | ret => obtain ⟨vs, hr, hK⟩ := h; exact ⟨vs, fun τ hh hl hs => hr τ hh hl (hs.freeze .here), hK⟩
    | _ => exact h
end Go.Ax
end
