import Derived.Test.YtbgnifoklhediaaGreatDoorA1
import Derived.Calls
import Derived.Orders
set_option linter.unusedSectionVars false
set_option linter.unusedVariables false
set_option linter.unusedSimpArgs false
section
set_option linter.unusedSectionVars false
namespace Go.Ax
variable [Globs]
open Go.RowKit
section
variable {S : Type → Type} [Rep S] {CR : Nat → ICode → Code → Prop}
variable {P : Program} {m : GM} {ρ : Opd → V} {ρc : Operand → Value} {w : World} {h h' : Hp S}
structure AppTy (P : Program) (ats : Array TypeId) (e : TypeId) (j : TypeInfo) (zv : Value) : Prop where
  t0 : ∃ t, ats[0]? = some t ∧ P.underlying t = some (.slice e)
  t1 : ∃ t u, ats[1]? = some t ∧ P.underlying t = some u ∧ isIntD u = false
  inf : P.info? e = some j
  zero : j.zero = some zv
  size : zv.cells.size = j.size
  bytes : 0 < j.bytes
def stBase (base : Option Addr) (k : Nat) (new : Array Value) : Sem Unit :=
  match base with
  | some a => storeCells (a.add k) new.toList
  | none => pure ()
theorem run_append_in {ats : Array TypeId} {e : TypeId} {j : TypeInfo} {zv : Value} (ht : AppTy P ats e j zv) {ty : TypeId} {base : Option Addr} {sLen sCap n : Nat} {x' : Value} {new : Array Value} {W : World}
    (hl : (Builtin.lenOf x').run P w = .ok n w) (hn : (Builtin.firstCells j.size n x').run P w = .ok new w) (hroom : sLen + n ≤ sCap)
    (hst : (stBase base (sLen * j.size) new).run P w = .ok () W) :
    (Builtin.append_ ats ty #[.slice base sLen sCap, x']).run P w = .ok (.slice base (sLen + n) sCap) W := by
  obtain ⟨t, h1, h2⟩ := ht.t0
  obtain ⟨t', u, h3, h4, h5⟩ := ht.t1
  have fin : (Builtin.append_ ats ty #[.slice base sLen sCap, x']).run P w = ((stBase base (sLen * j.size) new).run P w).andThen fun _ w' => .ok (.slice base (sLen + n) sCap) w' := by
    cases u <;> first
      | (cases h5; done)
      | (simp only [Builtin.append_, h1, h3, List.getElem?_toArray, List.getElem?_cons_zero, List.getElem?_cons_succ, Sem.run_bind, run_underlying' h2, run_underlying' h4, Result.andThen_ok, run_sizeOf' ht.inf, Sem.run_pure,
          Bool.false_eq_true, if_false, hl, Bool.not_false, if_true, if_pos hroom, hn]
         cases base <;> simp [stBase])
  rw [fin, hst]
  rfl
theorem run_append_out {ats : Array TypeId} {e : TypeId} {j : TypeInfo} {zv : Value} (ht : AppTy P ats e j zv) {ty : TypeId} {base : Option Addr} {sLen sCap n : Nat} {x' : Value} {old new : Array Value}
    (hl : (Builtin.lenOf x').run P w = .ok n w) (ho : (Builtin.firstCells j.size sLen (.slice base sLen sCap)).run P w.drew = .ok old w.drew) (hn : (Builtin.firstCells j.size n x').run P w.drew = .ok new w.drew)
    (hroom : sCap < sLen + n) (hlim : (sLen + n) * j.bytes ≤ limit) :
    (Builtin.append_ ats ty #[.slice base sLen sCap, x']).run P w =
      .ok (.slice (some ⟨w.heap.size, 0, none⟩) (sLen + n) (grownCap w (sLen + n) sCap e)) (w.drew.alloc (.cells (old ++ new ++ Builtin.zeroCells zv.cells (grownCap w (sLen + n) sCap e - (sLen + n))) e)) := by
  obtain ⟨t, h1, h2⟩ := ht.t0
  obtain ⟨t', u, h3, h4, h5⟩ := ht.t1
  have lim : limit = 35184372088832 := rfl
  have hb := ht.bytes
  have hnc := nextslicecap_le (need := sLen + n) hroom
  have h48 : ¬ (Builtin.nextslicecap (sLen + n) sCap * j.bytes > 2 ^ 48) := by
    have : Builtin.nextslicecap (sLen + n) sCap * j.bytes ≤ 2 * (sLen + n) * j.bytes := Nat.mul_le_mul_right _ hnc
    rw [Nat.mul_assoc] at this
    omega
  have hb0 : ¬ (j.bytes = 0) := by omega
  have hdrew : ({ w with drawn := w.drawn + 1 } : World) = w.drew := rfl
  have hcap : (Question.appendCap (sLen + n) sCap e).cut (w.tape w.drawn (.appendCap (sLen + n) sCap e)) = grownCap w (sLen + n) sCap e := rfl
  cases u <;> first
    | (cases h5; done)
    | (simp only [Builtin.append_, h1, h3, List.getElem?_toArray, List.getElem?_cons_zero, List.getElem?_cons_succ, Sem.run_bind, run_underlying' h2, run_underlying' h4, Result.andThen_ok, run_sizeOf' ht.inf, Sem.run_pure,
        Bool.false_eq_true, if_false, hl, Bool.not_false, if_true, if_neg (Nat.not_le.2 hroom), typeInfo, ht.inf, run_program, hb0, or_self, and_false, h48, run_choose, Question.forced, run_askRoom, hdrew, hcap, ho, hn,
        zeroValue, ht.zero, newRow, run_newObj]
       rfl)
theorem zeroCells_size (z : Array Value) (n : Nat) : (Builtin.zeroCells z n).size = n * z.size := by simp [Builtin.zeroCells]
theorem append_sound (hr : HR CR m h.get w) (hf : Fresh m h.n) {ats : Array TypeId} {e : TypeId} {j : TypeInfo} {zv : Value} (ht : AppTy P ats e j zv) {ty : TypeId} {s x : V} {s' x' : Value} (vs : VR m s s') (vx : VR m x x') {v : V}
    (hv : appendF h j.size j.bytes s x = some (v, h')) :
    ∃ vc w' m', (Builtin.append_ ats ty #[s', x']).run P w = .ok vc w' ∧ VR m' v vc ∧ HR CR m' h'.get w' ∧ Fr m w m' w' ∧ Fresh m' h'.n := by
  have hdrew : ∀ b t, m b = some t → w.drew.heap[t.cb]? = w.heap[t.cb]? := fun _ _ _ => rfl
  have hrd : HR CR m h.get w.drew := hr.frame (Nat.le_refl _) hdrew
  have hfrd : Fr m w m w.drew := ⟨fun _ _ e => e, Nat.le_refl _, fun _ _ _ => rfl, fun _ _ e => e, fun b s e _ => ⟨b, s, e, rfl⟩, rfl, rfl, rfl⟩
  have hN : m h.n = none := hf h.n (Nat.le_refl _)
  have fresh : ∀ (cs : List V) (a : BA) (old new : List Value) (need sLen sCap : Nat) (base : Option Addr), VRs m cs (old ++ new) → cs.all V.scalar = true → a.ro = false → a.sl ≤ cs.length → cs.length = need * j.size →
      need ≤ grownCap w need sCap e → ∀ h2 : Hp S, h2.n = h.n → HR CR m h2.get w.drew →
      ∃ m', VR m' (.slice h.n 0 need none j.size) (.slice (some ⟨w.heap.size, 0, none⟩) need (grownCap w need sCap e)) ∧
        HR CR m' (h2.push (.arr cs a)).get (w.drew.alloc (.cells (⟨old⟩ ++ ⟨new⟩ ++ Builtin.zeroCells zv.cells (grownCap w need sCap e - need)) e)) ∧
        Fr m w m' (w.drew.alloc (.cells (⟨old⟩ ++ ⟨new⟩ ++ Builtin.zeroCells zv.cells (grownCap w need sCap e - need)) e)) ∧ Fresh m' (h2.push (.arr cs a)).n := by
    intro cs a old new need sLen sCap base hcs hsc hro hsl hlen hcap h2 hn2 hr2
    have hl := hcs.length
    have hc : ((⟨old⟩ ++ ⟨new⟩ ++ Builtin.zeroCells zv.cells (grownCap w need sCap e - need) : Array Value)).toList = (old ++ new) ++ (Builtin.zeroCells zv.cells (grownCap w need sCap e - need)).toList := by simp
    generalize hA : (⟨old⟩ ++ ⟨new⟩ ++ Builtin.zeroCells zv.cells (grownCap w need sCap e - need) : Array Value) = A at hc ⊢
    have hsize : A.size = grownCap w need sCap e * j.size := by
      have h1 : A.size = A.toList.length := Array.length_toList.symm
      have h3 : (Builtin.zeroCells zv.cells (grownCap w need sCap e - need)).toList.length = (grownCap w need sCap e - need) * j.size := by
        rw [Array.length_toList, zeroCells_size, ht.size]
      rw [h1, hc, List.length_append, ← hl, hlen, h3, ← Nat.add_mul]
      congr 1
      omega
    have hb := hr2.alloc h.n A.size hN (.arr cs a) (.cells A e) (BR.newRow' hsl hsc hc hcs (GM.put_mono hN))
    refine ⟨_, .slice (s := ⟨w.heap.size, 0, A.size, true⟩) 0 need (grownCap w need sCap e) none j.size (by simp [GM.put]) (by simp) hcap (by show 0 + _ ≤ A.size; rw [hsize]; omega), ?_, hfrd.trans hb.2, ?_⟩
    · have e2 : (h2.push (.arr cs a)).get = fun c => if c = h.n then some (.arr cs a) else h2.get c := by funext c; rw [Hp.get_push, hn2]
      rw [e2]
      exact hb.1
    · intro b hb'
      have : h2.n + 1 ≤ b := hb'
      simp only [GM.put]
      rw [if_neg (by omega)]
      exact hf b (by omega)
  unfold appendF at hv
  split at hv
  · cases hv
  rename_i xs n hsrc
  obtain ⟨hl, hxl, hxs, hfc⟩ := src_sound (P := P) hr vx hsrc w (fun _ => rfl)
  obtain ⟨hl', _, _, hfc'⟩ := src_sound (P := P) hr vx hsrc w.drew (fun _ => rfl)
  obtain ⟨ys, hys, vys⟩ := hfc n (Nat.le_refl _)
  obtain ⟨ys', hys', vys'⟩ := hfc' n (Nat.le_refl _)
  have ht1 : xs.take (n * j.size) = xs := by rw [← hxl]; simp
  rw [ht1] at vys vys'
  split at hv
  · -- a nil slice
    cases vs
    split at hv
    · rename_i hn0
      cases hv
      obtain rfl := Nat.eq_of_beq_eq_true hn0
      exact ⟨_, w, m, run_append_in ht hl hys (Nat.le_refl _) rfl, .nilslice, hr, Fr.refl _ _, hf⟩
    · rename_i hn0
      have hnz : n ≠ 0 := fun e => hn0 (by rw [e]; rfl)
      split at hv
      case isFalse => cases hv
      rename_i hlim
      cases hv
      have hlim' := Nat.le_of_ble_eq_true hlim
      have hge := grownCap_ge w n 0 e
      have run := run_append_out (ty := ty) ht (base := none) (sLen := 0) (sCap := 0) (old := #[]) hl (by simp [Builtin.firstCells]) hys' (by omega) (by rw [Nat.zero_add]; exact hlim')
      rw [Nat.zero_add] at run
      obtain ⟨m', h1, h2, h3, h4⟩ := fresh xs {} [] ys' n 0 0 none (by simpa using vys') hxs rfl (Nat.zero_le _) hxl hge h rfl hrd
      exact ⟨_, _, m', run, h1, h2, h3, h4⟩
  · rename_i b o len cap e'
    split at hv
    case isFalse => cases hv
    rename_i he
    obtain rfl := Nat.eq_of_beq_eq_true he
    split at hv
    · -- nothing to append
      rename_i hn0
      cases hv
      obtain rfl := Nat.eq_of_beq_eq_true hn0
      have hxe : xs = [] := List.eq_nil_of_length_eq_zero (by rw [hxl]; simp)
      subst hxe
      cases vys with
      | nil =>
      rcases vs.slice_inv with ⟨sp, c, hm, rfl, hc, hlc, hro⟩ | ⟨ad, rfl, hc, rfl⟩
      · exact ⟨_, w, m, run_append_in ht hl hys (by omega) (by simp [stBase, storeCells]), vs, hr, Fr.refl _ _, hf⟩
      · exact ⟨_, w, m, run_append_in ht hl hys (by omega) (by simp [stBase, storeCells]), vs, hr, Fr.refl _ _, hf⟩
    · rename_i hn0
      have hnz : n ≠ 0 := fun e => hn0 (by rw [e]; rfl)
      split at hv
      case isFalse => cases hv
      rename_i hlim
      have hlim' := Nat.le_of_ble_eq_true hlim
      split at hv
      · -- a capacity that is known
        rename_i c
        split at hv
        · rename_i hroom
          have hroom' := Nat.le_of_ble_eq_true hroom
          cases hw : h.wr b (o + len * j.size) xs with
          | none => simp [hw] at hv
          | some h2 =>
            simp only [hw, Option.map_some, Option.some.injEq, Prod.mk.injEq] at hv
            obtain ⟨rfl, rfl⟩ := hv
            rcases vs.slice_inv with ⟨sp, c', hm, rfl, hc, hlc, hro⟩ | ⟨ad, rfl, hc, rfl⟩
            · obtain rfl := hc c rfl
              obtain ⟨w', hst, hr', hfr, hn⟩ := wr_sound (P := P) hr hw hm vys
              refine ⟨_, w', m, run_append_in ht hl hys hroom' (by simp only [stBase, addr_add]; rw [Nat.add_assoc]; exact hst), .slice o (len + n) c' (some c') j.size hm (by simp) hroom' hro, hr', hfr, ?_⟩
              rw [hn]; exact hf
            · have := hc c rfl; omega
        · rename_i hroom
          have hroom' : c < len + n := by
            have : ¬ (len + n ≤ c) := fun h => hroom (Nat.ble_eq_true_of_le h)
            omega
          cases hsrc2' : srcCells h j.size (.slice b o len (some c) j.size) with
          | none => simp [hsrc2'] at hv
          | some od =>
            obtain ⟨olds, len2⟩ := od
            simp only [hsrc2', Option.map_some, Option.some.injEq, Prod.mk.injEq] at hv
            obtain ⟨rfl, rfl⟩ := hv
            have hlen2 := srcCells_len hsrc2'
            rw [hlen2] at hsrc2'
            have hsrc2 := hsrc2'
            obtain ⟨hlo, hol, hos, hfo⟩ := src_sound (P := P) hr vs hsrc2 w.drew (fun _ => rfl)
            obtain ⟨zs, hzs, vzs⟩ := hfo len (Nat.le_refl _)
            have ht2 : olds.take (len * j.size) = olds := by rw [← hol]; simp
            rw [ht2] at vzs
            have hge := grownCap_ge w (len + n) c e
            obtain ⟨m', h1, h2, h3, h4⟩ := fresh (olds ++ xs) {} zs ys' (len + n) 0 c none (vzs.append vys') (by rw [List.all_append, hos, hxs]; rfl) rfl (Nat.zero_le _) (by rw [List.length_append, hol, hxl, Nat.add_mul]) hge h rfl hrd
            rcases vs.slice_inv with ⟨sp, c', hm, rfl, hc, hlc, hro⟩ | ⟨ad, rfl, hc, rfl⟩
            · obtain rfl := hc c rfl
              exact ⟨_, _, m', run_append_out ht hl hzs hys' hroom' hlim', h1, h2, h3, h4⟩
            · obtain rfl := hc c rfl
              exact ⟨_, _, m', run_append_out ht hl hzs hys' hroom' hlim', h1, h2, h3, h4⟩
      · -- a capacity that is not
        split at hv
        case h_2 => cases hv
        rename_i cs a hg
        split at hv
        · cases hv
        rename_i hcond
        simp only [Bool.or_eq_true, Bool.not_eq_true', not_or, Bool.not_eq_true, Bool.not_eq_false] at hcond
        obtain ⟨⟨hro, hch⟩, hend⟩ := hcond
        have hend' := Nat.eq_of_beq_eq_true hend
        cases hv
        have key : ∃ vc w' m', (Builtin.append_ ats ty #[s', x']).run P w = .ok vc w' ∧ VR m' (.slice h.n 0 (len + n) none j.size) vc ∧
            HR CR m' ((h.put b (.arr cs { a with child := true })).push (.arr (cs.drop o ++ xs) { anc := b :: a.anc, sl := len * j.size })).get w' ∧ Fr m w m' w' ∧
            Fresh m' ((h.put b (.arr cs { a with child := true })).push (.arr (cs.drop o ++ xs) { anc := b :: a.anc, sl := len * j.size })).n := by
          have hdl : (cs.drop o).length = len * j.size := by rw [List.length_drop]; omega
          have hrdo : rdG h.get b o (len * j.size) = some (cs.drop o) := by
            simp only [rdG, hg]
            rw [if_pos (by omega), List.take_of_length_le (by omega)]
          have hsrc2 : srcCells h j.size (.slice b o len none j.size) = some (cs.drop o, len) := srcCells_of hrdo
          obtain ⟨hlo, hol, hos, hfo⟩ := src_sound (P := P) hr vs hsrc2 w.drew (fun _ => rfl)
          obtain ⟨zs, hzs, vzs⟩ := hfo len (Nat.le_refl _)
          have ht2 : (cs.drop o).take (len * j.size) = cs.drop o := List.take_of_length_le (by omega)
          rw [ht2] at vzs
          have hput : (h.put b (.arr cs { a with child := true })).get = fun c => if c = b then some (.arr cs { a with child := true }) else h.get c := by funext c; rw [Hp.get_put]
          have outgo : ∀ sCap (base : Option Addr), s' = .slice base len sCap → sCap < len + n → ∃ vc w' m', (Builtin.append_ ats ty #[s', x']).run P w = .ok vc w' ∧ VR m' (.slice h.n 0 (len + n) none j.size) vc ∧
              HR CR m' ((h.put b (.arr cs { a with child := true })).push (.arr (cs.drop o ++ xs) { anc := b :: a.anc, sl := len * j.size })).get w' ∧ Fr m w m' w' ∧
              Fresh m' ((h.put b (.arr cs { a with child := true })).push (.arr (cs.drop o ++ xs) { anc := b :: a.anc, sl := len * j.size })).n := by
            rintro sCap base rfl hlt
            have hge := grownCap_ge w (len + n) sCap e
            obtain ⟨m', h1, h2, h3, h4⟩ := fresh (cs.drop o ++ xs) { anc := b :: a.anc, sl := len * j.size } zs ys' (len + n) 0 sCap none (vzs.append vys') (by rw [List.all_append, hos, hxs]; rfl) rfl
              (by show len * j.size ≤ _; rw [List.length_append, hol]; omega) (by rw [List.length_append, hol, hxl, Nat.add_mul]) hge (h.put b (.arr cs { a with child := true })) rfl (by rw [hput]; exact hrd.setChild hg)
            exact ⟨_, _, m', run_append_out ht hl hzs hys' hlt hlim', h1, h2, h3, h4⟩
          rcases vs.slice_inv with ⟨sp, c', hm, hs', hc, hlc, hroom⟩ | ⟨ad, hlen0, hc, hs'⟩
          · rcases Nat.lt_or_ge c' (len + n) with hlt | hge
            · exact outgo c' _ hs' hlt
            · subst hs'
              obtain ⟨c, el, fz, k1, k2, k3, ⟨k4, k4'⟩, k5⟩ := hr.blk b sp _ hm hg
              obtain ⟨hown, rfl⟩ := k5 hro
              have hyl := vys.length
              have hmul : (len + n) * j.size ≤ c' * j.size := Nat.mul_le_mul_right _ hge
              rw [Nat.add_mul] at hmul
              have hfit : sp.co + o + len * j.size + ys.length ≤ c.size := by omega
              have hone := scalars_one vys hxs
              have hrun := run_storeCells_at P sp.cb (sp.co + o + len * j.size) el ys 0 c w k1 (by simpa using hfit) hone
              simp only [Nat.add_zero] at hrun
              have ec : (c.toList.take (sp.co + o + len * j.size) ++ ys ++ c.toList.drop (sp.co + o + len * j.size + ys.length)).toArray = ⟨spliceV c.toList (sp.co + o + len * j.size) ys⟩ := rfl
              rw [ec] at hrun
              have hsp := spliceV_get (cs := c.toList) (vs := ys) (o := sp.co + o + len * j.size) (by simpa using hfit)
              have hat : ∀ i : Nat, (⟨spliceV c.toList (sp.co + o + len * j.size) ys⟩ : Array Value)[i]? = (spliceV c.toList (sp.co + o + len * j.size) ys)[i]? := fun i => by simp
              have hshare := hr.share (N := h.n) (o := o) (k := len * j.size) (xs := xs) hm hg hro hch (fun y t e => by
                  rcases Nat.lt_or_ge y h.n with hlt | hge
                  · exact hlt
                  · rw [hf y hge] at e; cases e) hend' c el k1 ⟨spliceV c.toList (sp.co + o + len * j.size) ys⟩ (by
                  simp only [spliceV, List.size_toArray, List.length_append, List.length_take, List.length_drop, Array.length_toList]; omega) (by omega) hxs
                (fun i v hv => by
                  obtain ⟨z, hz, hzr⟩ := vys.get hv
                  have hi : i < ys.length := (List.getElem?_eq_some_iff.1 hz).1
                  refine ⟨z, ?_, hzr⟩
                  rw [hat, hsp, if_neg (by omega), if_pos (by omega), ← hz]
                  congr 1
                  omega)
                (fun i hi => by
                  rw [hat, hsp]
                  rcases hi with hi | hi
                  · rw [if_pos hi]; simp
                  · rw [if_neg (by omega), if_neg (by omega)]; simp)
              refine ⟨_, _, _, run_append_in ht hl hys hge (by simp only [stBase, addr_add]; exact hrun), ?_, ?_, hshare.2, ?_⟩
              · exact .slice (s := ⟨sp.cb, sp.co + o, sp.room - o, true⟩) 0 (len + n) c' none j.size (by simp [GM.put]) (by simp) hge (by show 0 + c' * j.size ≤ sp.room - o; omega)
              · have e2 : ((h.put b (.arr cs { a with child := true })).push (.arr (cs.drop o ++ xs) { anc := b :: a.anc, sl := len * j.size })).get =
                    fun z => if z = h.n then some (.arr (cs.drop o ++ xs) { anc := b :: a.anc, sl := len * j.size }) else if z = b then some (.arr cs { a with child := true }) else h.get z := by
                  funext z; rw [Hp.get_push, Hp.get_put]; rfl
                rw [e2]
                exact hshare.1
              · intro z hz
                have : h.n + 1 ≤ z := hz
                simp only [GM.put]
                rw [if_neg (by omega)]
                exact hf z (by omega)
          · subst hlen0
            exact outgo 0 _ hs' (by omega)
        obtain ⟨vc, w', m', q1, q2, q3, q4, q5⟩ := key
        have hkn : (Hp.kill (b :: a.anc) h).n = h.n := Hp.n_kill _ _
        refine ⟨vc, w', m', q1, q2, ?_, q4, fun z hz => q5 z ?_⟩
        · have hgO : ∀ y, ((h.put b (.arr cs { a with child := true })).push (.arr (cs.drop o ++ xs) { anc := b :: a.anc, sl := len * j.size })).get y =
              if y = h.n then some (.arr (cs.drop o ++ xs) { anc := b :: a.anc, sl := len * j.size }) else if y = b then some (.arr cs { a with child := true }) else h.get y := by
            intro y; rw [Hp.get_push, Hp.get_put]; rfl
          have hgN : ∀ y, ((Hp.kill (b :: a.anc) h).push (.arr (cs.drop o ++ xs) {})).get y =
              if y = h.n then some (.arr (cs.drop o ++ xs) {}) else if y ∈ b :: a.anc then some .dead else h.get y := by
            intro y; rw [Hp.get_push, hkn, Hp.get_kill]
          refine q3.fell (N := h.n) (cs := cs.drop o ++ xs) (A := { anc := b :: a.anc, sl := len * j.size }) (by rw [hgO, if_pos rfl]) rfl (fun y s e => ?_) (by rw [hgN, if_pos rfl]) (fun y hy => ?_) (fun y hy hin => ?_)
          · rcases Nat.lt_or_ge h.n y with h1 | h1
            · rw [q5 y h1] at e; cases e
            · exact h1
          · rw [hgN, hgO, if_neg hy, if_neg hy]
            by_cases h1 : y ∈ b :: a.anc
            · rw [if_pos h1]; exact Or.inr rfl
            · rw [if_neg h1, if_neg (fun e => h1 (by simp [e]))]; exact Or.inl rfl
          · rw [hgN, if_neg hy, if_pos hin]
        · have : (Hp.kill (b :: a.anc) h).n + 1 ≤ z := hz
          rw [hkn] at this
          exact this
  · cases hv
theorem copy_sound (hr : HR CR m h.get w) (hf : Fresh m h.n) {ats : Array TypeId} {e t : TypeId} {j : TypeInfo} (h1 : ats[0]? = some t) (h2 : P.underlying t = some (.slice e)) (hj : P.info? e = some j) {ty : TypeId} {d x : V} {d' x' : Value}
    (vd : VR m d d') (vx : VR m x x') {v : V} (hv : copyF h j.size d x = some (v, h')) :
    ∃ vc w', (Builtin.copy_ ats ty #[d', x']).run P w = .ok vc w' ∧ VR m v vc ∧ HR CR m h'.get w' ∧ Fr m w m w' ∧ Fresh m h'.n := by
  unfold copyF at hv
  split at hv
  · cases hv
  rename_i xs n hsrc
  obtain ⟨hl, hxl, hxs, hfc⟩ := src_sound (P := P) hr vx hsrc w (fun _ => rfl)
  have start : ∀ (base : Option Addr) (len cap k : Nat) (new : List Value) (W : World), min n len = k → (Builtin.firstCells j.size k x').run P w = .ok ⟨new⟩ w →
      (match base with | some a => (storeCells a new).run P w = .ok () W | none => W = w) → (Builtin.copy_ ats ty #[.slice base len cap, x']).run P w = .ok (goInt k) W := by
    intro base len cap k new W hk hfirst hst
    have hmin : Nat.min n len = k := hk
    cases base with
    | none =>
      subst hst
      simp only [Builtin.copy_, h1, List.getElem?_toArray, List.getElem?_cons_zero, List.getElem?_cons_succ, Sem.run_bind, run_underlying' h2, Result.andThen_ok, hl, hmin, run_sizeOf' hj, hfirst, Sem.run_pure]
    | some a =>
      simp only [Builtin.copy_, h1, List.getElem?_toArray, List.getElem?_cons_zero, List.getElem?_cons_succ, Sem.run_bind, run_underlying' h2, Result.andThen_ok, hl, hmin, run_sizeOf' hj, hfirst, Sem.run_pure, hst]
  split at hv
  · cases hv
    cases vd
    obtain ⟨ys, hys, vys⟩ := hfc 0 (Nat.zero_le _)
    exact ⟨goInt 0, w, start none 0 0 0 ys w (by simp) hys rfl, .int _ _, hr, Fr.refl _ _, hf⟩
  · rename_i b o len cap e'
    split at hv
    case isFalse => cases hv
    rename_i he
    obtain rfl := Nat.eq_of_beq_eq_true he
    split at hv
    · rename_i hz
      cases hv
      have hz' := Nat.eq_of_beq_eq_true hz
      obtain ⟨ys, hys, vys⟩ := hfc 0 (Nat.zero_le _)
      have : ys = [] := by
        have := vys.length
        simp at this
        exact List.eq_nil_of_length_eq_zero this.symm
      subst this
      rcases vd.slice_inv with ⟨sp, c, hm, rfl, hc, hlc, hro⟩ | ⟨ad, rfl, hc, rfl⟩
      · exact ⟨goInt 0, w, start _ len c 0 [] w hz' hys rfl, .int _ _, hr, Fr.refl _ _, hf⟩
      · exact ⟨goInt 0, w, start _ 0 0 0 [] w hz' hys rfl, .int _ _, hr, Fr.refl _ _, hf⟩
    · rename_i hz
      have hz' : min n len ≠ 0 := fun e => hz (by rw [e]; rfl)
      cases hw : h.wr b o (xs.take (min n len * j.size)) with
      | none => simp [hw] at hv
      | some h2' =>
        simp only [hw, Option.map_some, Option.some.injEq, Prod.mk.injEq] at hv
        obtain ⟨rfl, rfl⟩ := hv
        obtain ⟨ys, hys, vys⟩ := hfc (min n len) (Nat.min_le_left _ _)
        rcases vd.slice_inv with ⟨sp, c, hm, rfl, hc, hlc, hro⟩ | ⟨ad, rfl, hc, rfl⟩
        · obtain ⟨w', hst, hr', hfr, hn⟩ := wr_sound (P := P) hr hw hm vys
          exact ⟨goInt (min n len : Nat), w', start _ len c (min n len) ys w' rfl hys hst, .int _ _, hr', hfr, by rw [hn]; exact hf⟩
        · simp at hz'
  · cases hv
theorem heavy_sound (hr : HR CR m h.get w) (hf : Fresh m h.n) {o : Oper} {io : IOp} (hc : compOp P o.op = some io) (hk : kindOf io = .heavy) (ho : OR m ρ ρc) {v : V} (hv : hvO io ρ h = some (v, h')) :
    HvOk CR P m ρc w o v h' := by
  unfold HvOk
  obtain ⟨dst, op, ty, pos, after, guard⟩ := o
  simp only at hc
  unfold execOp
  cases heavyOf hc hk with
  | st h0 h1 h2 h3 =>
    rename_i t a x a' x' b n
    obtain ⟨d, i, hu, hi, rfl, rfl⟩ := aggOf_spec h0
    have va := ho _ _ h1
    have vx := ho _ _ h2
    simp only [hvO] at hv
    split at hv
    case h_2 => cases hv
    rename_i b o e
    split at hv
    case isFalse => cases hv
    rename_i hlen
    have hlen' := Nat.eq_of_beq_eq_true hlen
    cases hw : h.wr b o (ρ x').cells with
    | none => simp [hw] at hv
    | some h2' =>
      simp only [hw, Option.map_some, Option.some.injEq, Prod.mk.injEq] at hv
      obtain ⟨rfl, rfl⟩ := hv
      rw [e] at va
      obtain ⟨s, hm, h3'⟩ := va.ptr_inv
      obtain ⟨w', hst, hr', hfr, hn⟩ := wr_sound (P := P) hr hw hm vx.cells
      have hxl := vx.cells.length
      simp only [Array.length_toList] at hxl
      refine ⟨.skip, undef, w', m, ?_, Or.inr ⟨rfl, rfl⟩, .undef, hr', hfr, by rw [hn]; exact hf⟩
      have hsz : ¬ ((ρc x).cells.size ≠ i.size) := by omega
      simp only [Instr.storeAt, h3', Instr.sureAddr, Sem.run_bind, Sem.run_pure, Result.andThen_ok, storeVar, run_sizeOf' hi, if_neg hsz]
      simp [hst]
  | mapup h0 h1 h2 h3 =>
    simp only [hvO] at hv
    obtain ⟨w', hrun, rfl, hr', hfr, hf'⟩ := mapup_sound (P := P) hr hf h0 (ho _ _ h1) (ho _ _ h2) (ho _ _ h3) hv
    exact ⟨.skip, undef, w', m, by simp [hrun], Or.inr ⟨rfl, rfl⟩, .undef, hr', hfr, hf'⟩
  | insert h0 h1 h2 h3 =>
    simp only [hvO] at hv
    obtain ⟨w', hrun, rfl, hr', hfr, hf'⟩ := mapup_sound (P := P) hr hf h0 (ho _ _ h1) (ho _ _ h2) (ho _ _ h3) hv
    exact ⟨.skip, undef, w', m, by simp [hrun], Or.inr ⟨rfl, rfl⟩, .undef, hr', hfr, hf'⟩
  | ment h0 h1 h2 =>
    simp only [hvO] at hv
    obtain ⟨vc, w', hrun, hv', hr', hfr, hf'⟩ := ment_sound (P := P) hr hf h0 (ho _ _ h1) (ho _ _ h2) hv
    exact ⟨.value vc, vc, w', m, by simp [hrun], Or.inl rfl, hv', hr', hfr, hf'⟩
  | mst h1 h2 h3 =>
    rename_i t a s x a' s' x'
    simp only [hvO] at hv
    obtain ⟨w', hrun, rfl, hr', hfr, hf'⟩ := mst_sound (P := P) hr hf (t := t) (ho _ _ h1) (ho _ _ h2) (ho _ _ h3) hv
    exact ⟨.skip, undef, w', m, by simp [hrun], Or.inr ⟨rfl, rfl⟩, .undef, hr', hfr, hf'⟩
  | app h0 h1 h2 h3 h4 h5 h6 h7 h8 h9 h10 h11 =>
    rename_i c s x s' x' e u j z
    obtain ⟨callee, cargs, ats⟩ := c
    simp only at h0 h1 h4 h5
    subst h0
    obtain ⟨i, zv, hi, hzv, hcv⟩ := zeroOf_spec h7
    rw [h6] at hi
    cases hi
    obtain ⟨t0, ht0, hu0⟩ := at0 h4
    obtain ⟨t1, ht1, hu1⟩ := at0 h5
    have vz := (cv_VR (m := m) hcv).cells.length
    simp only [Array.length_toList] at vz
    have hty : AppTy P ats e j zv := ⟨⟨t0, ht0, hu0⟩, ⟨t1, u, ht1, hu1, h8⟩, h6, hzv, by omega, h10⟩
    simp only [hvO] at hv
    obtain ⟨vc, w', m', hrun, hv', hr', hfr, hf'⟩ := append_sound (P := P) (ty := ty) hr hf hty (ho _ _ h2) (ho _ _ h3) hv
    refine ⟨.value vc, vc, w', m', ?_, Or.inl rfl, hv', hr', hfr, hf'⟩
    have ec : cargs = #[s, x] := by apply Array.ext'; simpa using h1
    subst ec
    simp [resolve, invoke, builtin, hrun]
  | cpy h0 h1 h2 h3 h4 h6 h9 =>
    rename_i c d x d' x' e j
    obtain ⟨callee, cargs, ats⟩ := c
    simp only at h0 h1 h4
    subst h0
    obtain ⟨t0, ht0, hu0⟩ := at0 h4
    simp only [hvO] at hv
    obtain ⟨vc, w', hrun, hv', hr', hfr, hf'⟩ := copy_sound (P := P) (ty := ty) hr hf ht0 hu0 h6 (ho _ _ h2) (ho _ _ h3) hv
    refine ⟨.value vc, vc, w', m, ?_, Or.inl rfl, hv', hr', hfr, hf'⟩
    have ec : cargs = #[d, x] := by apply Array.ext'; simpa using h1
    subst ec
    simp [resolve, invoke, builtin, hrun]
  | clr h0 h1 h2 h4 =>
    rename_i c d d' kt et
    obtain ⟨callee, cargs, ats⟩ := c
    simp only at h0 h1 h4
    subst h0
    obtain ⟨t0, ht0, hu0⟩ := at0 h4
    simp only [hvO] at hv
    obtain ⟨vc, w', hrun, hv', hr', hfr, hf'⟩ := clr_sound (P := P) (ty := ty) hr hf hu0 ht0 (ho _ _ h2) hv
    refine ⟨.value vc, vc, w', m, ?_, Or.inl rfl, hv', hr', hfr, hf'⟩
    have ec : cargs = #[d] := by apply Array.ext'; simpa using h1
    subst ec
    simp [resolve, invoke, builtin, hrun]
  | nxt h1 =>
    simp only [hvO] at hv
    obtain ⟨vc, w', hrun, hv', hr', hfr, hf'⟩ := nxt_sound (P := P) (t := ty) hr hf (ho _ _ h1) hv
    exact ⟨.value vc, vc, w', m, by simp [hrun], Or.inl rfl, hv', hr', hfr, hf'⟩
  | call h0 h1 h2 => simp only [hvO] at hv; cases hv
end
end Go.Ax
end
section
set_option linter.unusedSectionVars false
namespace Go.Ax
variable [Globs]
open Go.RowKit
def fat (b : Frame) (a : Act) (todo : List Item) : Frame := { b with tmps := a.tmps, todo := todo, defers := a.defers, mode := .run }
theorem fat_eval (b : Frame) (a : Act) (todo : List Item) : (fat b a todo).eval = a.eval := by
  funext x; cases x <;> rfl
section
variable {P : Program} {b : Frame} {a : Act} {k : List Item} {cs : List Frame} {w : World} {ops : Array Oper}
theorem st_skip : step P (lone (fat b a (.code .skip :: k)) cs w) = .next (lone (fat b a k) cs w) :=
  step_lone_go (by simp [stepG, stepG.exec, fat])
theorem st_label {l : Nat} : step P (lone (fat b a (.code (.label l) :: k)) cs w) = .next (lone (fat b a k) cs w) :=
  step_lone_go (by simp [stepG, stepG.exec, fat])
theorem st_inBlock {id : Nat} : step P (lone (fat b a (.inBlock id :: k)) cs w) = .next (lone (fat b a k) cs w) :=
  step_lone_go (by simp [stepG, stepG.exec, fat])
theorem st_inScope {c : Code} : step P (lone (fat b a (.inScope c :: k)) cs w) = .next (lone (fat b a k) cs w) :=
  step_lone_go (by simp [stepG, stepG.exec, fat])
theorem st_seq {x y : Code} : step P (lone (fat b a (.code (.seq x y) :: k)) cs w) = .next (lone (fat b a (.code x :: .code y :: k)) cs w) :=
  step_lone_go (by simp [stepG, stepG.exec, fat])
theorem st_cond {c : Operand} {x y : Code} {t : Bool} (h : a.eval c = .bool t) :
    step P (lone (fat b a (.code (.cond c x y) :: k)) cs w) = .next (lone (fat b a (.code (if t then x else y) :: k)) cs w) :=
  step_lone_go (by
    have := congrFun (fat_eval b a (.code (.cond c x y) :: k)) c
    simp only [fat] at this
    simp [stepG, stepG.exec, fat, this, h])
theorem st_block {id : Nat} {c : Code} : step P (lone (fat b a (.code (.block id c) :: k)) cs w) = .next (lone (fat b a (.code c :: .inBlock id :: k)) cs w) :=
  step_lone_go (by simp [stepG, stepG.exec, fat])
theorem st_loop {c : Code} : step P (lone (fat b a (.code (.loop c) :: k)) cs w) = .next (lone (fat b a (.code c :: .inLoop c :: k)) cs w) :=
  step_lone_go (by simp [stepG, stepG.exec, fat])
theorem st_inLoop {c : Code} : step P (lone (fat b a (.inLoop c :: k)) cs w) = .next (lone (fat b a (.code c :: .inLoop c :: k)) cs w) :=
  step_lone_go (by simp [stepG, stepG.exec, fat])
theorem st_loop_at {c : Code} : step P (lone (fat b a (.code (.loop c) :: k)) cs w) = step P (lone (fat b a (.inLoop c :: k)) cs w) := by rw [st_loop, st_inLoop]
theorem st_scope {c : Code} : step P (lone (fat b a (.code (.scope c) :: k)) cs w) = .next (lone (fat b a (.code c :: .inScope c :: k)) cs w) :=
  step_lone_go (by simp [stepG, stepG.exec, fat])
theorem st_exit {id : Nat} {k' : List Item} (h : exitTo id k = some k') : step P (lone (fat b a (.code (.exit id) :: k)) cs w) = .next (lone (fat b a k') cs w) :=
  step_lone_go (by simp [stepG, stepG.exec, fat, h])
theorem st_region {id : Nat} : step P (lone (fat b a (.code (.region id ops false) :: k)) cs w) = .next (lone (fat b a (.inRegion ops (List.range ops.size) :: k)) cs w) :=
  step_lone_go (by simp [stepG, stepG.exec, fat])
theorem st_region_draw {id : Nat} :
    step P (lone (fat b a (.code (.region id ops true) :: k)) cs w) =
      .next (lone (fat b a (.inRegion ops (Region.schedule (P.follows .mixedOrders) ops (w.tape w.drawn (.order b.fn id))) :: k)) cs w.drew) :=
  step_lone_go (by simp [stepG, stepG.exec, fat, choose, Sem.run, Question.forced, Question.cut])
theorem st_region_end : step P (lone (fat b a (.inRegion ops [] :: k)) cs w) = .next (lone (fat b a k) cs w) :=
  step_lone_go (by simp [stepG, stepG.exec, fat])
theorem fat_finish (i : Nat) (rest : List Nat) (v : Value) :
    (fat b a (.inRegion ops (i :: rest) :: k)).finish v = fat b (a.put ((ops[i]?).bind (·.dst)) v) (.inRegion ops rest :: k) := by
  cases h : (ops[i]?).bind (·.dst) <;> simp [Frame.finish, fat, Act.put, h]
theorem st_op_skip {i : Nat} {rest : List Nat} (h : ((ops[i]?).map (Region.wanted · (yielded ops a.tmps))).getD false = false) :
    step P (lone (fat b a (.inRegion ops (i :: rest) :: k)) cs w) = .next (lone (fat b (a.put ((ops[i]?).bind (·.dst)) undef) (.inRegion ops rest :: k)) cs w) := by
  rw [← fat_finish]
  exact step_lone_go (by
    have h' := h
    simp only [fat] at *
    simp [stepG, stepG.exec, h'])
theorem stG_op {i : Nat} {rest : List Nat} {o : Oper} (ho : ops[i]? = some o) (hw : Region.wanted o (yielded ops a.tmps) = true) (hd : ∀ c, o.op ≠ .defer c) :
    stepG P true { frame := fat b a (.inRegion ops (i :: rest) :: k), callers := cs, status := .running, dying := none } w =
      stepG.apply P true (fat b a (.inRegion ops (i :: rest) :: k)) cs none (execOp a.eval o) w := by
  have he := fat_eval b a (.inRegion ops (i :: rest) :: k)
  simp only [fat] at he
  simp only [stepG, stepG.exec, fat, ho, Option.map_some, hw, Option.getD_some, if_true, stepG.oper, Frame.oper?]
  split
  · rename_i l c _ hc; exact absurd hc (hd c)
  · rw [he]
theorem st_value {i : Nat} {rest : List Nat} {o : Oper} (ho : ops[i]? = some o) (hw : Region.wanted o (yielded ops a.tmps) = true) (hd : ∀ c, o.op ≠ .defer c) {v : Value} {w' : World}
    (hr : (execOp a.eval o).run P w = .ok (.value v) w') :
    step P (lone (fat b a (.inRegion ops (i :: rest) :: k)) cs w) = .next (lone (fat b (a.put o.dst v) (.inRegion ops rest :: k)) cs w') := by
  have hf : (fat b a (.inRegion ops (i :: rest) :: k)).finish v = fat b (a.put o.dst v) (.inRegion ops rest :: k) := by rw [fat_finish, ho]; rfl
  refine step_lone_go ?_
  rw [stG_op ho hw hd, ← hf]
  simp [stepG.apply, hr]
theorem st_skipped {i : Nat} {rest : List Nat} {o : Oper} (ho : ops[i]? = some o) (hw : Region.wanted o (yielded ops a.tmps) = true) (hd : ∀ c, o.op ≠ .defer c) {w' : World}
    (hr : (execOp a.eval o).run P w = .ok .skip w') :
    step P (lone (fat b a (.inRegion ops (i :: rest) :: k)) cs w) = .next (lone (fat b (a.put o.dst undef) (.inRegion ops rest :: k)) cs w') := by
  have hf : (fat b a (.inRegion ops (i :: rest) :: k)).finish undef = fat b (a.put o.dst undef) (.inRegion ops rest :: k) := by rw [fat_finish, ho]; rfl
  refine step_lone_go ?_
  rw [stG_op ho hw hd, ← hf]
  simp [stepG.apply, hr]
theorem st_enter {i : Nat} {rest : List Nat} {o : Oper} (ho : ops[i]? = some o) (hw : Region.wanted o (yielded ops a.tmps) = true) (hd : ∀ c, o.op ≠ .defer c) {f : FuncId} {args : Array Value} {w' : World}
    (hr : (execOp a.eval o).run P w = .ok (.enter f args) w') :
    step P (lone (fat b a (.inRegion ops (i :: rest) :: k)) cs w) = .next (lone (Frame.enter P f args .normal) (fat b a (.inRegion ops (i :: rest) :: k) :: cs) w') := by
  refine step_lone_go ?_
  rw [stG_op ho hw hd]
  simp [stepG.apply, hr, fat]
theorem st_round {i : Nat} {rest : List Nat} {o : Oper} (ho : ops[i]? = some o) (hw : Region.wanted o (yielded ops a.tmps) = true) (hd : ∀ c, o.op ≠ .defer c) {l : Nat} {f : FuncId} {tmps : Array Value} {x y : Code} {w' : World}
    (hr : (execOp a.eval o).run P w = .ok (.round l f tmps x y) w') :
    step P (lone (fat b a (.inRegion ops (i :: rest) :: k)) cs w) = .next (lone (Frame.round l f tmps x y .normal) (fat b a (.inRegion ops (i :: rest) :: k) :: cs) w') := by
  refine step_lone_go ?_
  rw [stG_op ho hw hd]
  simp [stepG.apply, hr, fat]
theorem st_end (hn : b.roundOf = none) : step P (lone (fat b a []) cs w) = .next (lone { fat b a [] with mode := .returning } cs w) :=
  step_lone_go (by simp [stepG, stepG.exec, fat, hn])
theorem st_ret (hn : b.roundOf = none) : step P (lone (fat b a (.code .ret :: k)) cs w) = .next (lone { fat b a (.code .ret :: k) with mode := .returning } cs w) :=
  step_lone_go (by simp [stepG, stepG.exec, fat, hn])
theorem st_beginRound {l : Nat} (hn : b.roundOf = some l) {w' : World} (hr : (Instr.beginRound l).run P w = .ok () w') :
    step P (lone (fat b a (.beginRound :: k)) cs w) = .next (lone (fat b a k) cs w') := by
  refine step_lone_go ?_
  simp only [stepG, stepG.exec, fat, hn]
  simp [stepG.apply, hr, Frame.finish]
theorem st_endRound {l : Nat} (hn : b.roundOf = some l) (hk : b.kind = .normal) {c : Frame} {w' : World} {v : Value} (hr : (Instr.endRound l none).run P w = .ok v w') :
    step P (lone (fat b a []) (c :: cs) w) = .next (lone (c.finish v) cs w') := by
  refine step_lone_go ?_
  simp [stepG, stepG.exec, fat, hn, Sem.runT_eq, hr, doReturn, hk]
theorem st_retRound {l : Nat} (hn : b.roundOf = some l) (hk : b.kind = .normal) {c : Frame} {w' : World} {v : Value} (hr : (Instr.endRound l (some .ret)).run P w = .ok v w') :
    step P (lone (fat b a (.code .ret :: k)) (c :: cs) w) = .next (lone (c.finish v) cs w') := by
  refine step_lone_go ?_
  simp [stepG, stepG.exec, fat, hn, Sem.runT_eq, hr, doReturn, hk]
theorem st_exitRound {l id : Nat} (hn : b.roundOf = some l) (hk : b.kind = .normal) (hx : exitTo id k = none) {c : Frame} {w' : World} {v : Value} (hr : (Instr.endRound l (some (.exit id))).run P w = .ok v w') :
    step P (lone (fat b a (.code (.exit id) :: k)) (c :: cs) w) = .next (lone (c.finish v) cs w') := by
  refine step_lone_go ?_
  simp [stepG, stepG.exec, fat, hn, hx, Sem.runT_eq, hr, doReturn, hk]
theorem st_rangeEnter {f : Operand} {ps : Array Tmp} {x y : Code} {l : Nat} {mark : List Deferred} {w1 : World} (h1 : (Instr.enterLoop b.fn a.tmps ps x y b.roundOf).run P w = .ok (l, mark) w1) {g : FuncId} {args : Array Value} {w2 : World}
    (h2 : (do let d ← resolve a.eval { callee := .value f, args := #[.const (.func (.yield l) #[] #[])], argTypes := #[] } 0; invoke d.target d.args : Sem Next).run P w1 = .ok (.enter g args) w2) :
    step P (lone (fat b a (.code (.rangeFunc f ps x y) :: k)) cs w) = .next (lone (Frame.enter P g args .normal) (fat b { a with defers := mark ++ a.defers } (.inRangeFunc l :: k) :: cs) w2) := by
  refine step_lone_go ?_
  have he := fat_eval b { a with defers := mark ++ a.defers } (.inRangeFunc l :: k)
  simp only [fat] at he
  have he' : (Act.eval { tmps := a.tmps, defers := mark ++ a.defers }) = a.eval := by funext x; cases x <;> rfl
  simp only [stepG, stepG.exec, fat, Sem.runT_eq, h1, GStep.bare_after]
  rw [he, he']
  simp [stepG.apply, h2]
theorem st_endLoop {l : Nat} {w' : World} {j : Option Code} (hr : (Instr.endLoop l).run P w = .ok j w') :
    step P (lone (fat b a (.endRangeFunc l :: k)) cs w) = .next (lone (fat b a ((j.map Item.code).toList ++ k)) cs w') := by
  refine step_lone_go ?_
  simp [stepG, stepG.exec, fat, Sem.runT_eq, hr]
theorem st_collected {fr : Frame} {r : Nat} {ds : List Deferred} {w' : World} (hm : fr.mode = .returning) (hd : fr.defers = { target := .collected r, args := #[] } :: ds) (hr : (Instr.takeDeferred r).run P w = .ok [] w') :
    step P (lone fr cs w) = .next (lone { fr with defers := ds } cs w') := by
  refine step_lone_go ?_
  simp [stepG, hm, unwind, hd, Sem.runT_eq, hr]
end
end Go.Ax
end
section
set_option linter.unusedSectionVars false
namespace Go.Ax
variable [Globs]
open Go.RowKit
section
variable {S : Type → Type} [Rep S]
def CRc (P : Program) : Nat → ICode → Code → Prop := fun N ic c => compCode P N c = some ic
def MarksOk (B : Nat) (m : GM) (w : World) (ds : List Deferred) : Prop :=
  ∃ rs : List Nat, ds = rs.map (fun r => ({ target := .collected r, args := #[] } : Deferred)) ∧ rs.Nodup ∧ ∀ r ∈ rs, B ≤ r ∧ w.heap[r]? = some (.deferred (some [])) ∧ ∀ b s, m b = some s → s.cb ≠ r
theorem MarksOk.nil (B : Nat) (m : GM) (w : World) : MarksOk B m w [] := ⟨[], rfl, List.nodup_nil, by simp⟩
theorem MarksOk.fr {B : Nat} {m m' : GM} {w w' : World} {ds : List Deferred} (h : MarksOk B m w ds) (f : Fr m w m' w') : MarksOk B m' w' ds := by
  obtain ⟨rs, h1, h2, h3⟩ := h
  refine ⟨rs, h1, h2, fun r hr => ?_⟩
  obtain ⟨k1, k2, k3⟩ := h3 r hr
  have hlt := lt_of_get k2
  refine ⟨k1, ?_, fun b s hb e => ?_⟩
  · rw [f.keep r hlt (fun ⟨b, s, e1, _, e3⟩ => k3 b s e1 e3)]
    exact k2
  · obtain ⟨b0, s0, e0, c0⟩ := f.img b s hb (by omega)
    exact k3 b0 s0 e0 (by omega)
def RoundOk (cur : Option Nat) (b : Frame) (m : GM) (a : Act) : Prop :=
  match cur with
  | none => b.roundOf = none
  | some L => (∃ s, m L = some s ∧ b.roundOf = some s.cb) ∧ a.defers = []
structure SR (P : Program) (N B : Nat) (cur : Option Nat) (b : Frame) (m : GM) (τ : S V) (h : Hp S) (a : Act) (w : World) : Prop where
  tr : TR m τ a.tmps
  size : a.tmps.size = N
  hr : HR (CRc P) m h.get w
  fresh : Fresh m h.n
  marks : MarksOk B m w a.defers
  round : RoundOk cur b m a
  kind : b.kind = .normal
def Arr (P : Program) (M : Machine) (b : Frame) (k : List Item) (cs : List Frame) : X → Act → World → Prop
  | .normal, a, w => Steps P M (lone (fat b a k) cs w)
  | .exit id, a, w => ∃ k2, Steps P M (lone (fat b a (.code (.exit id) :: k2)) cs w) ∧ exitTo id k2 = exitTo id k
  | .ret, a, w => ∃ k2, Steps P M (lone (fat b a (.code .ret :: k2)) cs w)
theorem Arr.of_steps {P : Program} {M M' : Machine} {b : Frame} {k : List Item} {cs : List Frame} {x : X} {a : Act} {w : World} (h : Steps P M M') (h' : Arr P M' b k cs x a w) : Arr P M b k cs x a w := by
  cases x with
  | normal => exact h.trans h'
  | exit id => obtain ⟨k2, h1, h2⟩ := h'; exact ⟨k2, h.trans h1, h2⟩
  | ret => obtain ⟨k2, h1⟩ := h'; exact ⟨k2, h.trans h1⟩
inductive Entered (P : Program) : Next → Frame → Prop
  | enter (f : FuncId) (args : Array Value) : Entered P (.enter f args) (Frame.enter P f args .normal)
  | round (l : Nat) (f : FuncId) (tmps : Array Value) (x y : Code) : Entered P (.round l f tmps x y) (Frame.round l f tmps x y .normal)
def CallVOk (P : Program) (m : GM) (w : World) (f' : Value) (as : Array Value) (v : V) (h' : Hp S) : Prop :=
  ∃ nx F, (do let d ← Deferred.ofValue f' as; invoke d.target d.args : Sem Next).run P w = .ok nx w ∧ Entered P nx F ∧
    ∀ (c : Frame) (cs : List Frame), ∃ vc w' m', Steps P (lone F (c :: cs) w) (lone (c.finish vc) cs w') ∧ VR m' v vc ∧ HR (CRc P) m' h'.get w' ∧ Fr m w m' w' ∧ Fresh m' h'.n
structure RecOk (P : Program) (r : Rec S) : Prop where
  call : ∀ {f : Nat} {args : List V} {h h' : Hp S} {v : V}, r.call f args h = some (v, h') → ∀ {m : GM} {w : World} {as : List Value}, VRs m args as → HR (CRc P) m h.get w → Fresh m h.n →
    (∃ fn, P.funcs[f]? = some fn ∧ fn.body.isSome = true ∧ (fn.name == "runtime.NumGoroutine") = false) ∧
    Calls P f ⟨as⟩ w fun e w' => ∃ vc m', e = .returned vc ∧ VR m' v vc ∧ HR (CRc P) m' h'.get w' ∧ Fr m w m' w' ∧ Fresh m' h'.n
  code : ∀ {cur : Option Nat} {ic : ICode} {τ τ' : S V} {h h' : Hp S} {x : X}, r.code cur ic τ h = some (x, τ', h') → ∀ {c : Code} {N B : Nat} {b : Frame} {m : GM} {a : Act} {w : World}, compCode P N c = some ic →
    SR P N B cur b m τ h a w → B ≤ w.heap.size → ∀ (k : List Item) (cs : List Frame), ∃ a' w' m', Arr P (lone (fat b a (.code c :: k)) cs w) b k cs x a' w' ∧ SR P N B cur b m' τ' h' a' w' ∧ Fr m w m' w'
theorem run_ofValue_func {P : Program} {w : World} {f : Nat} {x y : List Value} {as : List Value} {fn : Func} (h1 : P.funcs[f]? = some fn) (h2 : fn.body.isSome = true) (h3 : (fn.name == "runtime.NumGoroutine") = false) :
    (do let d ← Deferred.ofValue (.func (.func f) ⟨x⟩ ⟨y⟩) ⟨as⟩; invoke d.target d.args : Sem Next).run P w = .ok (.enter f ⟨x ++ as ++ y⟩) w := by
  have hn : fn.body.isNone = false := by cases hb : fn.body <;> simp_all
  simp only [Deferred.ofValue, Sem.run_bind, Sem.run_pure, Result.andThen_ok, invoke, callFunc, run_program, h1, h3, hn, Bool.false_eq_true, if_false]
  simp
theorem foldl_set : ∀ (ps : List Tmp) (as : List Value) (τ τ' : S V) (args : List V) (m : GM) (t : Array Value), setAll τ ps args = some τ' → VRs m args as → TR m τ t → (∀ p ∈ ps, p < t.size) →
    TR m τ' ((ps.zip as).foldl (fun t (p : Tmp × Value) => t.setIfInBounds p.1 p.2) t) ∧ ((ps.zip as).foldl (fun t (p : Tmp × Value) => t.setIfInBounds p.1 p.2) t).size = t.size ∧ ps.length = as.length
  | [], _, τ, τ', [], m, t, h, .nil, ht, _ => by simp only [setAll, Option.some.injEq] at h; subst h; exact ⟨ht, rfl, rfl⟩
  | p :: ps, _, τ, τ', v :: args, m, t, h, .cons hv hs, ht, hp => by
    simp only [setAll] at h
    simp only [List.zip_cons_cons, List.foldl_cons]
    obtain ⟨h1, h2, h3⟩ := foldl_set ps _ _ τ' args m (t.setIfInBounds p _) h hs (ht.set hv (hp p (by simp))) (fun q hq => by simp; exact hp q (by simp [hq]))
    exact ⟨h1, by rw [h2]; simp, by simp [h3]⟩
  | _ :: _, _, _, _, [], _, _, h, _, _, _ => by simp [setAll] at h
  | [], _, _, _, _ :: _, _, _, h, _, _, _ => by simp [setAll] at h
theorem run_getLoop {P : Program} {w : World} {l : Nat} {r : Loop} (h : w.heap[l]? = some (.loop r)) : (Instr.getLoop l).run P w = .ok r w := by
  simp [Instr.getLoop, run_getObj h (by simp)]
theorem callV_sound {P : Program} {r : Rec S} (ok : RecOk P r) {f v : V} {args : List V} {h h' : Hp S} (hv : callV r f args h = some (v, h')) {m : GM} {w : World} {f' : Value} {as : List Value} (vf : VR m f f') (va : VRs m args as)
    (hr : HR (CRc P) m h.get w) (hf : Fresh m h.n) : CallVOk P m w f' ⟨as⟩ v h' := by
  unfold callV at hv
  split at hv
  · rename_i f x y
    cases vf with
    | func _ hx hy =>
    obtain ⟨⟨fn, h1, h2, h3⟩, hc⟩ := ok.call hv ((hx.append va).append hy) hr hf
    refine ⟨_, _, run_ofValue_func h1 h2 h3, .enter _ _, fun c cs => ?_⟩
    obtain ⟨e, w', fr, ⟨vc, m', rfl, k1, k2, k3, k4⟩, hsteps, hfn, hleave⟩ := hc (c :: cs)
    exact ⟨vc, w', m', Steps.trans hsteps (.one (step_leave_returned hleave)), k1, k2, k3, k4⟩
  · rename_i l
    cases vf with
    | yield hm =>
    rename_i s
    unfold yieldF at hv
    split at hv
    case h_2 => cases hv
    rename_i p0 τ ps asg body hg
    obtain ⟨hown, lp, hw, hst, hpend, htr, hps, hpin, hasg, hbody⟩ := hr.blk l s _ hm hg
    cases hset : setAll τ ps args with
    | none => simp [hset] at hv
    | some τ0 =>
    simp only [hset, Option.bind_some] at hv
    split at hv
    case h_2 => cases hv
    rename_i τ1 h1 hasgrun
    split at hv
    case h_2 => cases hv
    rename_i p1 τa psa asga bodya hg1
    split at hv
    case h_2 => cases hv
    rename_i x τ2 h2 hbodyrun
    split at hv
    case h_2 => cases hv
    rename_i st2 p2 τb psb asgb bodyb hg2
    obtain ⟨ht0, hsz0, hlen⟩ := foldl_set ps as τ τ0 args m lp.tmps hset va htr hpin
    have hps' : lp.params = ⟨ps⟩ := by apply Array.ext'; exact hps
    have hzip : ((lp.params.zip (⟨as⟩ : Array Value)).foldl (fun tmps (t, a) => tmps.setIfInBounds t a) lp.tmps) = (ps.zip as).foldl (fun t (p : Tmp × Value) => t.setIfInBounds p.1 p.2) lp.tmps := by
      rw [hps', ← Array.foldl_toList]
      simp
    refine ⟨.round s.cb lp.fn ((ps.zip as).foldl (fun t (p : Tmp × Value) => t.setIfInBounds p.1 p.2) lp.tmps) lp.assign lp.body, _, ?_, .round _ _ _ _ _, fun c cs => ?_⟩
    · have : ¬ ((⟨as⟩ : Array Value).size ≠ lp.params.size) := by rw [hps']; simp [hlen]
      simp only [Deferred.ofValue, Sem.run_bind, Sem.run_pure, Result.andThen_ok, invoke, Instr.yield, run_getLoop hw]
      simp only [Array.empty_append, if_neg this, Sem.run_pure, hzip]
    · -- the round's frame
      let b : Frame := { (default : Frame) with fn := lp.fn, kind := .normal, roundOf := some s.cb }
      have hframe : Frame.round s.cb lp.fn ((ps.zip as).foldl (fun t (p : Tmp × Value) => t.setIfInBounds p.1 p.2) lp.tmps) lp.assign lp.body .normal =
          fat b { tmps := (ps.zip as).foldl (fun t (p : Tmp × Value) => t.setIfInBounds p.1 p.2) lp.tmps, defers := [] } [.code lp.assign, .beginRound, .code lp.body] := rfl
      have sr0 : SR P lp.tmps.size 0 (some l) b m τ0 h { tmps := (ps.zip as).foldl (fun t (p : Tmp × Value) => t.setIfInBounds p.1 p.2) lp.tmps, defers := [] } w :=
        ⟨ht0, hsz0, hr, hf, MarksOk.nil _ _ _, ⟨⟨s, hm, rfl⟩, rfl⟩, rfl⟩
      obtain ⟨a1, w1, m1, arr1, sr1, fr1⟩ := ok.code hasgrun hasg sr0 (Nat.zero_le _) [.beginRound, .code lp.body] (c :: cs)
      have hm1 := fr1.mono l s hm
      obtain ⟨hown1, lp1, hw1, hst1, hpend1, htr1, hps1, hpin1, hasg1, hbody1⟩ := sr1.hr.blk l s _ hm1 hg1
      have hlt1 := lt_of_get hw1
      have hbegin : (Instr.beginRound s.cb).run P w1 = .ok () (World.putObj' w1 s.cb (.loop { lp1 with state := .busy })) := by
        simp [Instr.beginRound, run_getLoop hw1, run_setObj hw1 (by simp), hst1]
      have hput1 := sr1.hr.putObj (o' := .loop .busy p1 τa psa asga bodya) hm1 hg1 rfl rfl (.loop { lp1 with state := .busy }) ⟨hown1, { lp1 with state := .busy }, putObj_at w1 _ _ hlt1, rfl, hpend1, htr1, hps1, hpin1, hasg1, hbody1⟩
      have hdef1 : a1.defers = [] := sr1.round.2
      have sr1' : SR P lp.tmps.size 0 (some l) b m1 τ1 (h1.put l (.loop .busy p1 τa psa asga bodya)) a1 (World.putObj' w1 s.cb (.loop { lp1 with state := .busy })) :=
        ⟨sr1.tr, sr1.size, hput1.1, sr1.fresh, by rw [hdef1]; exact MarksOk.nil _ _ _, ⟨⟨s, hm1, rfl⟩, hdef1⟩, rfl⟩
      obtain ⟨a2, w2, m2, arr2, sr2, fr2⟩ := ok.code hbodyrun hbody sr1' (Nat.zero_le _) [] (c :: cs)
      have hm2 := fr2.mono l s hm1
      obtain ⟨hown2, lp2, hw2, hst2, hpend2, htr2, hps2, hpin2, hasg2, hbody2⟩ := sr2.hr.blk l s _ hm2 hg2
      have hlt2 := lt_of_get hw2
      have tobody : Steps P (lone (fat b { tmps := (ps.zip as).foldl (fun t (p : Tmp × Value) => t.setIfInBounds p.1 p.2) lp.tmps, defers := [] } [.code lp.assign, .beginRound, .code lp.body]) (c :: cs) w)
          (lone (fat b a1 [.code lp.body]) (c :: cs) (World.putObj' w1 s.cb (.loop { lp1 with state := .busy }))) :=
        Steps.trans arr1 (.one (st_beginRound (l := s.cb) rfl hbegin))
      have frAll : Fr m w m2 w2 := (fr1.trans hput1.2).trans fr2
      have finish : ∀ (j : Option Code) (st : LoopState) (pd : X), st = (if j.isNone then .ready else .done) → pendR pd j → v = .bool j.isNone → h' = h2.put l (.loop st pd τb psb asgb bodyb) →
          (∃ w', (Instr.endRound s.cb j).run P w2 = .ok (.bool j.isNone) w' ∧ HR (CRc P) m2 h'.get w' ∧ Fr m2 w2 m2 w') := by
        rintro j st pd rfl hpd _ rfl
        have hput2 := sr2.hr.putObj (o' := .loop (if j.isNone then .ready else .done) pd τb psb asgb bodyb) hm2 hg2 rfl rfl (.loop { lp2 with state := if j.isNone then .ready else .done, pending := j })
          ⟨hown2, _, putObj_at w2 _ _ hlt2, rfl, hpd, htr2, hps2, hpin2, hasg2, hbody2⟩
        exact ⟨_, by simp [Instr.endRound, run_getLoop hw2, run_setObj hw2 (by simp)], hput2.1, hput2.2⟩
      cases x with
      | normal =>
        cases hv
        obtain ⟨w', e1, e2, e3⟩ := finish none .ready .normal rfl rfl rfl rfl
        exact ⟨.bool true, w', m2, hframe ▸ (tobody.trans (Steps.trans arr2 (.one (st_endRound rfl rfl e1)))), .bool true, e2, frAll.trans e3, sr2.fresh⟩
      | exit id =>
        cases hv
        obtain ⟨w', e1, e2, e3⟩ := finish (some (.exit id)) .done (.exit id) rfl rfl rfl rfl
        obtain ⟨k2, s1, s2⟩ := arr2
        exact ⟨.bool false, w', m2, hframe ▸ (tobody.trans (Steps.trans s1 (.one (st_exitRound rfl rfl (by rw [s2]; rfl) e1)))), .bool false, e2, frAll.trans e3, sr2.fresh⟩
      | ret =>
        cases hv
        obtain ⟨w', e1, e2, e3⟩ := finish (some .ret) .done .ret rfl rfl rfl rfl
        obtain ⟨k2, s1⟩ := arr2
        exact ⟨.bool false, w', m2, hframe ▸ (tobody.trans (Steps.trans s1 (.one (st_retRound rfl rfl e1)))), .bool false, e2, frAll.trans e3, sr2.fresh⟩
  · cases hv
end
end Go.Ax
end
section
set_option linter.unusedSectionVars false
namespace Go.Ax
variable [Globs]
open Go.RowKit
section
variable {S : Type → Type} [Rep S] {P : Program} {r : Rec S}
theorem no_defer {op : Op} {io : IOp} (h : compOp P op = some io) : ∀ c, op ≠ .defer c := by
  rintro c rfl; cases h
theorem opCore (ok : RecOk P r) {ops : Array Oper} {i : Nat} {o : Oper} {io : IOp} (ho : ops[i]? = some o) (hc : compOp P o.op = some io) {a : Act} (hw : Region.wanted o (yielded ops a.tmps) = true)
    {m : GM} {ρ : Opd → V} {ρc : Operand → Value} (hρ : OR m ρ ρc) (he : execOp a.eval o = execOp ρc o) {h h' : Hp S} {v : V} (hv : opF r io ρ h = some (v, h')) {w : World} (hr : HR (CRc P) m h.get w) (hf : Fresh m h.n)
    (b : Frame) (rest : List Nat) (k : List Item) (cs : List Frame) :
    ∃ vc w' m', Steps P (lone (fat b a (.inRegion ops (i :: rest) :: k)) cs w) (lone (fat b (a.put o.dst vc) (.inRegion ops rest :: k)) cs w') ∧ VR m' v vc ∧ HR (CRc P) m' h'.get w' ∧ Fr m w m' w' ∧ Fresh m' h'.n := by
  have hd := no_defer hc
  have plain : ∀ (hk : kindOf io ≠ .heavy ∨ ∃ f args, io ≠ .call f args), iop io ρ h = some (v, h') → (∀ f args, io ≠ .call f args) →
      ∃ vc w' m', Steps P (lone (fat b a (.inRegion ops (i :: rest) :: k)) cs w) (lone (fat b (a.put o.dst vc) (.inRegion ops rest :: k)) cs w') ∧ VR m' v vc ∧ HR (CRc P) m' h'.get w' ∧ Fr m w m' w' ∧ Fresh m' h'.n := by
    intro _ hi _
    unfold iop at hi
    split at hi
    · rename_i hk
      cases hp : puO io ρ with
      | none => simp [hp] at hi
      | some v0 =>
        simp only [hp, Option.map_some, Option.some.injEq, Prod.mk.injEq] at hi
        obtain ⟨rfl, rfl⟩ := hi
        obtain ⟨x, hx, hvr⟩ := pure_sound (w := w) hc hk hρ hp
        exact ⟨x, w, m, .one (st_value ho hw hd (by rw [he]; exact hx)), hvr, hr, Fr.refl _ _, hf⟩
    · rename_i hk
      cases hp : rdO io ρ h.get with
      | none => simp [hp] at hi
      | some v0 =>
        simp only [hp, Option.map_some, Option.some.injEq, Prod.mk.injEq] at hi
        obtain ⟨rfl, rfl⟩ := hi
        obtain ⟨x, hx, hvr⟩ := read_sound hr hc hk hρ hp
        exact ⟨x, w, m, .one (st_value ho hw hd (by rw [he]; exact hx)), hvr, hr, Fr.refl _ _, hf⟩
    · rename_i hk
      cases hp : (mkO io ρ : Option ((Nat → V) × Blk S)) with
      | none => simp [hp] at hi
      | some p =>
        obtain ⟨f, o'⟩ := p
        simp only [hp, Option.map_some, Option.some.injEq, Prod.mk.injEq] at hi
        obtain ⟨rfl, rfl⟩ := hi
        obtain ⟨s, x, w', hx, hvr, hhr, hfr⟩ := make_sound hr hc hk hρ hp h.n (hf h.n (Nat.le_refl _))
        refine ⟨x, w', _, .one (st_value ho hw hd (by rw [he]; exact hx)), hvr, ?_, hfr, ?_⟩
        · have e : (h.push o').get = fun c => if c = h.n then some o' else h.get c := by funext c; rw [Hp.get_push]
          rw [e]; exact hhr
        · intro z hz
          have : h.n + 1 ≤ z := hz
          simp only [GM.put]
          rw [if_neg (by omega)]
          exact hf z (by omega)
    · rename_i hk
      obtain ⟨nx, vc, w', m', hx, hn, hvr, hhr, hfr, hff⟩ := heavy_sound hr hf hc hk hρ hi
      rcases hn with rfl | ⟨rfl, rfl⟩
      · exact ⟨vc, w', m', .one (st_value ho hw hd (by rw [he]; exact hx)), hvr, hhr, hfr, hff⟩
      · exact ⟨undef, w', m', .one (st_skipped ho hw hd (by rw [he]; exact hx)), hvr, hhr, hfr, hff⟩
  unfold opF at hv
  split at hv
  · rename_i f args
    have hh := heavyOf hc rfl
    generalize hop : o.op = op at hh hc
    cases hh with
    | call h0 h1 h2 =>
      rename_i c fo
      obtain ⟨nx, F, hrun, hent, hgo⟩ := callV_sound ok hv (hρ _ _ h1) (hρ.list h2) hr hf
      have hex : (execOp a.eval o).run P w = .ok nx w := by
        rw [he]
        unfold execOp
        rw [hop]
        simp only [resolve, h0]
        have ec : c.args.map ρc = ⟨c.args.toList.map ρc⟩ := by apply Array.ext'; simp
        rw [ec]
        exact hrun
      obtain ⟨vc, w', m', hsteps, k1, k2, k3, k4⟩ := hgo (fat b a (.inRegion ops (i :: rest) :: k)) cs
      have hfin : (fat b a (.inRegion ops (i :: rest) :: k)).finish vc = fat b (a.put o.dst vc) (.inRegion ops rest :: k) := by rw [fat_finish, ho]; rfl
      rw [hfin] at hsteps
      refine ⟨vc, w', m', ?_, k1, k2, k3, k4⟩
      cases hent with
      | enter f as => exact .head (st_enter ho hw hd hex) hsteps
      | round l f t x y => exact .head (st_round ho hw hd hex) hsteps
  · rename_i hne
    exact plain (Or.inr ⟨default, [], hne default []⟩) hv hne
theorem wanted_eq {N : Nat} {ops : Array Oper} {o : Oper} {io : IOper} (hc : compOper P N ops o = some io) {m : GM} {τ : S V} {t : Array Value}
    (ht : ∀ j want, io.guard = some (j, want) → VR m (ev τ (.t j)) (t.getD j undef)) : wanted io.guard τ = Region.wanted o (yielded ops t) := by
  unfold compOper at hc
  split at hc
  case isFalse => cases hc
  split at hc
  · cases hc
  rename_i i hi
  split at hc
  · rename_i hg
    cases hc
    simp [wanted, Region.wanted, hg]
  · rename_i j want hg
    split at hc
    case h_2 => cases hc
    rename_i d hd
    cases hc
    have hv := ht d want rfl
    simp only [wanted, Region.wanted, hg, yielded, hd, Option.bind_some]
    simp only [ev] at hv
    have hget : t.getD d undef = (t[d]?).getD undef := by simp
    rw [hget] at hv
    cases h1 : Rep.get τ d with
    | none =>
      simp only [h1, Option.getD_none] at hv
      cases h2 : t[d]? with
      | none => simp
      | some y =>
        rw [h2] at hv
        simp only [Option.getD_some] at hv
        cases hv
        simp
    | some x =>
      simp only [h1, Option.getD_some] at hv
      cases h2 : t[d]? with
      | none =>
        rw [h2] at hv
        simp only [Option.getD_none, undef] at hv
        cases x <;> first | rfl | cases hv
      | some y =>
        rw [h2] at hv
        simp only [Option.getD_some] at hv
        cases x <;> cases hv <;> first
          | rfl
          | simp
theorem compOper_spec {N : Nat} {ops : Array Oper} {o : Oper} {io : IOper} (hc : compOper P N ops o = some io) :
    compOp P o.op = some io.op ∧ io.dst = o.dst ∧ ∀ d, o.dst = some d → d < N := by
  unfold compOper at hc
  split at hc
  case isFalse => cases hc
  rename_i hd
  split at hc
  · cases hc
  rename_i i hi
  have hdst : ∀ d, o.dst = some d → d < N := by
    intro d e; rw [e] at hd; simpa [dstOk] using hd
  split at hc
  · cases hc; exact ⟨hi, rfl, hdst⟩
  · split at hc
    · cases hc; exact ⟨hi, rfl, hdst⟩
    · cases hc
theorem put_TR {m : GM} {τ : S V} {a : Act} {dst : Option Nat} {v : V} {x : Value} (ht : TR m τ a.tmps) (hv : VR m v x) (hd : ∀ d, dst = some d → d < a.tmps.size) :
    TR m (putD τ dst v) (a.put dst x).tmps ∧ (a.put dst x).tmps.size = a.tmps.size ∧ (a.put dst x).defers = a.defers := by
  cases dst with
  | none => exact ⟨ht, rfl, rfl⟩
  | some d => exact ⟨ht.set hv (hd d rfl), by simp [Act.put], rfl⟩
theorem stepO_sound (ok : RecOk P r) {N B : Nat} {cur : Option Nat} {ops : Array Oper} {i : Nat} {o : Oper} {io : IOper} (ho : ops[i]? = some o) (hc : compOper P N ops o = some io) {b : Frame} {m : GM} {τ τ' : S V} {h h' : Hp S} {a : Act} {w : World}
    (sr : SR P N B cur b m τ h a w) (hs : stepO r io τ h = some (τ', h')) (rest : List Nat) (k : List Item) (cs : List Frame) :
    ∃ a' w' m', Steps P (lone (fat b a (.inRegion ops (i :: rest) :: k)) cs w) (lone (fat b a' (.inRegion ops rest :: k)) cs w') ∧ SR P N B cur b m' τ' h' a' w' ∧ Fr m w m' w' := by
  obtain ⟨c1, c2, c3⟩ := compOper_spec hc
  have hwant := wanted_eq hc (fun j _ _ => sr.tr j)
  unfold stepO at hs
  split at hs
  · rename_i hw
    rw [hwant] at hw
    cases hop : opF r io.op (ev τ) h with
    | none => simp [hop] at hs
    | some p =>
      obtain ⟨v, h2⟩ := p
      simp only [hop, Option.map_some, Option.some.injEq, Prod.mk.injEq] at hs
      obtain ⟨rfl, rfl⟩ := hs
      obtain ⟨vc, w', m', hsteps, hv, hr', hfr, hff⟩ := opCore ok ho c1 hw (OR.of sr.hr.gl sr.tr) rfl hop sr.hr sr.fresh b rest k cs
      obtain ⟨t1, t2, t3⟩ := put_TR (sr.tr.mono hfr.mono) hv (dst := o.dst) (fun d e => by rw [sr.size]; exact c3 d e)
      refine ⟨_, w', m', hsteps, ⟨by rw [c2]; exact t1, t2.trans sr.size, hr', hff, by rw [t3]; exact sr.marks.fr hfr, ?_, sr.kind⟩, hfr⟩
      have hround := sr.round
      unfold RoundOk at hround ⊢
      cases cur with
      | none => exact hround
      | some L => obtain ⟨⟨s, e1, e2⟩, e3⟩ := hround; exact ⟨⟨s, hfr.mono _ _ e1, e2⟩, by rw [t3]; exact e3⟩
  · rename_i hw
    simp only [Option.some.injEq, Prod.mk.injEq] at hs
    obtain ⟨rfl, rfl⟩ := hs
    have hw' : Region.wanted o (yielded ops a.tmps) = false := by rw [← hwant]; simpa using hw
    have hst := st_op_skip (P := P) (b := b) (a := a) (k := k) (cs := cs) (w := w) (ops := ops) (i := i) (rest := rest) (by simp [ho, hw'])
    simp only [ho, Option.bind_some] at hst
    obtain ⟨t1, t2, t3⟩ := put_TR (x := undef) sr.tr (show VR m .undef undef from .undef) (dst := o.dst) (fun d e => by rw [sr.size]; exact c3 d e)
    refine ⟨_, w, m, .one hst, ⟨by rw [c2]; exact t1, t2.trans sr.size, sr.hr, sr.fresh, by rw [t3]; exact sr.marks, ?_, sr.kind⟩, Fr.refl _ _⟩
    have hround := sr.round
    unfold RoundOk at hround ⊢
    cases cur with
    | none => exact hround
    | some L => obtain ⟨e1, e3⟩ := hround; exact ⟨e1, by rw [t3]; exact e3⟩
theorem opsF_sound (ok : RecOk P r) {N B : Nat} {cur : Option Nat} {ops : Array Oper} {b : Frame} {k : List Item} {cs : List Frame} :
    ∀ (l : List Oper) (i : Nat), (∀ j : Nat, ops[i + j]? = l[j]?) → ∀ (ios : List IOper), compOpers P N ops l = some ios → ∀ (m : GM) (τ τ' : S V) (h h' : Hp S) (a : Act) (w : World),
    SR P N B cur b m τ h a w → opsF r ios τ h = some (τ', h') →
    ∃ a' w' m', Steps P (lone (fat b a (.inRegion ops (List.range' i l.length) :: k)) cs w) (lone (fat b a' (.inRegion ops [] :: k)) cs w') ∧ SR P N B cur b m' τ' h' a' w' ∧ Fr m w m' w'
  | [], i, _, ios, hc, m, τ, τ', h, h', a, w, sr, hs => by
    simp only [compOpers, Option.some.injEq] at hc
    subst hc
    simp only [opsF, Option.some.injEq, Prod.mk.injEq] at hs
    obtain ⟨rfl, rfl⟩ := hs
    exact ⟨a, w, m, Steps.refl _ _, sr, Fr.refl _ _⟩
  | o :: l, i, hat, ios, hc, m, τ, τ', h, h', a, w, sr, hs => by
    simp only [compOpers] at hc
    split at hc
    case h_2 => cases hc
    rename_i io ios' h1 h2
    cases hc
    simp only [opsF] at hs
    split at hs
    case h_2 => cases hs
    rename_i τ1 h1' hst
    have ho : ops[i]? = some o := by simpa using hat 0
    obtain ⟨a1, w1, m1, s1, sr1, f1⟩ := stepO_sound ok ho h1 sr hst (List.range' (i + 1) l.length) k cs
    obtain ⟨a2, w2, m2, s2, sr2, f2⟩ := opsF_sound ok l (i + 1) (fun j => by have := hat (j + 1); simpa [Nat.add_assoc, Nat.add_comm 1 j] using this) ios' h2 m1 τ1 τ' h1' h' a1 w1 sr1 hs
    refine ⟨a2, w2, m2, ?_, sr2, f1.trans f2⟩
    simp only [List.length_cons, List.range'_succ]
    exact s1.trans s2
end
end Go.Ax
end
section
set_option linter.unusedSectionVars false
namespace Go.Ax
variable [Globs]
open Go.RowKit
theorem onat_eq {a b : Option Nat} (h : onat a b = true) : a = b := by
  cases a <;> cases b <;> simp [onat] at h ⊢
  exact h
mutual
theorem V.same_eq : ∀ {a b : V}, V.same a b = true → a = b
  | .undef, b, h => by cases b <;> first | rfl | (simp [V.same] at h)
  | .bool _, b, h => by cases b <;> simp [V.same] at h ⊢; exact h
  | .int _ _, b, h => by cases b <;> simp [V.same] at h ⊢; exact ⟨ikEq_eq h.1, h.2⟩
  | .str _, b, h => by cases b <;> simp [V.same] at h ⊢; exact (bytesEq_iff _ _).1 h
  | .ptr _ _, b, h => by cases b <;> simp [V.same] at h ⊢; exact h
  | .nilptr, b, h => by cases b <;> first | rfl | (simp [V.same] at h)
  | .slice _ _ _ _ _, b, h => by
    cases b <;> simp [V.same] at h ⊢
    exact ⟨h.1.1.1.1, h.1.1.1.2, h.1.1.2, onat_eq h.1.2, h.2⟩
  | .nilslice, b, h => by cases b <;> first | rfl | (simp [V.same] at h)
  | .map _, b, h => by cases b <;> simp [V.same] at h ⊢; exact h
  | .nilmap, b, h => by cases b <;> first | rfl | (simp [V.same] at h)
  | .func _ x y, b, h => by
    cases b <;> simp [V.same] at h ⊢
    exact ⟨h.1.1, V.sames_eq h.1.2, V.sames_eq h.2⟩
  | .yield _, b, h => by cases b <;> simp [V.same] at h ⊢; exact h
  | .nilfunc, b, h => by cases b <;> first | rfl | (simp [V.same] at h)
  | .iface _ v, b, h => by cases b <;> simp [V.same] at h ⊢; exact ⟨h.1, V.same_eq h.2⟩
  | .niliface, b, h => by cases b <;> first | rfl | (simp [V.same] at h)
  | .agg x, b, h => by cases b <;> simp [V.same] at h ⊢; exact V.sames_eq h
  | .tup x, b, h => by cases b <;> simp [V.same] at h ⊢; exact V.sames_eq h
theorem V.sames_eq : ∀ {a b : List V}, V.sames a b = true → a = b
  | [], b, h => by cases b <;> simp [V.sames] at h ⊢
  | _ :: _, b, h => by cases b <;> simp [V.sames] at h ⊢; exact ⟨V.same_eq h.1, V.sames_eq h.2⟩
end
def GM.cut (m : GM) (n : Nat) : GM := fun b => if b < n then m b else none
theorem GM.cut_le (m : GM) (n : Nat) : ∀ b s, m.cut n b = some s → m b = some s := by
  intro b s h; simp only [GM.cut] at h; split at h
  · exact h
  · cases h
theorem GM.cut_lt {m : GM} {n b : Nat} {s : Spot} (h : m.cut n b = some s) : b < n ∧ m b = some s := by
  simp only [GM.cut] at h; split at h
  · exact ⟨‹_›, h⟩
  · cases h
theorem GM.cut_of {m : GM} {n b : Nat} {s : Spot} (hb : b < n) (h : m b = some s) : m.cut n b = some s := by simp [GM.cut, hb, h]
theorem GM.cut_mono (m : GM) {n k : Nat} (hk : n ≤ k) : ∀ b s, m.cut n b = some s → m.cut k b = some s := by
  intro b s h; obtain ⟨h1, h2⟩ := GM.cut_lt h; exact GM.cut_of (by omega) h2
theorem lt_of_fresh {m : GM} {n b : Nat} {s : Spot} (hf : Fresh m n) (h : m b = some s) : b < n := by
  rcases Nat.lt_or_ge b n with h1 | h1
  · exact h1
  · rw [hf b h1] at h; cases h
mutual
theorem VR.cut {m mj : GM} {n : Nat} (hj : Fresh mj n) : ∀ {v : V} {x y : Value}, VR m v x → VR mj v y → VR (m.cut n) v x
  | _, _, _, .undef, _ => .undef
  | _, _, _, .bool b, _ => .bool b
  | _, _, _, .int k n, _ => .int k n
  | _, _, _, .str b, _ => .str b
  | _, _, _, .ptr o h, .ptr _ h' => .ptr o (GM.cut_of (lt_of_fresh hj h') h)
  | _, _, _, .nilptr, _ => .nilptr
  | _, _, _, .slice o len cap oc e h hc hl hr, h2 => .slice o len cap oc e (GM.cut_of (lt_of_fresh hj h2.slice_dom.choose_spec) h) hc hl hr
  | _, _, _, .slice0 o e oc a hc h, h2 => .slice0 o e oc a hc (GM.cut_of (lt_of_fresh hj h2.slice_dom.choose_spec) h)
  | _, _, _, .nilslice, _ => .nilslice
  | _, _, _, .map h, .map h' => .map (GM.cut_of (lt_of_fresh hj h') h)
  | _, _, _, .nilmap, _ => .nilmap
  | _, _, _, .func f hx hy, .func _ hx' hy' => .func f (VRs.cut hj hx hx') (VRs.cut hj hy hy')
  | _, _, _, .yield h, .yield h' => .yield (GM.cut_of (lt_of_fresh hj h') h)
  | _, _, _, .nilfunc, _ => .nilfunc
  | _, _, _, .iface t h, .iface _ h' => .iface t (VR.cut hj h h')
  | _, _, _, .niliface, _ => .niliface
  | _, _, _, .agg h, .agg h' => .agg (VRs.cut hj h h')
  | _, _, _, .tup h, .tup h' => .tup (VRs.cut hj h h')
theorem VRs.cut {m mj : GM} {n : Nat} (hj : Fresh mj n) : ∀ {v : List V} {x y : List Value}, VRs m v x → VRs mj v y → VRs (m.cut n) v x
  | _, _, _, .nil, _ => .nil
  | _, _, _, .cons h hs, .cons h' hs' => .cons (VR.cut hj h h') (VRs.cut hj hs hs')
end
section
variable {S : Type → Type} [Rep S]
omit [Rep S] in
theorem rdG_mono {g g' : Nat → Option (Blk S)} (hg : ∀ b o, g b = some o → g' b = some o) {b o n : Nat} {r : List V} (h : rdG g b o n = some r) : rdG g' b o n = some r := by
  unfold rdG at h ⊢
  split at h
  · rename_i cs a hb; rw [hg _ _ hb]; exact h
  · cases h
omit [Rep S] in
theorem rdAgg_mono {g g' : Nat → Option (Blk S)} (hg : ∀ b o, g b = some o → g' b = some o) {t : Bool} {b o n : Nat} {r : V} (h : rdAgg g t b o n = some r) : rdAgg g' t b o n = some r := by
  unfold rdAgg at h ⊢
  split at h
  · rename_i ht
    rw [if_pos ht]
    cases hr : rdG g b o n with
    | none => simp [hr] at h
    | some l => rw [rdG_mono hg hr]; simpa [hr] using h
  · rename_i ht
    rw [if_neg ht]
    split at h
    · rename_i cs a hb; rw [hg _ _ hb]; exact h
    · cases h
omit [Rep S] in
theorem entries_mono {g g' : Nat → Option (Blk S)} (hg : ∀ b o, g b = some o → g' b = some o) {v : V} {r : List (V × V × Nat)} (h : entries g v = some r) : entries g' v = some r := by
  unfold entries at h ⊢
  split at h
  · exact h
  · split at h
    · rename_i b _ es c hb; simp only [hg _ _ hb]; exact h
    · cases h
  · cases h
omit [Rep S] in
theorem rdO_mono {g g' : Nat → Option (Blk S)} (hg : ∀ b o, g b = some o → g' b = some o) {o : IOp} {ρ : Opd → V} {v : V} (h : rdO o ρ g = some v) : rdO o ρ g' = some v := by
  cases o
  case ld agg n a =>
    simp only [rdO] at h ⊢
    split at h
    · exact rdAgg_mono hg h
    · cases h
  case lenm x =>
    simp only [rdO] at h ⊢
    cases he : entries g (ρ x) with
    | none => simp [he] at h
    | some es => rw [entries_mono hg he]; simpa [he] using h
  case lkp q zero ok m k =>
    simp only [rdO, lkpF] at h ⊢
    cases he : entries g (ρ m) with
    | none => simp [he] at h
    | some es => rw [entries_mono hg he]; simpa [he] using h
  case slca len e x lo hi mx =>
    simp only [rdO, slcaF] at h ⊢
    split at h
    · split at h
      · rename_i b o _ cs a hb; simp only [hg _ _ hb]; exact h
      · cases h
    · cases h
  all_goals (simp only [rdO] at h; cases h)
theorem map_congr' {l : List Opd} {ρ ρ' : Opd → V} (h : ∀ x ∈ l, ρ x = ρ' x) : l.map ρ = l.map ρ' := List.map_congr_left h
theorem bounds_congr {ρ ρ' : Opd → V} {n : Nat} {lo hi mx : Option Opd} (h1 : ∀ x ∈ lo.toList, ρ x = ρ' x) (h2 : ∀ x ∈ hi.toList, ρ x = ρ' x) (h3 : ∀ x ∈ mx.toList, ρ x = ρ' x) :
    bounds ρ n lo hi mx = bounds ρ' n lo hi mx := by
  have e : ∀ (m d : Nat) (o : Option Opd), (∀ x ∈ o.toList, ρ x = ρ' x) → lo? ρ m d o = lo? ρ' m d o := by
    intro m d o ho
    cases o with
    | none => rfl
    | some x => simp only [lo?]; rw [ho x (by simp)]
  unfold bounds
  split
  · rfl
  · rw [e _ _ mx h3]
    split
    · rfl
    · rw [e _ _ hi h2]
      split
      · rfl
      · rw [e _ _ lo h1]
theorem fillmap_congr {ps : List (Nat × Nat × Opd)} {ρ ρ' : Opd → V} (h : ∀ x ∈ ps.map (·.2.2), ρ x = ρ' x) :
    ps.map (fun p => (p.1, p.2.1, ρ p.2.2)) = ps.map (fun p => (p.1, p.2.1, ρ' p.2.2)) :=
  List.map_congr_left fun p hp => by rw [h p.2.2 (List.mem_map.2 ⟨p, hp, rfl⟩)]
theorem puO_congr {o : IOp} {ρ ρ' : Opd → V} (h : ∀ x ∈ o.opds, ρ x = ρ' x) : puO o ρ = puO o ρ' := by
  cases o <;> simp only [IOp.opds, List.mem_cons, List.mem_append, List.not_mem_nil, or_false] at h <;> simp only [puO]
  case mkfn f a c => rw [map_congr' fun x hx => h x (Or.inl hx), map_congr' fun x hx => h x (Or.inr hx)]
  case mn x ys => rw [h x (Or.inl rfl), map_congr' fun z hz => h z (Or.inr hz)]
  case mx x ys => rw [h x (Or.inl rfl), map_congr' fun z hz => h z (Or.inr hz)]
  case bld zero ps => rw [fillmap_congr h]
  case slc e x lo hi mx =>
    rw [h x (Or.inl rfl)]
    unfold slcF
    have hb : ∀ n, bounds ρ n lo hi mx = bounds ρ' n lo hi mx := fun n => bounds_congr (fun z hz => h z (Or.inr (Or.inl (Or.inl hz)))) (fun z hz => h z (Or.inr (Or.inl (Or.inr hz)))) (fun z hz => h z (Or.inr (Or.inr hz)))
    simp only [hb]
  case slcs x lo hi =>
    rw [h x (Or.inl rfl)]
    unfold slcsF
    have hb : ∀ n, bounds ρ n lo hi none = bounds ρ' n lo hi none := fun n => bounds_congr (fun z hz => h z (Or.inr (Or.inl hz))) (fun z hz => h z (Or.inr (Or.inr hz))) (by simp)
    simp only [hb]
  all_goals (first | rfl | (simp only [h _ rfl]) | (simp [h]))
omit [Rep S] in
theorem rdO_congr {g : Nat → Option (Blk S)} {o : IOp} {ρ ρ' : Opd → V} (h : ∀ x ∈ o.opds, ρ x = ρ' x) : rdO o ρ g = rdO o ρ' g := by
  cases o <;> simp only [IOp.opds, List.mem_cons, List.mem_append, List.not_mem_nil, or_false] at h <;> simp only [rdO]
  case slca len e x lo hi mx =>
    rw [h x (Or.inl rfl)]
    unfold slcaF
    have hb : ∀ n, bounds ρ n lo hi mx = bounds ρ' n lo hi mx := fun n => bounds_congr (fun z hz => h z (Or.inr (Or.inl (Or.inl hz)))) (fun z hz => h z (Or.inr (Or.inl (Or.inr hz)))) (fun z hz => h z (Or.inr (Or.inr hz)))
    simp only [hb]
  all_goals (first | rfl | (simp only [h _ rfl]) | (simp [h]))
omit [Rep S] in
theorem mkO_congr {o : IOp} {ρ ρ' : Opd → V} (h : ∀ x ∈ o.opds, ρ x = ρ' x) : (mkO o ρ : Option ((Nat → V) × Blk S)) = mkO o ρ' := by
  cases o <;> simp only [IOp.opds, List.mem_cons, List.mem_append, List.not_mem_nil, or_false] at h <;> simp only [mkO]
  case bldS e len zero ps => rw [fillmap_congr h]
  all_goals (first | rfl | (simp only [h _ rfl]) | (simp [h]))
theorem hvO_congr {o : IOp} {ρ ρ' : Opd → V} (h : ∀ x ∈ o.opds, ρ x = ρ' x) (hp : Hp S) : hvO o ρ hp = hvO o ρ' hp := by
  cases o <;> simp only [IOp.opds, List.mem_cons, List.mem_append, List.not_mem_nil, or_false] at h <;> simp only [hvO]
  all_goals (first | rfl | (simp only [h _ rfl]) | (simp [h]))
theorem opF_congr {r : Rec S} {o : IOp} {ρ ρ' : Opd → V} (h : ∀ x ∈ o.opds, ρ x = ρ' x) (hp : Hp S) : opF r o ρ hp = opF r o ρ' hp := by
  have gen : iop o ρ hp = iop o ρ' hp := by
    unfold iop
    rw [puO_congr h, rdO_congr h, mkO_congr h, hvO_congr h]
  cases o
  case call f args =>
    simp only [IOp.opds, List.mem_cons] at h
    simp only [opF]
    rw [h f (Or.inl rfl), map_congr' fun z hz => h z (Or.inr hz)]
  all_goals exact gen
def stp (r : Rec S) (ios : List IOper) (τ : S V) (h : Hp S) : Nat → S V × Hp S
  | 0 => (τ, h)
  | j + 1 => match ios[j]? with
    | some io => (stepO r io (stp r ios τ h j).1 (stp r ios τ h j).2).getD (stp r ios τ h j)
    | none => stp r ios τ h j
theorem stp_shift {r : Rec S} {io : IOper} {ios : List IOper} {τ τ1 : S V} {h h1 : Hp S} (hs : stepO r io τ h = some (τ1, h1)) : ∀ j, stp r (io :: ios) τ h (j + 1) = stp r ios τ1 h1 j := by
  intro j
  induction j with
  | zero => simp [stp, hs]
  | succ j ih =>
    show (match (io :: ios)[j + 1]? with
      | some io' => (stepO r io' (stp r (io :: ios) τ h (j + 1)).1 (stp r (io :: ios) τ h (j + 1)).2).getD (stp r (io :: ios) τ h (j + 1))
      | none => stp r (io :: ios) τ h (j + 1)) = _
    rw [ih, List.getElem?_cons_succ]
    rfl
theorem drawF_spec {r : Rec S} : ∀ (ds : List DOper) (i : Nat) (pre : List (Nat × Hp S)) (τ τ' : S V) (h h' : Hp S), drawF r ds i pre τ h = some (τ', h') →
    stp r (ds.map (·.o)) τ h ds.length = (τ', h') ∧
    ∀ (j : Nat) d, ds[j]? = some d →
      stepO r d.o (stp r (ds.map (·.o)) τ h j).1 (stp r (ds.map (·.o)) τ h j).2 = some (stp r (ds.map (·.o)) τ h (j + 1)) ∧
      (∀ o ∈ d.rechk, reOk o (stp r (ds.map (·.o)) τ h (j + 1)).1 (stp r (ds.map (·.o)) τ h (j + 1)).2 = true) ∧
      (∀ k ∈ d.back, ∃ hk, reOk d.o (stp r (ds.map (·.o)) τ h (j + 1)).1 hk = true ∧ (preOf k pre = some hk ∨ ∃ k', k = i + k' ∧ k' < j ∧ hk = (stp r (ds.map (·.o)) τ h k').2))
  | [], i, pre, τ, τ', h, h', he => by
    simp only [drawF, Option.some.injEq, Prod.mk.injEq] at he
    obtain ⟨rfl, rfl⟩ := he
    exact ⟨rfl, by simp⟩
  | d :: ds, i, pre, τ, τ', h, h', he => by
    simp only [drawF] at he
    split at he
    case h_2 => cases he
    rename_i τ1 h1 hs
    split at he
    case isFalse => cases he
    rename_i hck
    simp only [Bool.and_eq_true, List.all_eq_true] at hck
    obtain ⟨h2, h3⟩ := drawF_spec ds (i + 1) _ τ1 τ' h1 h' he
    have sh := stp_shift (ios := ds.map (·.o)) hs
    refine ⟨by rw [List.map_cons, List.length_cons, sh]; exact h2, fun j d' hd => ?_⟩
    rw [List.map_cons]
    cases j with
    | zero =>
      simp only [List.getElem?_cons_zero, Option.some.injEq] at hd
      subst hd
      rw [sh 0]
      refine ⟨hs, hck.1, fun k hk => ?_⟩
      have := hck.2 k hk
      split at this
      · rename_i hk' hp; exact ⟨hk', this, Or.inl hp⟩
      · cases this
    | succ j =>
      simp only [List.getElem?_cons_succ] at hd
      obtain ⟨h4, h5, h6⟩ := h3 j d' hd
      rw [sh (j + 1), sh j]
      refine ⟨h4, h5, fun k hk => ?_⟩
      obtain ⟨hk', h7, h8⟩ := h6 k hk
      refine ⟨hk', h7, ?_⟩
      rcases h8 with h8 | ⟨k', rfl, hlt, h8⟩
      · split at h8
        · simp only [preOf] at h8
          split at h8
          · rename_i hb
            cases h8
            exact Or.inr ⟨0, (Nat.eq_of_beq_eq_true hb).symm, by omega, rfl⟩
          · exact Or.inl h8
        · exact Or.inl h8
      · exact Or.inr ⟨k' + 1, by omega, by omega, by rw [sh k']; exact h8⟩
theorem mkDs_map (os : List IOper) (ms : List Nat) : ∀ (l : List IOper) (i : Nat), (mkDs os ms l i).map (·.o) = l
  | [], _ => rfl
  | o :: r, i => by simp only [mkDs, List.map_cons, mkDs_map os ms r (i + 1)]; rfl
theorem mkDs_get (os : List IOper) (ms : List Nat) : ∀ (l : List IOper) (i j : Nat), (mkDs os ms l i)[j]? = (l[j]?).map fun o => mkD os ms o (i + j)
  | [], _, _ => by simp [mkDs]
  | o :: r, i, 0 => by simp [mkDs]
  | o :: r, i, j + 1 => by
    simp only [mkDs, List.getElem?_cons_succ, mkDs_get os ms r (i + 1) j]
    rw [show i + 1 + j = i + (j + 1) by omega]
theorem compOpers_get {P : Program} {N : Nat} {ops : Array Oper} : ∀ {l : List Oper} {ios : List IOper}, compOpers P N ops l = some ios → ios.length = l.length ∧ ∀ (j : Nat) io, ios[j]? = some io → ∃ o, l[j]? = some o ∧ compOper P N ops o = some io
  | [], ios, h => by simp only [compOpers, Option.some.injEq] at h; subst h; simp
  | o :: l, ios, h => by
    simp only [compOpers] at h
    split at h
    case h_2 => cases h
    rename_i a b h1 h2
    cases h
    obtain ⟨hl, hg⟩ := compOpers_get h2
    refine ⟨by simp [hl], fun j io hj => ?_⟩
    cases j with
    | zero => simp only [List.getElem?_cons_zero, Option.some.injEq] at hj; subst hj; exact ⟨o, rfl, h1⟩
    | succ j => simpa using hg j io (by simpa using hj)
theorem slotsOf_mem {l : List Opd} {n : Nat} (h : Opd.t n ∈ l) : n ∈ slotsOf l := by
  induction l with
  | nil => cases h
  | cons x l ih =>
    cases x with
    | t k =>
      rcases List.mem_cons.1 h with e | e
      · cases e; simp [slotsOf]
      · simp [slotsOf, ih e]
    | c v =>
      rcases List.mem_cons.1 h with e | e
      · cases e
      · simpa [slotsOf] using ih e
end
end Go.Ax
end
section
set_option linter.unusedSectionVars false
namespace Go.Ax
variable [Globs]
section
variable {S : Type → Type} [Rep S]
structure RecN (r : Rec S) : Prop where
  call : ∀ {f : Nat} {args : List V} {h h' : Hp S} {v : V}, r.call f args h = some (v, h') → h.n ≤ h'.n
  code : ∀ {cur : Option Nat} {ic : ICode} {τ τ' : S V} {h h' : Hp S} {x : X}, r.code cur ic τ h = some (x, τ', h') → h.n ≤ h'.n
theorem kill_n : ∀ (l : List Nat) (h : Hp S), (Hp.kill l h).n = h.n
  | [], _ => rfl
  | _ :: bs, h => by simp only [Hp.kill]; rw [kill_n bs]; rfl
theorem wr_n {h h' : Hp S} {b o : Nat} {vs : List V} (hw : h.wr b o vs = some h') : h'.n = h.n := by
  unfold Hp.wr at hw
  split at hw
  · split at hw
    · cases hw
    · split at hw
      · split at hw
        · cases hw; show (Hp.kill _ h).n = _; exact kill_n _ _
        · cases hw; rfl
      · cases hw
  · cases hw
theorem hvO_n {o : IOp} {ρ : Opd → V} {h h' : Hp S} {v : V} (hv : hvO o ρ h = some (v, h')) : h.n ≤ h'.n := by
  have wr : ∀ {b o : Nat} {vs : List V} {f : V} {v : V}, (h.wr b o vs).map (f, ·) = some (v, h') → h.n ≤ h'.n := by
    intro b o vs f v hm
    cases hw : h.wr b o vs with
    | none => simp [hw] at hm
    | some h2 =>
      simp only [hw, Option.map_some, Option.some.injEq, Prod.mk.injEq] at hm
      obtain ⟨_, rfl⟩ := hm
      exact Nat.le_of_eq (wr_n hw).symm
  cases o <;> simp only [hvO] at hv
  case st n a x =>
    split at hv
    · split at hv
      · exact wr hv
      · cases hv
    · cases hv
  case mapup q m k x =>
    unfold mapupF at hv
    repeat' split at hv
    all_goals (cases hv <;> exact Nat.le_refl _)
  case ment q z m k =>
    unfold mentF at hv
    repeat' split at hv
    all_goals (cases hv <;> exact Nat.le_refl _)
  case mst m s x =>
    unfold mstF at hv
    repeat' split at hv
    all_goals (cases hv <;> exact Nat.le_refl _)
  case clr m =>
    unfold clrF at hv
    repeat' split at hv
    all_goals (cases hv <;> exact Nat.le_refl _)
  case nxt x =>
    unfold nxtF at hv
    repeat' split at hv
    all_goals (cases hv <;> exact Nat.le_refl _)
  case cpy e d s =>
    unfold copyF at hv
    split at hv
    · cases hv
    · split at hv
      · cases hv; exact Nat.le_refl _
      · split at hv
        · split at hv
          · cases hv; exact Nat.le_refl _
          · exact wr hv
        · cases hv
      · cases hv
  case app e bytes s x =>
    unfold appendF at hv
    split at hv
    · cases hv
    · split at hv
      · split at hv
        · cases hv; exact Nat.le_refl _
        · split at hv
          · cases hv; exact Nat.le_succ _
          · cases hv
      · split at hv
        · split at hv
          · cases hv; exact Nat.le_refl _
          · split at hv
            · split at hv
              · split at hv
                · exact wr hv
                · obtain ⟨l, _, e⟩ := Option.map_eq_some_iff.1 hv
                  cases e
                  exact Nat.le_succ _
              · split at hv
                · split at hv
                  · cases hv
                  · cases hv
                    show h.n ≤ (Hp.kill _ h).n + 1
                    rw [kill_n]
                    exact Nat.le_succ _
                · cases hv
            · cases hv
        · cases hv
      · cases hv
  all_goals cases hv
theorem iop_n {o : IOp} {ρ : Opd → V} {h h' : Hp S} {v : V} (hv : iop o ρ h = some (v, h')) : h.n ≤ h'.n := by
  unfold iop at hv
  split at hv
  · cases hp : puO o ρ with
    | none => simp [hp] at hv
    | some x => simp only [hp, Option.map_some, Option.some.injEq, Prod.mk.injEq] at hv; obtain ⟨_, rfl⟩ := hv; exact Nat.le_refl _
  · cases hp : rdO o ρ h.get with
    | none => simp [hp] at hv
    | some x => simp only [hp, Option.map_some, Option.some.injEq, Prod.mk.injEq] at hv; obtain ⟨_, rfl⟩ := hv; exact Nat.le_refl _
  · cases hp : (mkO o ρ : Option ((Nat → V) × Blk S)) with
    | none => simp [hp] at hv
    | some x => simp only [hp, Option.map_some, Option.some.injEq, Prod.mk.injEq] at hv; obtain ⟨_, rfl⟩ := hv; exact Nat.le_succ _
  · exact hvO_n hv
theorem callV_n {r : Rec S} (ok : RecN r) {f v : V} {args : List V} {h h' : Hp S} (hv : callV r f args h = some (v, h')) : h.n ≤ h'.n := by
  unfold callV at hv
  split at hv
  · exact ok.call hv
  · unfold yieldF at hv
    split at hv
    case h_2 => cases hv
    obtain ⟨τ0, _, hv⟩ := Option.bind_eq_some_iff.1 hv
    split at hv
    case h_2 => cases hv
    rename_i h1 e1
    have n1 := ok.code e1
    split at hv
    case h_2 => cases hv
    split at hv
    case h_2 => cases hv
    rename_i h2 e2
    have n2 := ok.code e2
    split at hv
    case h_2 => cases hv
    have n3 : h.n ≤ h2.n := Nat.le_trans n1 n2
    split at hv <;> (cases hv; exact n3)
  · cases hv
theorem opF_n {r : Rec S} (ok : RecN r) {o : IOp} {ρ : Opd → V} {h h' : Hp S} {v : V} (hv : opF r o ρ h = some (v, h')) : h.n ≤ h'.n := by
  unfold opF at hv
  split at hv
  · exact callV_n ok hv
  · exact iop_n hv
theorem stepO_n {r : Rec S} (ok : RecN r) {o : IOper} {τ τ' : S V} {h h' : Hp S} (hv : stepO r o τ h = some (τ', h')) : h.n ≤ h'.n := by
  unfold stepO at hv
  split at hv
  · cases hp : opF r o.op (ev τ) h with
    | none => simp [hp] at hv
    | some x =>
      simp only [hp, Option.map_some, Option.some.injEq, Prod.mk.injEq] at hv
      obtain ⟨_, rfl⟩ := hv
      exact opF_n ok (v := x.1) (h' := x.2) hp
  · cases hv; exact Nat.le_refl _
theorem opsF_n {r : Rec S} (ok : RecN r) : ∀ {os : List IOper} {τ τ' : S V} {h h' : Hp S}, opsF r os τ h = some (τ', h') → h.n ≤ h'.n
  | [], _, _, _, _, hv => by simp only [opsF, Option.some.injEq, Prod.mk.injEq] at hv; obtain ⟨_, rfl⟩ := hv; exact Nat.le_refl _
  | o :: os, _, _, _, _, hv => by
    simp only [opsF] at hv
    split at hv
    · rename_i h1; exact Nat.le_trans (stepO_n ok h1) (opsF_n ok hv)
    · cases hv
theorem drawF_n {r : Rec S} (ok : RecN r) : ∀ {os : List DOper} {i : Nat} {pre : List (Nat × Hp S)} {τ τ' : S V} {h h' : Hp S}, drawF r os i pre τ h = some (τ', h') → h.n ≤ h'.n
  | [], _, _, _, _, _, _, hv => by simp only [drawF, Option.some.injEq, Prod.mk.injEq] at hv; obtain ⟨_, rfl⟩ := hv; exact Nat.le_refl _
  | o :: os, _, _, _, _, _, _, hv => by
    simp only [drawF] at hv
    split at hv
    · rename_i h1
      split at hv
      · exact Nat.le_trans (stepO_n ok h1) (drawF_n ok hv)
      · cases hv
    · cases hv
theorem codeF_n {r : Rec S} (ok : RecN r) {cur : Option Nat} : ∀ {ic : ICode} {τ τ' : S V} {h h' : Hp S} {x : X}, codeF r cur ic τ h = some (x, τ', h') → h.n ≤ h'.n := by
  intro ic
  induction ic with
  | skip | exit _ | ret => intro τ τ' h h' x hv; simp only [codeF] at hv; cases hv; exact Nat.le_refl _
  | region ops =>
    intro τ τ' h h' x hv
    simp only [codeF] at hv
    split at hv
    · rename_i e; cases hv; exact opsF_n ok e
    · cases hv
  | draw ops =>
    intro τ τ' h h' x hv
    simp only [codeF] at hv
    split at hv
    · rename_i e; cases hv; exact drawF_n ok e
    · cases hv
  | seq a b ha hb =>
    intro τ τ' h h' x hv
    simp only [codeF] at hv
    split at hv
    · rename_i e; exact Nat.le_trans (ha e) (hb hv)
    · exact ha hv
  | cond c a b ha hb =>
    intro τ τ' h h' x hv
    simp only [codeF] at hv
    split at hv
    · exact ha hv
    · exact hb hv
    · cases hv
  | block id b hb =>
    intro τ τ' h h' x hv
    simp only [codeF] at hv
    split at hv
    · rename_i e; split at hv <;> (cases hv; exact hb e)
    · exact hb hv
  | loop b hb =>
    intro τ τ' h h' x hv
    simp only [codeF] at hv
    split at hv
    · rename_i e; exact Nat.le_trans (hb e) (ok.code hv)
    · exact hb hv
  | scope b hb => intro τ τ' h h' x hv; exact hb hv
  | rangef f ps asg body _ _ =>
    intro τ τ' h h' x hv
    simp only [codeF] at hv
    split at hv
    case isFalse => cases hv
    split at hv
    case h_2 => cases hv
    rename_i e
    have := callV_n ok e
    split at hv
    case h_2 => cases hv
    split at hv
    · cases hv
    · cases hv
      exact Nat.le_trans (Nat.le_succ _) this
theorem callF_n {ft : Nat → Option IFun} {r : Rec S} (ok : RecN r) {f : Nat} {args : List V} {h h' : Hp S} {v : V} (hv : callF ft r f args h = some (v, h')) : h.n ≤ h'.n := by
  unfold callF at hv
  split at hv
  · cases hv
  rename_i fn _
  split at hv
  case isFalse => cases hv
  have res : ∀ {τ : S V} {h2 : Hp S}, (resF τ h2 fn.res).map (packR ·, h2) = some (v, h') → h2 = h' := by
    intro τ h2 e
    cases hr : resF τ h2 fn.res with
    | none => simp [hr] at e
    | some l => simp only [hr, Option.map_some, Option.some.injEq, Prod.mk.injEq] at e; exact e.2
  split at hv
  · rename_i e; exact (res hv) ▸ codeF_n ok e
  · rename_i e; exact (res hv) ▸ codeF_n ok e
  · cases hv
def FtN (ft : FT S) : Prop := ∀ f args h v h', ft.orc f args h = some (v, h') → h.n ≤ h'.n
theorem callO_n {ft : FT S} (hn : FtN ft) {r : Rec S} (ok : RecN r) {f : Nat} {args : List V} {h h' : Hp S} {v : V} (hv : callO ft r f args h = some (v, h')) : h.n ≤ h'.n := by
  unfold callO at hv
  split at hv
  · rename_i e; cases hv; exact hn _ _ _ _ _ e
  · exact callF_n ok hv
theorem recN_n {ft : FT S} (hn : FtN ft) : ∀ n, RecN (S := S) (recN ft n)
  | 0 => ⟨(fun h => by cases h), (fun h => by cases h)⟩
  | n + 1 => ⟨(fun h => callO_n hn (recN_n hn n) h), (fun h => codeF_n (recN_n hn n) h)⟩
end
end Go.Ax
end
section
set_option linter.unusedSectionVars false
namespace Go.Ax
variable [Globs]
open Go.RowKit
theorem fold_bit {acc : List Nat} {i : Nat} : ∀ {l : List Edge} {s : Nat}, (l.foldl (fun s e => if Region.binds .any e then s ||| 2 ^ e.on ||| acc.getD e.on 0 else s) s).testBit i = true →
    s.testBit i = true ∨ ∃ e ∈ l, Region.binds .any e = true ∧ (i = e.on ∨ (acc.getD e.on 0).testBit i = true)
  | [], s, h => Or.inl h
  | e :: l, s, h => by
    rw [List.foldl_cons] at h
    rcases fold_bit h with h1 | ⟨e', h1, h2⟩
    · split at h1
      · rename_i hb
        simp only [Nat.testBit_or, Bool.or_eq_true] at h1
        rcases h1 with (h1 | h1) | h1
        · exact Or.inl h1
        · refine Or.inr ⟨e, by simp, hb, Or.inl ?_⟩
          rw [Nat.testBit_two_pow] at h1
          simpa using (of_decide_eq_true h1).symm
        · exact Or.inr ⟨e, by simp, hb, Or.inr h1⟩
      · exact Or.inl h1
    · exact Or.inr ⟨e', by simp [h1], h2⟩
theorem aheadOf_pre : ∀ (ops : List Oper) (acc : List Nat) (j : Nat), j < acc.length → (aheadOf ops acc).getD j 0 = acc.getD j 0
  | [], _, _, _ => rfl
  | o :: os, acc, j, h => by
    simp only [aheadOf]
    rw [aheadOf_pre os _ j (by simp; omega)]
    simp [h, List.getElem?_append_left h]
theorem aheadOf_bit : ∀ (ops : List Oper) (acc : List Nat) (j i : Nat), ((aheadOf ops acc).getD j 0).testBit i = true →
    (j < acc.length) ∨ ∃ o, ops[j - acc.length]? = some o ∧ ∃ e ∈ o.after, Region.binds .any e = true ∧ (i = e.on ∨ (e.on < j ∧ ((aheadOf ops acc).getD e.on 0).testBit i = true))
  | [], acc, j, i, h => by
    rcases Nat.lt_or_ge j acc.length with h1 | h1
    · exact Or.inl h1
    · simp [aheadOf, h1] at h
  | o :: os, acc, j, i, h => by
    rcases Nat.lt_or_ge j acc.length with h1 | h1
    · exact Or.inl h1
    right
    rcases Nat.lt_or_ge acc.length j with h2 | h2
    · simp only [aheadOf] at h ⊢
      rcases aheadOf_bit os _ j i h with h3 | ⟨o', h3, h4⟩
      · simp at h3; omega
      · refine ⟨o', ?_, h4⟩
        rw [List.length_append, List.length_singleton] at h3
        rw [show j - acc.length = j - (acc.length + 1) + 1 by omega, List.getElem?_cons_succ]
        exact h3
    · obtain rfl : j = acc.length := by omega
      refine ⟨o, by simp, ?_⟩
      simp only [aheadOf] at h ⊢
      rw [aheadOf_pre os _ _ (by simp)] at h
      have hg : ∀ x : Nat, (acc ++ [x]).getD acc.length 0 = x := fun x => by simp
      rw [hg] at h
      rcases fold_bit h with h5 | ⟨e, h5, h6, h7⟩
      · simp at h5
      · refine ⟨e, by simpa using h5, h6, ?_⟩
        rcases h7 with h7 | h7
        · exact Or.inl h7
        · have hlt : e.on < acc.length := by
            rcases Nat.lt_or_ge e.on acc.length with hl | hl
            · exact hl
            · simp [hl] at h7
          refine Or.inr ⟨hlt, ?_⟩
          rw [aheadOf_pre os _ _ (by simp; omega)]
          simpa [hlt, List.getElem?_append_left hlt] using h7
def Ahead (ops : Array Oper) (i j : Nat) : Prop := ((aheadOf ops.toList []).getD j 0).testBit i = true
theorem Ahead.closed {ops : Array Oper} {D : Nat → Prop} (hD : ∀ j o, D j → ops[j]? = some o → ∀ e ∈ o.after, Region.binds .any e = true → D e.on) : ∀ (j i : Nat), D j → Ahead ops i j → D i := by
  intro j
  induction j using Nat.strongRecOn with
  | ind j ih =>
    intro i hj ha
    rcases aheadOf_bit _ _ _ _ ha with h | ⟨o, h1, e, h2, h3, h4⟩
    · simp at h
    · have ho : ops[j]? = some o := by simpa using h1
      have hd := hD j o hj ho e h2 h3
      rcases h4 with rfl | ⟨h5, h6⟩
      · exact hd
      · exact ih e.on h5 i hd h6
theorem Ahead.of_ready {ops : Array Oper} {D : Nat → Prop} (hD : ∀ j o, D j → ops[j]? = some o → ∀ e ∈ o.after, Region.binds .any e = true → D e.on) {k : Nat} {o : Oper} (ho : ops[k]? = some o)
    (hr : ∀ e ∈ o.after, Region.binds .any e = true → D e.on) {i : Nat} (ha : Ahead ops i k) : D i := by
  rcases aheadOf_bit _ _ _ _ ha with h | ⟨o', h1, e, h2, h3, h4⟩
  · simp at h
  · have ho' : ops[k]? = some o' := by simpa using h1
    rw [ho] at ho'; cases ho'
    have hd := hr e h2 h3
    rcases h4 with rfl | ⟨_, h6⟩
    · exact hd
    · exact Ahead.closed hD e.on i hd h6
section
variable {S : Type → Type} [Rep S] {P : Program} {r : Rec S}
structure Txt (ops : Array Oper) (os : List IOper) (r : Rec S) (T : Nat → S V × Hp S) (X : Nat → Option (Blk S)) : Prop where
  step : ∀ (j : Nat) o, os[j]? = some o → stepO r o (T j).1 (T j).2 = some (T (j + 1))
  rechk : ∀ (i j : Nat) x y, i < j → os[i]? = some x → os[j]? = some y → isRead x = true → isHeavy y = true → ¬ Ahead ops i j → reOk x (T (j + 1)).1 (T (j + 1)).2 = true
  selfr : ∀ (j : Nat) x, os[j]? = some x → isRead x = true → reOk x (T (j + 1)).1 (T (j + 1)).2 = true
  back : ∀ (i j : Nat) x y, i < j → os[i]? = some x → os[j]? = some y → isHeavy x = true → isRead y = true → ¬ Ahead ops i j → reOk y (T (j + 1)).1 (T i).2 = true
  wf : ∀ j, j ≤ os.length → ∃ mj, Fresh mj (T j).2.n ∧ (∀ s, ∃ x, VR mj (ev (T j).1 (.t s)) x) ∧ Gl mj
  mono : ∀ (j : Nat) o, os[j]? = some o → (T j).2.n ≤ (T (j + 1)).2.n
  made : ∀ (j : Nat) o, os[j]? = some o → isMake o = true → wanted o.guard (T j).1 = true → X (T j).2.n = (T (j + 1)).2.get (T j).2.n
theorem stepO_put {o : IOper} {τ τ' : S V} {h h' : Hp S} (hs : stepO r o τ h = some (τ', h')) : ∃ v, τ' = putD τ o.dst v := by
  unfold stepO at hs
  split at hs
  · obtain ⟨p, _, e⟩ := Option.map_eq_some_iff.1 hs
    cases e; exact ⟨_, rfl⟩
  · cases hs; exact ⟨_, rfl⟩
theorem ev_putD_ne {τ : S V} {d : Option Nat} {v : V} {s : Nat} (h : d ≠ some s) : ev (putD τ d v) (.t s) = ev τ (.t s) := by
  cases d with
  | none => rfl
  | some d =>
    show ev (Rep.set τ d v) (.t s) = _
    rw [ev_set, if_neg (fun e => h (by rw [e]))]
theorem ev_putD_eq {τ : S V} {v : V} {s : Nat} : ev (putD τ (some s) v) (.t s) = v := by
  show ev (Rep.set τ s v) (.t s) = v
  rw [ev_set, if_pos rfl]
theorem isHeavy_kind {o : IOper} : isHeavy o = true ↔ kindOf o.op = .heavy := by
  unfold isHeavy; split <;> simp_all
theorem isRead_kind {o : IOper} : isRead o = true ↔ kindOf o.op = .read := by
  unfold isRead; split <;> simp_all
theorem isMake_kind {o : IOper} : isMake o = true ↔ kindOf o.op = .make := by
  unfold isMake; split <;> simp_all
theorem opF_light {o : IOp} (hk : kindOf o ≠ .heavy) {ρ : Opd → V} {h : Hp S} : opF r o ρ h = iop o ρ h := by
  cases o <;> first | rfl | (exact absurd rfl hk)
theorem stepO_light {o : IOper} (hk : isHeavy o = false) {τ τ' : S V} {h h' : Hp S} (hs : stepO r o τ h = some (τ', h')) :
    (h' = h ∧ ¬ (isMake o = true ∧ wanted o.guard τ = true)) ∨ (isMake o = true ∧ wanted o.guard τ = true ∧ ∃ b, h' = h.push b) := by
  have hk' : kindOf o.op ≠ .heavy := fun e => by rw [isHeavy_kind.2 e] at hk; cases hk
  unfold stepO at hs
  split at hs
  · rename_i hw
    rw [opF_light hk'] at hs
    obtain ⟨p, hp, e⟩ := Option.map_eq_some_iff.1 hs
    unfold iop at hp
    split at hp
    · rename_i h1
      obtain ⟨v, _, e2⟩ := Option.map_eq_some_iff.1 hp
      cases e2; cases e
      exact Or.inl ⟨rfl, fun hm => by rw [isMake_kind.1 hm.1] at h1; cases h1⟩
    · rename_i h1
      obtain ⟨v, _, e2⟩ := Option.map_eq_some_iff.1 hp
      cases e2; cases e
      exact Or.inl ⟨rfl, fun hm => by rw [isMake_kind.1 hm.1] at h1; cases h1⟩
    · rename_i h1
      obtain ⟨v, _, e2⟩ := Option.map_eq_some_iff.1 hp
      cases e2; cases e
      exact Or.inr ⟨isMake_kind.2 h1, hw, _, rfl⟩
    · rename_i h1; exact absurd h1 hk'
  · rename_i hw
    cases hs
    exact Or.inl ⟨rfl, fun hm => hw hm.2⟩
namespace Txt
variable {ops : Array Oper} {os : List IOper} {T : Nat → S V × Hp S} {X : Nat → Option (Blk S)}
theorem mono' (t : Txt ops os r T X) : ∀ (a b : Nat), a ≤ b → b ≤ os.length → (T a).2.n ≤ (T b).2.n := by
  intro a b hab
  induction b with
  | zero => intro _; obtain rfl : a = 0 := by omega
            exact Nat.le_refl _
  | succ b ih =>
    intro hb
    rcases Nat.lt_or_ge b a with h | h
    · obtain rfl : a = b + 1 := by omega
      exact Nat.le_refl _
    · obtain ⟨o, ho⟩ : ∃ o, os[b]? = some o := ⟨_, List.getElem?_eq_getElem (by omega)⟩
      exact Nat.le_trans (ih h (by omega)) (t.mono b o ho)
theorem slot (t : Txt ops os r T X) {s : Nat} : ∀ (a b : Nat), a ≤ b → b ≤ os.length → (∀ l, a ≤ l → l < b → ∀ o, os[l]? = some o → o.dst ≠ some s) → ev (T b).1 (.t s) = ev (T a).1 (.t s) := by
  intro a b hab
  induction b with
  | zero => intro _ _; obtain rfl : a = 0 := by omega
            rfl
  | succ b ih =>
    intro hb hn
    rcases Nat.lt_or_ge b a with h | h
    · obtain rfl : a = b + 1 := by omega
      rfl
    · obtain ⟨o, ho⟩ : ∃ o, os[b]? = some o := ⟨_, List.getElem?_eq_getElem (by omega)⟩
      obtain ⟨v, hv⟩ := stepO_put (t.step b o ho)
      rw [hv, ev_putD_ne (hn b h (by omega) o ho)]
      exact ih h (by omega) fun l h1 h2 => hn l h1 (by omega)
theorem heap (t : Txt ops os r T X) : ∀ (a b : Nat), a ≤ b → b ≤ os.length → (∀ l, a ≤ l → l < b → ∀ o, os[l]? = some o → isHeavy o = false) → ∀ x, x < (T a).2.n → (T b).2.get x = (T a).2.get x := by
  intro a b hab
  induction b with
  | zero => intro _ _ _ _; obtain rfl : a = 0 := by omega
            rfl
  | succ b ih =>
    intro hb hn x hx
    rcases Nat.lt_or_ge b a with h | h
    · obtain rfl : a = b + 1 := by omega
      rfl
    · obtain ⟨o, ho⟩ : ∃ o, os[b]? = some o := ⟨_, List.getElem?_eq_getElem (by omega)⟩
      have ih' := ih h (by omega) (fun l h1 h2 => hn l h1 (by omega)) x hx
      rcases stepO_light (hn b h (by omega) o ho) (t.step b o ho) with ⟨e, _⟩ | ⟨_, _, blk, e⟩
      · rw [e]; exact ih'
      · have hlt : x < (T b).2.n := Nat.lt_of_lt_of_le hx (t.mono' a b h (by omega))
        rw [e, Hp.get_push, if_neg (by omega)]
        exact ih'
end Txt
end
end Go.Ax
end
section
set_option linter.unusedSectionVars false
namespace Go.Ax
variable [Globs]
open Go.RowKit
section
variable {S : Type → Type} [Rep S] {P : Program} {r : Rec S}
structure Looked (P : Program) (N : Nat) (ops : Array Oper) (os : List IOper) : Prop where
  comp : compOpers P N ops ops.toList = some os
  self : ∀ j, j < os.length → selfOk ops os j = true
  pair : ∀ i j, i < j → j < os.length → pairOk ops os (aheadOf ops.toList []) i j = true
section
variable {N : Nat} {ops : Array Oper} {os : List IOper}
theorem Looked.oper (lk : Looked P N ops os) {i : Nat} {io : IOper} (h : os[i]? = some io) : ∃ o, ops[i]? = some o ∧ compOper P N ops o = some io := by
  obtain ⟨_, h2⟩ := compOpers_get lk.comp
  obtain ⟨o, h3, h4⟩ := h2 i io h
  exact ⟨o, by simpa using h3, h4⟩
theorem Looked.size (lk : Looked P N ops os) : os.length = ops.size := by
  rw [(compOpers_get lk.comp).1]; simp
theorem lt_of_getL {α : Type} {l : List α} {i : Nat} {a : α} (h : l[i]? = some a) : i < l.length := by
  rcases Nat.lt_or_ge i l.length with h1 | h1
  · exact h1
  · rw [List.getElem?_eq_none h1] at h; cases h
theorem Looked.apart (lk : Looked P N ops os) {i j : Nat} {x y : IOper} {a b : Oper} (hij : i < j) (hx : os[i]? = some x) (hy : os[j]? = some y) (ha : ops[i]? = some a) (hb : ops[j]? = some b) (hn : ¬ Ahead ops i j) :
    (∀ d, x.dst = some d → d ∉ looksOf ops b y ∧ y.dst ≠ some d) ∧ (∀ d, y.dst = some d → d ∉ looksOf ops a x) ∧ ¬ (isHeavy x = true ∧ isHeavy y = true) ∧ ¬ (isMake x = true ∧ isHeavy y = true) ∧
      (isRead x = true → isHeavy y = true → stableAt os (looksOf ops a x) x.dst i j = true) := by
  have h := lk.pair i j hij (lt_of_getL hy)
  unfold pairOk at h
  have hn' : ((aheadOf ops.toList []).getD j 0).testBit i = false := by
    cases e : ((aheadOf ops.toList []).getD j 0).testBit i with
    | true => exact absurd e hn
    | false => rfl
  rw [hn', ha, hb, hx, hy] at h
  simp only [Bool.false_or, Bool.and_eq_true, apartOk] at h
  obtain ⟨⟨⟨⟨h1, h2⟩, h3⟩, h4⟩, h5⟩ := h
  refine ⟨fun d hd => ?_, fun d hd => ?_, ?_, ?_, fun hr hh => ?_⟩
  · rw [hd] at h1; simp only [Bool.and_eq_true, Bool.not_eq_true', bne_iff_ne, ne_eq] at h1
    exact ⟨by simpa using h1.1, h1.2⟩
  · rw [hd] at h2; simpa using h2
  · rintro ⟨e1, e2⟩; simp [e1, e2] at h3
  · rintro ⟨e1, e2⟩; simp [e1, e2] at h4
  · simpa [hr, hh] using h5
theorem noDst_spec {l : Nat} {lx : List Nat} {o : IOper} (h : noDst os l lx = true) (ho : os[l]? = some o) {d : Nat} (hd : o.dst = some d) : d ∉ lx := by
  unfold noDst at h
  rw [ho] at h
  simp only [Option.bind_some, hd] at h
  simpa using h
theorem stableAt_spec {lx : List Nat} {dx : Option Nat} {i j l : Nat} (h : stableAt os lx dx i j = true) (h1 : i ≤ l) (h2 : l ≤ j) {o : IOper} (ho : os[l]? = some o) {d : Nat} (hd : o.dst = some d) : d ∉ lx ∧ (l ≠ i → dx ≠ some d) := by
  have hl := lt_of_getL ho
  unfold stableAt at h
  rw [List.all_eq_true] at h
  have h3 := h l (List.mem_range.2 hl)
  have blt : ∀ a b : Nat, b ≤ a → Nat.blt a b = false := fun a b hab => by
    cases e : Nat.blt a b with
    | false => rfl
    | true => rw [Nat.blt_eq] at e; omega
  have e1 := blt l i h1
  have e2 := blt j l h2
  rw [e1, e2] at h3
  simp only [Bool.false_or, Bool.and_eq_true, Bool.or_eq_true] at h3
  refine ⟨noDst_spec h3.1 ho hd, fun hne he => ?_⟩
  rcases h3.2 with h4 | h4
  · exact hne (Nat.eq_of_beq_eq_true h4)
  · exact noDst_spec h4 ho hd (by simp [he])
theorem Looked.selfRead (lk : Looked P N ops os) {i : Nat} {x : IOper} {a : Oper} (hx : os[i]? = some x) (ha : ops[i]? = some a) (hr : isRead x = true) {d : Nat} (hd : x.dst = some d) : d ∉ looksOf ops a x := by
  have h := lk.self i (lt_of_getL hx)
  unfold selfOk at h
  rw [ha, hx] at h
  simp only [Bool.and_eq_true, hr, Bool.not_true, Bool.false_or] at h
  exact noDst_spec h.1 hx hd
theorem Looked.edge (lk : Looked P N ops os) {i : Nat} {a : Oper} (ha : ops[i]? = some a) {e : Edge} (he : e ∈ a.after) (hb : Region.binds .any e = true) : e.on < i := by
  have hi : i < os.length := by rw [lk.size]; exact (Array.getElem?_eq_some_iff.1 ha).1
  have h := lk.self i hi
  unfold selfOk at h
  rw [ha, List.getElem?_eq_getElem hi] at h
  simp only [Bool.and_eq_true] at h
  have h2 := (Array.all_eq_true_iff_forall_mem.1 h.2) e he
  simpa [hb, Nat.blt_eq] using h2
end
structure Nxt (ops : Array Oper) (D : Nat → Prop) (i : Nat) : Prop where
  not : ¬ D i
  ahead : ∀ l, Ahead ops l i → D l
  behind : ∀ j, D j → ¬ Ahead ops i j
def Heavy (os : List IOper) (j : Nat) : Prop := ∃ o, os[j]? = some o ∧ isHeavy o = true
def Mk (os : List IOper) (T : Nat → S V × Hp S) (j : Nat) : Prop := ∃ o, os[j]? = some o ∧ isMake o = true ∧ wanted o.guard (T j).1 = true
structure SlotInv (os : List IOper) (N : Nat) (T : Nat → S V × Hp S) (D : Nat → Prop) (m : GM) (a : Act) : Prop where
  slots : ∀ s p, p ≤ os.length → (∀ (l : Nat) o, os[l]? = some o → o.dst = some s → (l < p ↔ D l)) → VR m (ev (T p).1 (.t s)) (a.tmps.getD s undef)
  size : a.tmps.size = N
def view (T : Nat → S V × Hp S) (X : Nat → Option (Blk S)) (q : Nat) : Nat → Option (Blk S) := fun b => if b < (T q).2.n then (T q).2.get b else X b
structure HeapInv (P : Program) (os : List IOper) (T : Nat → S V × Hp S) (X : Nat → Option (Blk S)) (D : Nat → Prop) (q : Nat) (m : GM) (w : World) : Prop where
  qn : q ≤ os.length
  qlt : ∀ j, j < q → Heavy os j → D j
  qge : ∀ j, q ≤ j → Heavy os j → ¬ D j
  qh : q < os.length → Heavy os q
  fam : ∀ c, q ≤ c → c ≤ os.length → HR (CRc P) (m.cut (T c).2.n) (view T X q) w
  und : ∀ j, Mk os T j → ¬ D j → m (T j).2.n = none
  ear : ∀ b s, m b = some s → (T q).2.n ≤ b → (∃ j, D j ∧ q < j ∧ Mk os T j ∧ b = (T j).2.n) ∧ ∀ b' s', m b' = some s' → b' ≠ b → s'.cb ≠ s.cb
  dom : ∀ b s, m b = some s → b < (T os.length).2.n
section
variable {N : Nat} {ops : Array Oper} {os : List IOper} {T : Nat → S V × Hp S} {X : Nat → Option (Blk S)} {D : Nat → Prop}
theorem SlotInv.look (lk : Looked P N ops os) {m : GM} {a : Act} (si : SlotInv os N T D m a) {i : Nat} {io : IOper} {o : Oper} (hi : os[i]? = some io) (ho : ops[i]? = some o) (nx : Nxt ops D i) {s : Nat} (hs : s ∈ looksOf ops o io) :
    VR m (ev (T i).1 (.t s)) (a.tmps.getD s undef) := by
  refine si.slots s i (Nat.le_of_lt (lt_of_getL hi)) fun l ol hl hd => ?_
  obtain ⟨ocl, hcl, _⟩ := lk.oper hl
  constructor
  · intro hlt
    by_cases ha : Ahead ops l i
    · exact nx.ahead l ha
    · exact absurd hs ((lk.apart hlt hl hi hcl ho ha).1 s hd).1
  · intro hD
    rcases Nat.lt_trichotomy l i with h | h | h
    · exact h
    · subst h; exact absurd hD nx.not
    · exact absurd hs ((lk.apart h hi hl ho hcl (nx.behind l hD)).2.1 s hd)
theorem SlotInv.step (lk : Looked P N ops os) (t : Txt ops os r T X) {m m' : GM} {a : Act} (si : SlotInv os N T D m a) {i : Nat} {io : IOper} {o : Oper} (hi : os[i]? = some io) (ho : ops[i]? = some o) (nx : Nxt ops D i)
    (hdst : ∀ d, io.dst = some d → d < N) (hm : ∀ b s, m b = some s → m' b = some s) {v : V} {x : Value} (hv : VR m' v x) (hT : (T (i + 1)).1 = putD (T i).1 io.dst v) :
    SlotInv os N T (fun j => D j ∨ j = i) m' (a.put io.dst x) := by
  refine ⟨fun s p hp hw => ?_, ?_⟩
  · by_cases hs : io.dst = some s
    · have hip : i < p := (hw i io hi hs).2 (Or.inr rfl)
      have hstable : ev (T p).1 (.t s) = ev (T (i + 1)).1 (.t s) := by
        refine t.slot (i + 1) p hip hp fun l h1 h2 ol hl hd => ?_
        obtain ⟨ocl, hcl, _⟩ := lk.oper hl
        rcases (hw l ol hl hd).1 h2 with hD | rfl
        · exact (((lk.apart (by omega) hi hl ho hcl (nx.behind l hD)).1 s hs).2) hd
        · omega
      rw [hstable, hT, hs, ev_putD_eq]
      have hlt : s < a.tmps.size := by rw [si.size]; exact hdst s hs
      show VR m' v ((a.tmps.setIfInBounds s x).getD s undef)
      simpa [hlt] using hv
    · have h1 := si.slots s p hp fun l ol hl hd => by
        have := hw l ol hl hd
        constructor
        · intro h2
          rcases this.1 h2 with h3 | rfl
          · exact h3
          · rw [hi] at hl; cases hl; exact absurd hd hs
        · intro h2; exact this.2 (Or.inl h2)
      have e : (a.put io.dst x).tmps.getD s undef = a.tmps.getD s undef := by
        cases hd : io.dst with
        | none => rfl
        | some d =>
          have : d ≠ s := fun e => hs (by rw [hd, e])
          simp [Act.put, Array.getElem?_setIfInBounds_ne this]
      rw [e]
      exact h1.mono hm
  · cases hd : io.dst with
    | none => exact si.size
    | some d => simp [Act.put, si.size]
theorem Mk.n_succ (t : Txt ops os r T X) {j : Nat} (h : Mk os T j) : (T (j + 1)).2.n = (T j).2.n + 1 := by
  obtain ⟨o, h1, h2, h3⟩ := h
  have hh : isHeavy o = false := by
    cases e : isHeavy o with
    | false => rfl
    | true => have := isHeavy_kind.1 e; rw [isMake_kind.1 h2] at this; cases this
  rcases stepO_light hh (t.step j o h1) with ⟨_, e⟩ | ⟨_, _, b, e⟩
  · exact absurd ⟨h2, h3⟩ e
  · rw [e]; rfl
theorem Mk.not_heavy {j : Nat} (h : Mk os T j) : ¬ Heavy os j := by
  obtain ⟨o, h1, h2, _⟩ := h
  rintro ⟨o', h3, h4⟩
  rw [h1] at h3; cases h3
  have := isHeavy_kind.1 h4
  rw [isMake_kind.1 h2] at this; cases this
theorem Mk.lt {j : Nat} (h : Mk os T j) : j < os.length := by obtain ⟨o, h1, _⟩ := h; exact lt_of_getL h1
theorem Mk.before (t : Txt ops os r T X) {i j : Nat} (h : Mk os T i) (hij : i < j) (hj : j ≤ os.length) : (T i).2.n < (T j).2.n := by
  have := t.mono' (i + 1) j hij hj
  rw [h.n_succ t] at this
  omega
theorem Mk.inj (t : Txt ops os r T X) {i j : Nat} (h : Mk os T i) (k : Mk os T j) (e : (T i).2.n = (T j).2.n) : i = j := by
  rcases Nat.lt_trichotomy i j with h1 | h1 | h1
  · have := h.before t h1 (Nat.le_of_lt k.lt); omega
  · exact h1
  · have := k.before t h1 (Nat.le_of_lt h.lt); omega
theorem not_heavy_of {l : Nat} {o : IOper} (ho : os[l]? = some o) (h : ¬ Heavy os l) : isHeavy o = false := by
  cases e : isHeavy o with
  | false => rfl
  | true => exact absurd ⟨o, ho, e⟩ h
theorem HeapInv.pass {q : Nat} {m : GM} {w : World} (hi : HeapInv P os T X D q m w) {i : Nat} (h1 : ¬ Heavy os i) (h2 : ¬ Mk os T i) : HeapInv P os T X (fun j => D j ∨ j = i) q m w :=
  ⟨hi.qn, fun j hj hh => Or.inl (hi.qlt j hj hh), fun j hj hh => by
     rintro (h | rfl)
     · exact hi.qge j hj hh h
     · exact h1 hh, hi.qh, hi.fam, fun j hj hn => hi.und j hj fun h => hn (Or.inl h),
   fun b s hb hq => by
     obtain ⟨⟨j, e1, e2⟩, e3⟩ := hi.ear b s hb hq
     exact ⟨⟨j, Or.inl e1, e2⟩, e3⟩, hi.dom⟩
end
end
end Go.Ax
end
section
set_option linter.unusedSectionVars false
namespace Go.Ax
variable [Globs]
open Go.RowKit
section
variable {S : Type → Type} [Rep S] {P : Program} {r : Rec S}
theorem HR.adopt {CR : Nat → ICode → Code → Prop} {m : GM} {g : Nat → Option (Blk S)} {w : World} (h : HR CR m g w) {b : Nat} {s : Spot} {o : Option (Blk S)} (hlt : s.cb < w.heap.size)
    (hnew : ∀ b' s', m b' = some s' → s'.cb ≠ s.cb) (hb : m b = none) (hg : g b = o) (ho : ∀ o', o = some o' → BR CR (m.put b s) s w o') : HR CR (m.put b s) g w := by
  have hm := GM.put_mono (s := s) hb
  have old : ∀ x sx, x ≠ b → (m.put b s) x = some sx → m x = some sx := by
    intro x sx hx e; simp only [GM.put, if_neg hx] at e; exact e
  have new : ∀ sx, (m.put b s) b = some sx → sx = s := by
    intro sx e; simp only [GM.put, if_true, Option.some.injEq] at e; exact e.symm
  refine ⟨fun x sx e => ?_, fun x sx p e hp => ?_, ?_, ?_, h.gl.mono hm⟩
  · by_cases hx : x = b
    · subst hx; rw [new sx e]; exact hlt
    · exact h.lt x sx (old x sx hx e)
  · by_cases hx : x = b
    · subst hx
      rw [new sx e]
      exact ho p (hg ▸ hp)
    · exact (h.blk x sx p (old x sx hx e) hp).mono hm rfl
  · intro x y sx sy cx ax cy ay hx hy gx gy hxy hcb
    by_cases hxb : x = b
    · subst hxb
      rw [new sx hx] at hcb
      exact absurd hcb.symm (hnew y sy (old y sy (by omega) hy))
    · by_cases hyb : y = b
      · subst hyb
        rw [new sy hy] at hcb
        exact absurd hcb (hnew x sx (old x sx hxb hx))
      · exact h.sep x y sx sy cx ax cy ay (old x sx hxb hx) (old y sy hyb hy) gx gy hxy hcb
  · intro x y sx sy p q hx hy gx gy h1 h2 hxy
    by_cases hxb : x = b
    · subst hxb
      rw [new sx hx]
      exact (hnew y sy (old y sy (Ne.symm hxy) hy)).symm
    · by_cases hyb : y = b
      · subst hyb
        rw [new sy hy]
        exact hnew x sx (old x sx hxb hx)
      · exact h.sepO x y sx sy p q (old x sx hxb hx) (old y sy hyb hy) gx gy h1 h2 hxy
variable {N : Nat} {ops : Array Oper} {os : List IOper} {T : Nat → S V × Hp S} {X : Nat → Option (Blk S)} {D : Nat → Prop}
theorem cut_put_lt {m : GM} {b n : Nat} {s : Spot} (h : b < n) : (m.put b s).cut n = (m.cut n).put b s := by
  funext x
  simp only [GM.cut, GM.put]
  by_cases hx : x = b
  · subst hx; simp [h]
  · simp [hx]
theorem cut_put_ge {m : GM} {b n : Nat} {s : Spot} (h : n ≤ b) : (m.put b s).cut n = m.cut n := by
  funext x
  simp only [GM.cut, GM.put]
  by_cases hx : x = b
  · subst hx
    have : ¬ x < n := by omega
    simp [this]
  · simp [hx]
theorem HeapInv.whole {q : Nat} {m : GM} {w : World} (hi : HeapInv P os T X D q m w) : m.cut (T os.length).2.n = m := by
  funext b
  simp only [GM.cut]
  split
  · rfl
  · rename_i h
    cases e : m b with
    | none => rfl
    | some s => exact absurd (hi.dom b s e) h
theorem HeapInv.make (t : Txt ops os r T X) {q : Nat} {m : GM} {w : World} (hi : HeapInv P os T X D q m w) {i : Nat} (hk : Mk os T i) (hD : ¬ D i) {room : Nat} {ob : Obj} {blk : Blk S}
    (hview : view T X q (T i).2.n = some blk)
    (hbr : ∀ c, i < c → c ≤ os.length → BR (CRc P) ((m.cut (T c).2.n).put (T i).2.n ⟨w.heap.size, 0, room, true⟩) ⟨w.heap.size, 0, room, true⟩ (w.alloc ob) blk) :
    HeapInv P os T X (fun j => D j ∨ j = i) q (m.put (T i).2.n ⟨w.heap.size, 0, room, true⟩) (w.alloc ob) ∧ Fr m w (m.put (T i).2.n ⟨w.heap.size, 0, room, true⟩) (w.alloc ob) := by
  have hnone := hi.und i hk hD
  have hmono := GM.put_mono (s := ⟨w.heap.size, 0, room, true⟩) hnone
  have hltw : ∀ b s, m b = some s → s.cb < w.heap.size := by
    intro b s hb
    exact (hi.fam os.length hi.qn (Nat.le_refl _)).lt b s (by rw [hi.whole]; exact hb)
  have hqi : ∀ c, q ≤ c → (i < c ∨ c ≤ i) := fun c _ => by omega
  refine ⟨⟨hi.qn, fun j hj hh => Or.inl (hi.qlt j hj hh), fun j hj hh => ?_, hi.qh, fun c hc hcn => ?_, fun j hj hn => ?_, fun b s hb hq => ?_, fun b s hb => ?_⟩, ?_⟩
  · rintro (h | rfl)
    · exact hi.qge j hj hh h
    · exact hk.not_heavy hh
  · have hfr := (hi.fam c hc hcn).frame (w' := w.alloc ob) (by rw [size_alloc]; omega) (fun b s hb => heap_alloc_lt w ob (hltw b s (GM.cut_le _ _ b s hb)))
    rcases Nat.lt_or_ge i c with h | h
    · have hlt := hk.before t h hcn
      rw [cut_put_lt hlt]
      refine hfr.adopt (by rw [size_alloc]; simp) (fun b' s' hb' => ?_) ?_ hview (fun o' ho' => ?_)
      · have := hltw b' s' (GM.cut_le _ _ _ _ hb')
        simp only; omega
      · simp only [GM.cut, hnone]; split <;> rfl
      · cases ho'; exact hbr c h hcn
    · have hge := t.mono' c i h (Nat.le_of_lt hk.lt)
      rw [cut_put_ge hge]
      exact hfr
  · have hne : (T j).2.n ≠ (T i).2.n := fun e => hn (Or.inr (hj.inj t hk e))
    simp only [GM.put, if_neg hne]
    exact hi.und j hj fun h => hn (Or.inl h)
  · by_cases hbi : b = (T i).2.n
    · subst hbi
      have hs : s = ⟨w.heap.size, 0, room, true⟩ := by simpa [GM.put] using hb.symm
      subst hs
      refine ⟨⟨i, Or.inr rfl, ?_, hk, rfl⟩, fun b' s' hb' hne => ?_⟩
      · rcases Nat.lt_trichotomy q i with h | h | h
        · exact h
        · subst h; exact absurd (hi.qh hk.lt) hk.not_heavy
        · have := hk.before t h hi.qn; omega
      · simp only [GM.put, if_neg hne] at hb'
        have := hltw b' s' hb'
        simp only; omega
    · simp only [GM.put, if_neg hbi] at hb
      obtain ⟨⟨j, e1, e2⟩, e3⟩ := hi.ear b s hb hq
      refine ⟨⟨j, Or.inl e1, e2⟩, fun b' s' hb' hne => ?_⟩
      by_cases hbi' : b' = (T i).2.n
      · subst hbi'
        have hs : s' = ⟨w.heap.size, 0, room, true⟩ := by simpa [GM.put] using hb'.symm
        subst hs
        have := hltw b s hb
        simp only; omega
      · simp only [GM.put, if_neg hbi'] at hb'
        exact e3 b' s' hb' hne
  · by_cases hbi : b = (T i).2.n
    · subst hbi; exact hk.before t hk.lt (Nat.le_refl _)
    · simp only [GM.put, if_neg hbi] at hb
      exact hi.dom b s hb
  · have sp : ∀ b s, (m.put (T i).2.n ⟨w.heap.size, 0, room, true⟩) b = some s → s.cb < w.heap.size → m b = some s := by
      intro b s hb hlt
      by_cases hbi : b = (T i).2.n
      · subst hbi
        have hs : s = ⟨w.heap.size, 0, room, true⟩ := by simpa [GM.put] using hb.symm
        subst hs
        simp only at hlt; omega
      · simpa only [GM.put, if_neg hbi] using hb
    exact ⟨hmono, by rw [size_alloc]; omega, fun cb hc _ => heap_alloc_lt w ob hc, fun cb hc ⟨b, s, e, ho, hcb⟩ => ⟨b, s, sp b s e (by omega), ho, hcb⟩,
      fun b s e hc => ⟨b, s, sp b s e hc, rfl⟩, rfl, rfl, rfl⟩
theorem next_heavy (os : List IOper) : ∀ (d k : Nat), k + d = os.length → ∃ q', k ≤ q' ∧ q' ≤ os.length ∧ (∀ j, k ≤ j → j < q' → ¬ Heavy os j) ∧ (q' < os.length → Heavy os q')
  | 0, k, h => ⟨k, Nat.le_refl _, by omega, fun j h1 h2 => by omega, fun h1 => by omega⟩
  | d + 1, k, h => by
    by_cases hk : Heavy os k
    · exact ⟨k, Nat.le_refl _, by omega, fun j h1 h2 => by omega, fun _ => hk⟩
    · obtain ⟨q', h1, h2, h3, h4⟩ := next_heavy os d (k + 1) (by omega)
      refine ⟨q', by omega, h2, fun j h5 h6 => ?_, h4⟩
      rcases Nat.lt_or_ge k j with h7 | h7
      · exact h3 j h7 h6
      · obtain rfl : j = k := by omega
        exact hk
theorem HeapInv.heavy (t : Txt ops os r T X) {q : Nat} {m : GM} {w : World} (hi : HeapInv P os T X D q m w) (hq : q < os.length) (hmk : ∀ j, j < q → Mk os T j → D j) {m' : GM} {w' : World}
    (hr : HR (CRc P) m' (T (q + 1)).2.get w') (hf : Fr (m.cut (T q).2.n) w m' w') (hfr : Fresh m' (T (q + 1)).2.n) :
    ∃ q' m2, HeapInv P os T X (fun j => D j ∨ j = q) q' m2 w' ∧ Fr m w m2 w' ∧ ∀ b s, m' b = some s → m2 b = some s := by
  obtain ⟨q', k1, k2, k3, k4⟩ := next_heavy os (os.length - (q + 1)) (q + 1) (by omega)
  have hqh := hi.qh hq
  have nq : (T q).2.n ≤ (T (q + 1)).2.n := t.mono' q (q + 1) (by omega) (by omega)
  have hltw : ∀ b s, m b = some s → s.cb < w.heap.size := by
    intro b s hb
    exact (hi.fam os.length hi.qn (Nat.le_refl _)).lt b s (by rw [hi.whole]; exact hb)
  have early : ∀ b s, m b = some s → (T q).2.n ≤ b → ∃ j, D j ∧ q < j ∧ Mk os T j ∧ b = (T j).2.n ∧ (T (q + 1)).2.n ≤ b := by
    intro b s hb hge
    obtain ⟨⟨j, e1, e2, e3, e4⟩, _⟩ := hi.ear b s hb hge
    exact ⟨j, e1, e2, e3, e4, by rw [e4]; exact t.mono' (q + 1) j e2 (Nat.le_of_lt e3.lt)⟩
  have fresh_cb : ∀ b s, m b = some s → (T q).2.n ≤ b → ∀ b0 s0, (m.cut (T q).2.n) b0 = some s0 → s0.cb ≠ s.cb := by
    intro b s hb hge b0 s0 h0
    obtain ⟨h1, h2⟩ := GM.cut_lt h0
    exact (hi.ear b s hb hge).2 b0 s0 h2 (by omega)
  let m2 : GM := fun b => if b < (T (q + 1)).2.n then m' b else m b
  have m2lt : ∀ b s, b < (T (q + 1)).2.n → m2 b = some s → m' b = some s := fun b s hb h => by simpa [m2, hb] using h
  have m2ge : ∀ b, (T (q + 1)).2.n ≤ b → m2 b = m b := fun b hb => by simp only [m2]; rw [if_neg (by omega)]
  have up' : ∀ b s, m' b = some s → m2 b = some s := fun b s hb => by
    have := lt_of_fresh hfr hb
    simpa [m2, this] using hb
  have up : ∀ b s, m b = some s → m2 b = some s := by
    intro b s hb
    rcases Nat.lt_or_ge b (T q).2.n with h | h
    · exact up' b s (hf.mono b s (GM.cut_of h hb))
    · obtain ⟨_, _, _, _, _, hge⟩ := early b s hb h
      rw [m2ge b hge]; exact hb
  have apart : ∀ b s, m b = some s → (T (q + 1)).2.n ≤ b → ∀ b' s', m2 b' = some s' → b' ≠ b → s'.cb ≠ s.cb := by
    intro b s hb hge b' s' hb' hne
    have hge' : (T q).2.n ≤ b := by omega
    rcases Nat.lt_or_ge b' (T (q + 1)).2.n with h | h
    · have h1 := m2lt b' s' h hb'
      rcases Nat.lt_or_ge s'.cb w.heap.size with h2 | h2
      · obtain ⟨b0, s0, e0, c0⟩ := hf.img b' s' h1 h2
        rw [← c0]
        exact fresh_cb b s hb hge' b0 s0 e0
      · have := hltw b s hb
        omega
    · rw [m2ge b' h] at hb'
      exact (hi.ear b s hb hge').2 b' s' hb' hne
  let view' : Nat → Option (Blk S) := fun b => if b < (T (q + 1)).2.n then (T (q + 1)).2.get b else X b
  have fam' : ∀ d, q + 1 + d ≤ os.length → HR (CRc P) (m2.cut (T (q + 1 + d)).2.n) view' w' := by
    intro d
    induction d with
    | zero =>
      intro _
      have e : m2.cut (T (q + 1 + 0)).2.n = m' := by
        funext b
        simp only [GM.cut, Nat.add_zero, m2]
        split
        · rfl
        · cases hb : m' b with
          | none => rfl
          | some s => have := lt_of_fresh hfr hb; omega
      rw [e]
      refine hr.sub fun b s o hb ho => ?_
      have := lt_of_fresh hfr hb
      simpa [view', this] using ho
    | succ d ih =>
      intro hle
      have ih' := ih (by omega)
      by_cases hc : D (q + 1 + d) ∧ Mk os T (q + 1 + d)
      · -- taken in
        obtain ⟨hD, hM⟩ := hc
        have hn : (T (q + 1 + (d + 1))).2.n = (T (q + 1 + d)).2.n + 1 := hM.n_succ t
        have hge : (T (q + 1)).2.n ≤ (T (q + 1 + d)).2.n := t.mono' _ _ (by omega) (by omega)
        cases hms : m (T (q + 1 + d)).2.n with
        | none =>
          have e : m2.cut (T (q + 1 + (d + 1))).2.n = m2.cut (T (q + 1 + d)).2.n := by
            funext b
            simp only [GM.cut, hn]
            by_cases hb : b = (T (q + 1 + d)).2.n
            · subst hb; rw [if_pos (by omega), if_neg (by omega), m2ge _ hge]; exact hms
            · by_cases hb' : b < (T (q + 1 + d)).2.n
              · rw [if_pos (by omega), if_pos hb']
              · rw [if_neg (by omega), if_neg hb']
          rw [e]; exact ih'
        | some s =>
          have e : m2.cut (T (q + 1 + (d + 1))).2.n = (m2.cut (T (q + 1 + d)).2.n).put (T (q + 1 + d)).2.n s := by
            funext b
            simp only [GM.cut, GM.put, hn]
            by_cases hb : b = (T (q + 1 + d)).2.n
            · subst hb; rw [if_pos (by omega), if_pos rfl, m2ge _ hge]; exact hms
            · rw [if_neg hb]
              by_cases hb' : b < (T (q + 1 + d)).2.n
              · rw [if_pos (by omega), if_pos hb']
              · rw [if_neg (by omega), if_neg hb']
          rw [e]
          have hlts := hltw _ s hms
          have hfam := hi.fam (q + 1 + (d + 1)) (by omega) hle
          refine ih'.adopt (o := view' (T (q + 1 + d)).2.n) (by have := hf.size; omega) (fun b' s' hb' => ?_) (by simp [GM.cut]) rfl (fun o' ho' => ?_)
          · obtain ⟨h1, h2⟩ := GM.cut_lt hb'
            exact apart _ s hms hge b' s' h2 (by omega)
          · have hv : view T X q (T (q + 1 + d)).2.n = some o' := by
              have e1 : ¬ ((T (q + 1 + d)).2.n < (T (q + 1)).2.n) := by omega
              simp only [view', if_neg e1] at ho'
              simp only [view]
              rw [if_neg (by omega)]; exact ho'
            have hb0 := hfam.blk (T (q + 1 + d)).2.n s o' (GM.cut_of (by omega) hms) hv
            refine hb0.mono (fun b s hb => ?_) ?_
            · rw [← e]
              obtain ⟨h1, h2⟩ := GM.cut_lt hb
              exact GM.cut_of h1 (up b s h2)
            · refine hf.keep s.cb hlts ?_
              rintro ⟨b0, s0, e0, _, e2⟩
              exact fresh_cb _ s hms (by omega) b0 s0 e0 e2
      · have e : m2.cut (T (q + 1 + (d + 1))).2.n = m2.cut (T (q + 1 + d)).2.n := by
          funext b
          simp only [GM.cut]
          have hmn := t.mono' (q + 1 + d) (q + 1 + (d + 1)) (by omega) hle
          by_cases hb : b < (T (q + 1 + d)).2.n
          · rw [if_pos (by omega), if_pos hb]
          · rw [if_neg hb]
            split
            · rename_i hb2
              have hge : (T (q + 1)).2.n ≤ b := Nat.le_trans (t.mono' (q + 1) (q + 1 + d) (by omega) (by omega)) (by omega)
              rw [m2ge b hge]
              cases hms : m b with
              | none => rfl
              | some s =>
                obtain ⟨j, j1, j2, j3, j4, _⟩ := early b s hms (by omega)
                exfalso
                subst j4
                have hj1 : ¬ (j < q + 1 + d) := fun h => by have := j3.before t h (by omega); omega
                have hj2 : ¬ (q + 1 + d < j) := fun h => by have := t.mono' (q + 1 + (d + 1)) j (by omega) (Nat.le_of_lt j3.lt); omega
                obtain rfl : j = q + 1 + d := by omega
                exact hc ⟨j1, j3⟩
            · rfl
        rw [e]; exact ih'
  have nq' : (T (q + 1)).2.n ≤ (T q').2.n := t.mono' _ _ k1 k2
  have domm2 : ∀ b s, m2 b = some s → b < (T os.length).2.n := by
    intro b s hb
    rcases Nat.lt_or_ge b (T (q + 1)).2.n with h | h
    · exact Nat.lt_of_lt_of_le h (t.mono' _ _ hq (Nat.le_refl _))
    · rw [m2ge b h] at hb; exact hi.dom b s hb
  refine ⟨q', m2, ⟨k2, fun j hj hh => ?_, fun j hj hh => ?_, k4, fun c hc hcn => ?_, fun j hj hn => ?_, fun b s hb hge => ?_, domm2⟩, ?_, up'⟩
  · rcases Nat.lt_trichotomy j q with h | h | h
    · exact Or.inl (hi.qlt j h hh)
    · exact Or.inr h
    · exact absurd hh (k3 j h hj)
  · rintro (h | rfl)
    · exact hi.qge j (by omega) hh h
    · omega
  · have := fam' (c - (q + 1)) (by omega)
    rw [show q + 1 + (c - (q + 1)) = c by omega] at this
    refine this.sub fun b s o hb ho => ?_
    obtain ⟨_, hb2⟩ := GM.cut_lt hb
    simp only [view] at ho
    simp only [view']
    rcases Nat.lt_or_ge b (T (q + 1)).2.n with h | h
    · rw [if_pos h]
      rw [if_pos (by omega)] at ho
      rw [← t.heap (q + 1) q' k1 k2 (fun l h1 h2 ol hl => not_heavy_of hl (k3 l h1 h2)) b h]
      exact ho
    · rw [if_neg (by omega)]
      rw [m2ge b h] at hb2
      obtain ⟨j, j1, j2, j3, j4, _⟩ := early b s hb2 (by omega)
      subst j4
      split at ho
      · rename_i hlt
        have hjq : j < q' := by
          rcases Nat.lt_or_ge j q' with h1 | h1
          · exact h1
          · have := t.mono' q' j h1 (Nat.le_of_lt j3.lt); omega
        have h3 := j3
        obtain ⟨oj, e1, e2, e3⟩ := h3
        rw [t.made j oj e1 e2 e3]
        rw [← t.heap (j + 1) q' hjq k2 (fun l h1 h2 ol hl => not_heavy_of hl (k3 l (by omega) h2)) _ (by rw [j3.n_succ t]; omega)]
        exact ho
      · exact ho
  · have hjq : q < j := by
      rcases Nat.lt_trichotomy j q with h | h | h
      · exact absurd (Or.inl (hmk j h hj)) hn
      · subst h; exact absurd hqh hj.not_heavy
      · exact h
    rw [m2ge _ (t.mono' (q + 1) j hjq (Nat.le_of_lt hj.lt))]
    exact hi.und j hj fun h => hn (Or.inl h)
  · have hge1 : (T (q + 1)).2.n ≤ b := by omega
    have hb' := hb
    rw [m2ge b hge1] at hb'
    obtain ⟨j, j1, j2, j3, j4, _⟩ := early b s hb' (by omega)
    refine ⟨⟨j, Or.inl j1, ?_, j3, j4⟩, apart b s hb' hge1⟩
    subst j4
    rcases Nat.lt_trichotomy q' j with h | h | h
    · exact h
    · subst h; exact absurd (k4 j3.lt) j3.not_heavy
    · have := j3.before t h k2; omega
  · refine ⟨up, hf.size, fun cb hc hn => ?_, fun cb hc ⟨b, s, e, ho, hcb⟩ => ?_, fun b s e hc => ?_, hf.os, hf.tape, hf.output⟩
    · refine hf.keep cb hc ?_
      rintro ⟨b0, s0, e0, e1, e2⟩
      exact hn ⟨b0, s0, GM.cut_le _ _ _ _ e0, e1, e2⟩
    · rcases Nat.lt_or_ge b (T (q + 1)).2.n with h | h
      · obtain ⟨b0, s0, e0, e1, e2⟩ := hf.mine cb hc ⟨b, s, m2lt b s h e, ho, hcb⟩
        exact ⟨b0, s0, GM.cut_le _ _ _ _ e0, e1, e2⟩
      · rw [m2ge b h] at e; exact ⟨b, s, e, ho, hcb⟩
    · rcases Nat.lt_or_ge b (T (q + 1)).2.n with h | h
      · obtain ⟨b0, s0, e0, e1⟩ := hf.img b s (m2lt b s h e) hc
        exact ⟨b0, s0, GM.cut_le _ _ _ _ e0, e1⟩
      · rw [m2ge b h] at e; exact ⟨b, s, e, rfl⟩
end
end Go.Ax
end
section
set_option linter.unusedSectionVars false
namespace Go.Ax
variable [Globs]
open Go.RowKit
def maskA {S : Type → Type} [Rep S] (L : List Nat) (τ : S V) : Opd → V
  | .t s => if L.contains s then ev τ (.t s) else .undef
  | .c v => v
def maskC (L : List Nat) (a : Act) : Operand → Value
  | .tmp s => if L.contains s then a.tmps.getD s undef else undef
  | x => a.eval x
section
variable {S : Type → Type} [Rep S] {P : Program} {r : Rec S}
theorem OR.mask {L : List Nat} {m : GM} {τ : S V} {a : Act} (hgl : Gl m) (h : ∀ s ∈ L, VR m (ev τ (.t s)) (a.tmps.getD s undef)) : OR m (maskA L τ) (maskC L a) := by
  intro x y hx
  cases x with
  | tmp t =>
    simp only [opd, Option.some.injEq] at hx
    subst hx
    simp only [maskA, maskC]
    split
    · rename_i hc; exact h t (by simpa using hc)
    · exact .undef
  | const v =>
    simp only [opd] at hx
    obtain ⟨c, hc, e⟩ := Option.map_eq_some_iff.1 hx
    subst e
    exact cv_VR hc
  | func f =>
    simp only [opd, Option.some.injEq] at hx
    subst hx
    exact .func f .nil .nil
  | global g =>
    simp only [opd] at hx
    split at hx
    · rename_i hg
      cases hx
      obtain ⟨room, hm⟩ := hgl g (by simpa using hg)
      exact VR.ptr (m := m) 0 hm
    · cases hx
theorem no_select {op : Op} {io : IOp} (h : compOp P op = some io) : ∀ cs b, op ≠ .select cs b := by
  rintro cs b rfl; cases h
variable {N : Nat} {ops : Array Oper} {os : List IOper} {T : Nat → S V × Hp S} {X : Nat → Option (Blk S)} {D : Nat → Prop}
theorem mem_looks {o : Oper} {io : IOper} {s : Nat} (h : Opd.t s ∈ io.op.opds) : s ∈ looksOf ops o io := by
  unfold looksOf
  simp only [List.mem_append]
  exact Or.inl (Or.inl (Or.inl (slotsOf_mem h)))
theorem guard_looks {o : Oper} {io : IOper} {s : Nat} {want : Bool} (h : io.guard = some (s, want)) : s ∈ looksOf ops o io := by
  unfold looksOf
  simp [h]
theorem oper_looks {o : Oper} {io : IOper} {s : Nat} (h : Operand.tmp s ∈ o.op.operands) : s ∈ looksOf ops o io := by
  unfold looksOf
  simp only [List.mem_append, List.mem_filterMap]
  exact Or.inl (Or.inr ⟨.tmp s, by simpa using h, rfl⟩)
theorem maskA_eq {L : List Nat} {τ : S V} {l : List Opd} (h : ∀ s, Opd.t s ∈ l → s ∈ L) : ∀ x ∈ l, ev τ x = maskA L τ x := by
  intro x hx
  cases x with
  | t s => simp only [maskA]; rw [if_pos (by simpa using h s hx)]
  | c v => rfl
theorem wanted_same {g : Option (Nat × Bool)} {τ τ' : S V} (h : ∀ s w, g = some (s, w) → ev τ (.t s) = ev τ' (.t s)) : wanted g τ = wanted g τ' := by
  cases g with
  | none => rfl
  | some p =>
    obtain ⟨s, want⟩ := p
    have e := h s want rfl
    simp only [ev] at e
    simp only [wanted]
    cases h1 : Rep.get τ s with
    | none =>
      rw [h1] at e
      cases h2 : Rep.get τ' s with
      | none => rfl
      | some y => rw [h2] at e; simp only [Option.getD_none, Option.getD_some] at e; subst e; rfl
    | some x =>
      rw [h1] at e
      cases h2 : Rep.get τ' s with
      | none => rw [h2] at e; simp only [Option.getD_none, Option.getD_some] at e; subst e; rfl
      | some y => rw [h2] at e; simp only [Option.getD_some] at e; subst e; rfl
theorem last_heavy (os : List IOper) (i : Nat) : ∀ q, i < q → ∃ k, i ≤ k ∧ k < q ∧ (k = i ∨ Heavy os k) ∧ ∀ l, k < l → l < q → ¬ Heavy os l := by
  intro q
  induction q with
  | zero => intro h; omega
  | succ q ih =>
    intro h
    by_cases hq : i = q
    · exact ⟨i, Nat.le_refl _, h, Or.inl rfl, fun l h1 h2 => by omega⟩
    · by_cases hh : Heavy os q
      · exact ⟨q, by omega, by omega, Or.inr hh, fun l h1 h2 => by omega⟩
      · obtain ⟨k, h1, h2, h3, h4⟩ := ih (by omega)
        refine ⟨k, h1, by omega, h3, fun l h5 h6 => ?_⟩
        rcases Nat.lt_or_ge l q with h7 | h7
        · exact h4 l h5 h7
        · obtain rfl : l = q := by omega
          exact hh
theorem reOk_use (t : Txt ops os r T X) {i k : Nat} {io : IOper} {o : Oper} (hik : i ≤ k) (hk : k < os.length) (hw : wanted io.guard (T i).1 = true)
    (hst : ∀ l, i ≤ l → l ≤ k → ∀ ol, os[l]? = some ol → ∀ d, ol.dst = some d → d ∉ looksOf ops o io ∧ (l ≠ i → io.dst ≠ some d)) {v : V} (hT : (T (i + 1)).1 = putD (T i).1 io.dst v) {hh : Hp S}
    (hre : reOk io (T (k + 1)).1 hh = true) : rdO io.op (maskA (looksOf ops o io) (T i).1) hh.lget = some v := by
  have stable : ∀ s ∈ looksOf ops o io, ev (T (k + 1)).1 (.t s) = ev (T i).1 (.t s) := fun s hs =>
    t.slot i (k + 1) (by omega) hk fun l h1 h2 ol hl hd => (hst l h1 (by omega) ol hl s hd).1 hs
  unfold reOk at hre
  have hw' : wanted io.guard (T (k + 1)).1 = true := by
    rw [wanted_same (τ' := (T i).1) fun s w hg => stable s (guard_looks hg)]; exact hw
  rw [hw'] at hre
  simp only [Bool.not_true, Bool.false_or] at hre
  split at hre
  · rename_i d v' hd hv'
    have e := V.same_eq hre
    have e2 : ev (T (k + 1)).1 (.t d) = ev (T (i + 1)).1 (.t d) :=
      t.slot (i + 1) (k + 1) (by omega) hk fun l h1 h2 ol hl hd' => (hst l (by omega) (by omega) ol hl d hd').2 (by omega) hd
    rw [e2, hT, hd, ev_putD_eq] at e
    subst e
    rw [← hv']
    refine rdO_congr fun x hx => ?_
    rw [← maskA_eq (fun s h => mem_looks h) x hx]
    cases x with
    | t s => exact (stable s (mem_looks hx)).symm
    | c v => rfl
  · cases hre
theorem lget_some {h : Hp S} {b : Nat} {o : Blk S} (e : h.lget b = some o) : b < h.n ∧ h.get b = some o := by
  unfold Hp.lget at e
  cases hb : Nat.ble h.n b with
  | true => rw [hb] at e; cases e
  | false =>
    rw [hb] at e
    refine ⟨?_, e⟩
    rcases Nat.lt_or_ge b h.n with h1 | h1
    · exact h1
    · have := Nat.ble_eq_true_of_le h1; rw [hb] at this; cases this
def SameOp (opsM : Array Oper) (oM : Oper) (ops : Array Oper) (o : Oper) : Prop :=
  oM.op = o.op ∧ oM.dst = o.dst ∧ (∀ ρ, execOp ρ oM = execOp ρ o) ∧ ∀ t, Region.wanted oM (yielded opsM t) = Region.wanted o (yielded ops t)
theorem draw_step (ok : RecOk P r) (lk : Looked P N ops os) (t : Txt ops os r T X) {q : Nat} {m : GM} {a : Act} {w : World} (si : SlotInv os N T D m a) (hi : HeapInv P os T X D q m w) {i : Nat} (hlt : i < os.length)
    (nx : Nxt ops D i) {opsM : Array Oper} {iM : Nat} {oM : Oper} (hoM : opsM[iM]? = some oM) (hMo : ∀ o, ops[i]? = some o → SameOp opsM oM ops o) (b : Frame) (rest : List Nat) (k : List Item) (cs : List Frame) :
    ∃ a' w' m' q', Steps P (lone (fat b a (.inRegion opsM (iM :: rest) :: k)) cs w) (lone (fat b a' (.inRegion opsM rest :: k)) cs w') ∧ SlotInv os N T (fun j => D j ∨ j = i) m' a' ∧
      HeapInv P os T X (fun j => D j ∨ j = i) q' m' w' ∧ Fr m w m' w' ∧ a'.defers = a.defers := by
  obtain ⟨io, hio⟩ : ∃ io, os[i]? = some io := ⟨_, List.getElem?_eq_getElem hlt⟩
  obtain ⟨o, ho, hc⟩ := lk.oper hio
  obtain ⟨c1, c2, c3⟩ := compOper_spec hc
  obtain ⟨e1, e2, e3, e4⟩ := hMo o ho
  have hlook : ∀ s ∈ looksOf ops o io, VR m (ev (T i).1 (.t s)) (a.tmps.getD s undef) := fun s hs => si.look lk hio ho nx hs
  obtain ⟨mi, hfi, hwi, hgi⟩ := t.wf i (Nat.le_of_lt hlt)
  have hglc : Gl (m.cut (T i).2.n) := fun k hk => by
    obtain ⟨room, e⟩ := (hi.fam q (Nat.le_refl _) hi.qn).gl k hk
    obtain ⟨_, e2⟩ := hgi k hk
    have hki : k < (T i).2.n := by
      rcases Nat.lt_or_ge k (T i).2.n with h1 | h1
      · exact h1
      · rw [hfi k h1] at e2; cases e2
    refine ⟨room, ?_⟩
    have e3 := (GM.cut_lt e).2
    simp only [GM.cut, if_pos hki]; exact e3
  have hlookc : ∀ s ∈ looksOf ops o io, VR (m.cut (T i).2.n) (ev (T i).1 (.t s)) (a.tmps.getD s undef) := fun s hs => by
    obtain ⟨x, hx⟩ := hwi s
    exact VR.cut hfi (hlook s hs) hx
  have hor := OR.mask hglc hlookc
  have hwant := wanted_eq hc (m := m) (τ := (T i).1) (t := a.tmps) (fun j _ hg => hlook j (guard_looks hg))
  have hop : ∀ h, opF r io.op (ev (T i).1) h = opF r io.op (maskA (looksOf ops o io) (T i).1) h := fun h => opF_congr (maskA_eq fun s hs => mem_looks hs) h
  have hexec : execOp a.eval o = execOp (maskC (looksOf ops o io) a) o := by
    refine execOp_congr o (no_select c1) fun x hx => ?_
    cases x with
    | tmp s => simp only [maskC]; rw [if_pos (by simpa using oper_looks hx)]; simp [Act.eval]
    | _ => rfl
  have hstep := t.step i io hio
  have hheavy_q : Heavy os i → q = i := by
    intro hh
    rcases Nat.lt_trichotomy q i with h | h | h
    · obtain ⟨oq, hq1, hq2⟩ := hi.qh (by omega)
      obtain ⟨ocq, hcq, _⟩ := lk.oper hq1
      obtain ⟨oi, hi1, hi2⟩ := hh
      by_cases ha : Ahead ops q i
      · exact absurd (nx.ahead q ha) (hi.qge q (Nat.le_refl _) ⟨oq, hq1, hq2⟩)
      · rw [hio] at hi1; cases hi1
        exact absurd ⟨hq2, hi2⟩ (lk.apart h hq1 hio hcq ho ha).2.2.1
    · exact h
    · exact absurd (hi.qlt i h hh) nx.not
  have hmake_before : Heavy os i → ∀ j, j < i → Mk os T j → D j := by
    rintro ⟨oi, hi1, hi2⟩ j hj ⟨oj, hj1, hj2, _⟩
    rw [hio] at hi1; cases hi1
    obtain ⟨ocj, hcj, _⟩ := lk.oper hj1
    by_cases ha : Ahead ops j i
    · exact nx.ahead j ha
    · exact absurd ⟨hj2, hi2⟩ (lk.apart hj hj1 hio hcj ho ha).2.2.2.1
  have heavy_way : Heavy os i → ∀ {vc : Value} {v : V} {m' : GM} {w' : World}, Steps P (lone (fat b a (.inRegion opsM (iM :: rest) :: k)) cs w) (lone (fat b (a.put o.dst vc) (.inRegion opsM rest :: k)) cs w') →
      (T (i + 1)).1 = putD (T i).1 io.dst v → VR m' v vc → HR (CRc P) m' (T (i + 1)).2.get w' → Fr (m.cut (T i).2.n) w m' w' → Fresh m' (T (i + 1)).2.n →
      ∃ a' w' m' q', Steps P (lone (fat b a (.inRegion opsM (iM :: rest) :: k)) cs w) (lone (fat b a' (.inRegion opsM rest :: k)) cs w') ∧ SlotInv os N T (fun j => D j ∨ j = i) m' a' ∧
        HeapInv P os T X (fun j => D j ∨ j = i) q' m' w' ∧ Fr m w m' w' ∧ a'.defers = a.defers := by
    intro hh vc v m' w' hs hT hv hr' hfr hfresh
    obtain rfl := hheavy_q hh
    obtain ⟨q', m2, h1, h2, h3⟩ := hi.heavy t hlt (hmake_before hh) hr' hfr hfresh
    refine ⟨_, w', m2, q', hs, ?_, h1, h2, by cases o.dst <;> rfl⟩
    rw [← c2]
    exact si.step lk t hio ho nx (fun d hd => c3 d (c2 ▸ hd)) h2.mono (hv.mono h3) hT
  by_cases hw : wanted io.guard (T i).1 = true
  · -- it is carried out
    have hw' := hwant ▸ hw
    have hwM := (e4 a.tmps).trans hw'
    unfold stepO at hstep
    rw [if_pos hw] at hstep
    obtain ⟨⟨v, h2⟩, hv, hTe⟩ := Option.map_eq_some_iff.1 hstep
    have hT1 : (T (i + 1)).1 = putD (T i).1 io.dst v := by rw [← hTe]
    have hT2 : (T (i + 1)).2 = h2 := by rw [← hTe]
    rw [hop] at hv
    by_cases hhv : Heavy os i
    · obtain rfl := hheavy_q hhv
      have hbase : HR (CRc P) (m.cut (T q).2.n) (T q).2.get w :=
        (hi.fam q (Nat.le_refl _) hi.qn).sub fun b s o hb ho' => by
          simp only [view]; rw [if_pos (GM.cut_lt hb).1]; exact ho'
      have hfresh : Fresh (m.cut (T q).2.n) (T q).2.n := fun b hb => by simp only [GM.cut]; rw [if_neg (by omega)]
      obtain ⟨vc, w', m', h1, h3, h4, h5, h6⟩ := opCore ok hoM (e1 ▸ c1) hwM hor ((e3 _).trans (hexec.trans (e3 _).symm)) hv hbase hfresh b rest k cs
      exact heavy_way hhv (e2 ▸ h1) hT1 h3 (hT2 ▸ h4) h5 (hT2 ▸ h6)
    · have hkind : kindOf io.op ≠ .heavy := fun e => hhv ⟨io, hio, isHeavy_kind.2 e⟩
      rw [opF_light hkind] at hv
      have hd := no_defer c1
      have stv : ∀ {v : Value} {w' : World}, (execOp a.eval o).run P w = .ok (.value v) w' → step P (lone (fat b a (.inRegion opsM (iM :: rest) :: k)) cs w) = .next (lone (fat b (a.put o.dst v) (.inRegion opsM rest :: k)) cs w') := fun hx => by
        rw [← e2]
        exact st_value hoM hwM (by rw [e1]; exact hd) (by rw [e3]; exact hx)
      unfold iop at hv
      split at hv
      · -- pure
        rename_i hk
        obtain ⟨v0, hp, e⟩ := Option.map_eq_some_iff.1 hv
        cases e
        obtain ⟨x, hx, hvr⟩ := pure_sound (w := w) c1 hk hor hp
        have hnm : ¬ Mk os T i := fun ⟨o', e1, e2, _⟩ => by rw [hio] at e1; cases e1; rw [isMake_kind.1 e2] at hk; cases hk
        refine ⟨_, w, m, q, .one (stv (by rw [hexec]; exact hx)), ?_, hi.pass hhv hnm, Fr.refl _ _, by cases o.dst <;> rfl⟩
        rw [← c2]
        exact si.step lk t hio ho nx (fun d hd => c3 d (c2 ▸ hd)) (fun _ _ e => e) (hvr.mono (GM.cut_le _ _)) hT1
      · -- a read
        rename_i hk
        have hrd : isRead io = true := isRead_kind.2 hk
        have hnm : ¬ Mk os T i := fun ⟨o', e1, e2, _⟩ => by rw [hio] at e1; cases e1; rw [isMake_kind.1 e2] at hk; cases hk
        have hself : ∀ d, io.dst = some d → d ∉ looksOf ops o io := fun d hd => lk.selfRead hio ho hrd hd
        have hrd2 : rdO io.op (maskA (looksOf ops o io) (T i).1) (view T X q) = some v := by
          rcases Nat.lt_or_ge i q with hiq | hiq
          · obtain ⟨kk, k1, k2, k3, k4⟩ := last_heavy os i q hiq
            have hkl : kk < os.length := by have := hi.qn; omega
            have hle : ∀ b o', (T (kk + 1)).2.lget b = some o' → view T X q b = some o' := by
              intro b o' hb
              obtain ⟨h1, h3⟩ := lget_some hb
              have hm := t.mono' (kk + 1) q k2 hi.qn
              simp only [view]
              rw [if_pos (by omega), t.heap (kk + 1) q k2 hi.qn (fun l h5 h6 ol hl => not_heavy_of hl (k4 l (by omega) h6)) b h1]
              exact h3
            refine rdO_mono hle ?_
            rcases k3 with rfl | hkh
            · refine reOk_use t (Nat.le_refl _) hkl hw (fun l h1 h2 ol hl d hdd => ?_) hT1 (t.selfr kk io hio hrd)
              obtain rfl : l = kk := by omega
              rw [hio] at hl; cases hl
              exact ⟨hself d hdd, fun h => absurd rfl h⟩
            · rcases Nat.eq_or_lt_of_le k1 with rfl | hik
              · exact absurd hkh hhv
              · have hkh' := hkh
                obtain ⟨ok', hk1, hk2⟩ := hkh'
                obtain ⟨ock, hck, _⟩ := lk.oper hk1
                have hna : ¬ Ahead ops i kk := nx.behind kk (hi.qlt kk k2 hkh)
                have hst := (lk.apart hik hio hk1 ho hck hna).2.2.2.2 hrd hk2
                exact reOk_use t k1 hkl hw (fun l h1 h2 ol hl d hdd => stableAt_spec hst h1 h2 hl hdd) hT1 (t.rechk i kk io ok' hik hio hk1 hrd hk2 hna)
          · have hqi : q < i := by
              rcases Nat.eq_or_lt_of_le hiq with rfl | h
              · exact absurd (hi.qh hlt) hhv
              · exact h
            have hqh := hi.qh (by omega)
            have hqh' := hqh
            obtain ⟨oq, hq1, hq2⟩ := hqh'
            have hna : ¬ Ahead ops q i := fun ha => hi.qge q (Nat.le_refl _) hqh (nx.ahead q ha)
            have hle : ∀ b o', (T q).2.lget b = some o' → view T X q b = some o' := by
              intro b o' hb
              obtain ⟨h1, h3⟩ := lget_some hb
              simp only [view]
              rw [if_pos h1]; exact h3
            refine rdO_mono hle ?_
            refine reOk_use t (Nat.le_refl _) hlt hw (fun l h1 h2 ol hl d hdd => ?_) hT1 (t.back q i oq io hqi hq1 hio hq2 hrd hna)
            obtain rfl : l = i := by omega
            rw [hio] at hl; cases hl
            exact ⟨hself d hdd, fun h => absurd rfl h⟩
        have hcmax : ∃ c, q ≤ c ∧ i ≤ c ∧ c ≤ os.length := ⟨max q i, by omega, by omega, by have := hi.qn; omega⟩
        obtain ⟨c, hc1, hc2, hc3⟩ := hcmax
        obtain ⟨x, hx, hvr⟩ := read_sound (hi.fam c hc1 hc3) c1 hk (hor.mono (GM.cut_mono m (t.mono' i c hc2 hc3))) hrd2
        refine ⟨_, w, m, q, .one (stv (by rw [hexec]; exact hx)), ?_, hi.pass hhv hnm, Fr.refl _ _, by cases o.dst <;> rfl⟩
        rw [← c2]
        exact si.step lk t hio ho nx (fun d hd => c3 d (c2 ▸ hd)) (fun _ _ e => e) (hvr.mono (GM.cut_le _ _)) hT1
      · -- a block is made
        rename_i hk
        obtain ⟨⟨f, blk⟩, hp, e⟩ := Option.map_eq_some_iff.1 hv
        cases e
        have hmk : Mk os T i := ⟨io, hio, isMake_kind.2 hk, hw⟩
        have hnone := hi.und i hmk nx.not
        have hnoc : ∀ n, (m.cut n) (T i).2.n = none := fun n => by simp only [GM.cut, hnone]; split <;> rfl
        obtain ⟨room, ob, x, hx, hvr, hbr⟩ := make_new (CR := CRc P) (w := w) c1 hk hor hp (T i).2.n (hnoc _)
        have hblk : (T (i + 1)).2.get (T i).2.n = some blk := by rw [hT2, Hp.get_push, if_pos rfl]
        have hview : view T X q (T i).2.n = some blk := by
          simp only [view]
          rcases Nat.lt_or_ge i q with hiq | hiq
          · have hnh : ∀ l, i + 1 ≤ l → l < q → ∀ ol, os[l]? = some ol → isHeavy ol = false := by
              intro l h1 h3 ol hl
              refine not_heavy_of hl fun hh => ?_
              have hh' := hh
              obtain ⟨ol', e1, e2⟩ := hh'
              obtain ⟨ocl, hcl, _⟩ := lk.oper e1
              have hna : ¬ Ahead ops i l := nx.behind l (hi.qlt l h3 hh)
              exact (lk.apart (by omega) hio e1 ho hcl hna).2.2.2.1 ⟨isMake_kind.2 hk, e2⟩
            have hn1 := hmk.n_succ t
            have := t.mono' (i + 1) q hiq hi.qn
            rw [if_pos (by omega), t.heap (i + 1) q hiq hi.qn hnh _ (by omega)]
            exact hblk
          · have := t.mono' q i hiq (Nat.le_of_lt hlt)
            rw [if_neg (by omega), t.made i io hio (isMake_kind.2 hk) hw]
            exact hblk
        have hup : ∀ (n : Nat), (T i).2.n ≤ n → ∀ b' s', ((m.cut (T i).2.n).put (T i).2.n ⟨w.heap.size, 0, room, true⟩) b' = some s' → ((m.cut n).put (T i).2.n ⟨w.heap.size, 0, room, true⟩) b' = some s' := by
          intro n hn b' s' hb'
          by_cases hbi : b' = (T i).2.n
          · subst hbi; simpa [GM.put] using hb'
          · simp only [GM.put, if_neg hbi] at hb' ⊢
            exact GM.cut_mono m hn b' s' hb'
        obtain ⟨h1, h3⟩ := hi.make t hmk nx.not hview (fun c hic hcn => hbr.mono (hup _ (t.mono' i c (by omega) hcn)) rfl)
        refine ⟨_, _, _, q, .one (stv (by rw [hexec]; exact hx)), ?_, h1, h3, by cases o.dst <;> rfl⟩
        rw [← c2]
        refine si.step lk t hio ho nx (fun d hd => c3 d (c2 ▸ hd)) h3.mono (hvr.mono fun b' s' hb' => ?_) hT1
        by_cases hbi : b' = (T i).2.n
        · subst hbi; simpa [GM.put] using hb'
        · simp only [GM.put, if_neg hbi] at hb' ⊢
          exact GM.cut_le _ _ _ _ hb'
      · rename_i hk; exact absurd hk hkind
  · -- it is passed by
    have hwf : wanted io.guard (T i).1 = false := by simpa using hw
    have hw' : Region.wanted o (yielded ops a.tmps) = false := by rw [← hwant]; exact hwf
    unfold stepO at hstep
    rw [if_neg (by simp [hwf])] at hstep
    have hTe := Option.some.inj hstep
    have hT1 : (T (i + 1)).1 = putD (T i).1 io.dst .undef := by rw [← hTe]
    have hT2 : (T (i + 1)).2 = (T i).2 := by rw [← hTe]
    have hst := st_op_skip (P := P) (b := b) (a := a) (k := k) (cs := cs) (w := w) (ops := opsM) (i := iM) (rest := rest) (by simp [hoM, e4, hw'])
    simp only [hoM, Option.bind_some, e2] at hst
    by_cases hhv : Heavy os i
    · have hq := hheavy_q hhv
      refine heavy_way hhv (.one hst) hT1 (m' := m.cut (T i).2.n) (show VR _ .undef undef from .undef) ?_ (Fr.refl _ _) (fun b hb => ?_)
      · rw [hT2]
        subst hq
        exact (hi.fam q (Nat.le_refl _) hi.qn).sub fun b s o hb ho' => by
          simp only [view]; rw [if_pos (GM.cut_lt hb).1]; exact ho'
      · rw [hT2] at hb
        simp only [GM.cut]; rw [if_neg (by omega)]
    · have hnm : ¬ Mk os T i := fun ⟨o', e1, _, e3⟩ => by rw [hio] at e1; cases e1; rw [hwf] at e3; cases e3
      refine ⟨_, w, m, q, .one hst, ?_, hi.pass hhv hnm, Fr.refl _ _, by cases o.dst <;> rfl⟩
      rw [← c2]
      exact si.step lk t hio ho nx (fun d hd => c3 d (c2 ▸ hd)) (fun _ _ e => e) (show VR m .undef undef from .undef) hT1
end
end Go.Ax
end
section
set_option linter.unusedSectionVars false
namespace Go.Ax
variable [Globs]
open Go.RowKit
theorem countP_less {p : Nat → Bool} {i : Nat} (hp : p i = true) : ∀ {l : List Nat}, i ∈ l → l.countP (fun j => p j && j != i) < l.countP p
  | [], h => by cases h
  | x :: l, h => by
    rw [List.countP_cons, List.countP_cons]
    have hle : l.countP (fun j => p j && j != i) ≤ l.countP p := List.countP_mono_left fun j _ hj => by simp only [Bool.and_eq_true] at hj; exact hj.1
    by_cases hx : x = i
    · subst hx; simp [hp]; omega
    · have h' : i ∈ l := by rcases List.mem_cons.1 h with e | e
                            · exact absurd e.symm hx
                            · exact e
      have := countP_less hp h'
      by_cases hpx : p x = true
      · simp [hpx, hx]; omega
      · have hpx' : p x = false := by simpa using hpx
        simp [hpx']; omega
section
variable {S : Type → Type} [Rep S] {P : Program} {r : Rec S}
variable {N : Nat} {ops : Array Oper} {os : List IOper} {T : Nat → S V × Hp S} {X : Nat → Option (Blk S)}
def Dn (listed : Array Bool) : Nat → Prop := fun j => listed.getD j false = true
def left (ops : Array Oper) (listed : Array Bool) : Nat := (List.range ops.size).countP fun j => !listed.getD j false
structure PermR (ops opsP : Array Oper) (pi iv : Nat → Nat) : Prop where
  pv : ∀ i, pi (iv i) = i
  vp : ∀ p, iv (pi p) = p
  lt : ∀ p, p < opsP.size → pi p < ops.size
  get : ∀ i o, ops[i]? = some o → ∃ o', opsP[iv i]? = some o' ∧ SameOp ops o opsP o' ∧ (∀ e' ∈ o'.after, ∃ e ∈ o.after, e'.on = iv e.on ∧ Region.binds .any e' = Region.binds .any e) ∧
    ∀ e ∈ o.after, ∃ e' ∈ o'.after, e'.on = iv e.on ∧ Region.binds .any e' = Region.binds .any e
theorem PermR.refl (ops : Array Oper) : PermR ops ops id id :=
  ⟨fun _ => rfl, fun _ => rfl, fun _ h => h, fun i o h => ⟨o, h, ⟨rfl, rfl, fun _ => rfl, fun _ => rfl⟩, fun e he => ⟨e, he, rfl, rfl⟩, fun e he => ⟨e, he, rfl, rfl⟩⟩⟩
variable {opsP : Array Oper} {pi iv : Nat → Nat}
theorem PermR.at (pr : PermR ops opsP pi iv) {p : Nat} {o' : Oper} (h : opsP[p]? = some o') : ∃ o, ops[pi p]? = some o ∧ SameOp ops o opsP o' ∧ (∀ e' ∈ o'.after, ∃ e ∈ o.after, e'.on = iv e.on ∧ Region.binds .any e' = Region.binds .any e) ∧
    ∀ e ∈ o.after, ∃ e' ∈ o'.after, e'.on = iv e.on ∧ Region.binds .any e' = Region.binds .any e := by
  have hlt := pr.lt p (Array.getElem?_eq_some_iff.1 h).1
  have ho : ops[pi p]? = some ops[pi p] := by simp [hlt]
  obtain ⟨o2, h1, h2, h3, h4⟩ := pr.get _ _ ho
  rw [pr.vp, h] at h1
  cases h1
  exact ⟨_, ho, h2, h3, h4⟩
theorem draw_go (ok : RecOk P r) (pr : PermR ops opsP pi iv) (lk : Looked P N opsP os) (t : Txt opsP os r T X) (b : Frame) (k : List Item) (cs : List Frame) :
    ∀ (fuel tt : Nat) (listed : Array Bool) (a : Act) (w : World) (m : GM) (q : Nat), listed.size = ops.size → left ops listed ≤ fuel →
      (∀ j o, Dn listed j → ops[j]? = some o → ∀ e ∈ o.after, Region.binds .any e = true → Dn listed e.on) →
      SlotInv os N T (fun p => Dn listed (pi p)) m a → HeapInv P os T X (fun p => Dn listed (pi p)) q m w →
      ∃ a' w' m' q' D', Steps P (lone (fat b a (.inRegion ops (Region.linearise.go .any ops fuel tt listed []) :: k)) cs w) (lone (fat b a' (.inRegion ops [] :: k)) cs w') ∧ (∀ j, j < os.length → D' j) ∧
        SlotInv os N T D' m' a' ∧ HeapInv P os T X D' q' m' w' ∧ Fr m w m' w' ∧ a'.defers = a.defers := by
  intro fuel
  induction fuel with
  | zero =>
    intro tt listed a w m q hsz hl _ si hi
    refine ⟨a, w, m, q, _, Steps.refl _ _, fun j hj => ?_, si, hi, Fr.refl _ _, rfl⟩
    have h0 : left ops listed = 0 := by omega
    unfold left at h0
    rw [List.countP_eq_zero] at h0
    have := h0 (pi j) (List.mem_range.2 (pr.lt j (by rw [← lk.size]; exact hj)))
    simpa [Dn] using this
  | succ fuel ih =>
    intro tt listed a w m q hsz hl hcl si hi
    simp only [Region.linearise.go]
    have hun : ∀ j, j < ops.size → (listed.getD j true = listed.getD j false) := by
      intro j hj
      have : j < listed.size := by omega
      simp [this]
    change ∃ a' w' m' q' D', Steps P (lone (fat b a (.inRegion ops (match (Region.ready .any ops listed)[tt % (Region.ready .any ops listed).length]? with
      | some i => Region.linearise.go .any ops fuel (tt / (Region.ready .any ops listed).length) (listed.setIfInBounds i true) [i]
      | none => [].reverse) :: k)) cs w) _ ∧ _
    cases hix : (Region.ready .any ops listed)[tt % (Region.ready .any ops listed).length]? with
    | none =>
      have hnil : Region.ready .any ops listed = [] := by
        cases hr : Region.ready .any ops listed with
        | nil => rfl
        | cons x xs =>
          rw [hr] at hix
          have hlt : tt % (x :: xs).length < (x :: xs).length := Nat.mod_lt _ (by simp)
          simp at hix
          simp at hlt
          omega
      refine ⟨a, w, m, q, _, Steps.refl _ _, ?_, si, hi, Fr.refl _ _, rfl⟩
      intro j
      induction j using Nat.strongRecOn with
      | ind j ihj =>
        intro hj
        cases hd : listed.getD (pi j) false with
        | true => exact hd
        | false =>
          exfalso
          have hjs : j < opsP.size := by rw [← lk.size]; exact hj
          have hjo : opsP[j]? = some opsP[j] := by simp [hjs]
          obtain ⟨o, ho, _, _, hed⟩ := pr.at hjo
          have hmem : pi j ∈ Region.ready .any ops listed := by
            rw [mem_ready]
            refine ⟨by rw [hun (pi j) (pr.lt j hjs)]; exact hd, o, ho, fun e he hb => ?_⟩
            obtain ⟨e', he', h1, h2⟩ := hed e he
            have hlt := lk.edge (i := j) (a := opsP[j]) hjo he' (by rw [h2]; exact hb)
            have := ihj e'.on hlt (by omega)
            rw [h1] at this
            simp only [Dn, pr.pv] at this
            exact this
          rw [hnil] at hmem
          cases hmem
    | some i =>
      simp only []
      rw [linearise_go_acc, List.reverse_singleton, List.singleton_append]
      have hmem := List.mem_of_getElem? hix
      obtain ⟨hnot, o, ho, hall⟩ := mem_ready.1 hmem
      have his : i < ops.size := (Array.getElem?_eq_some_iff.1 ho).1
      obtain ⟨oP, hoP, hsame, hedP, _⟩ := pr.get i o ho
      have hil : iv i < os.length := by rw [lk.size]; exact (Array.getElem?_eq_some_iff.1 hoP).1
      rw [hun i his] at hnot
      have hclP : ∀ j o', Dn listed (pi j) → opsP[j]? = some o' → ∀ e ∈ o'.after, Region.binds .any e = true → Dn listed (pi e.on) := by
        intro j o' hj ho' e' he' hb
        obtain ⟨o2, ho2, _, h3, _⟩ := pr.at ho'
        obtain ⟨e, he, h4, h5⟩ := h3 e' he'
        rw [h4, pr.pv]
        exact hcl (pi j) o2 hj ho2 e he (by rw [← h5]; exact hb)
      have nx : Nxt opsP (fun p => Dn listed (pi p)) (iv i) := by
        have hnd : ¬ Dn listed (pi (iv i)) := by rw [pr.pv]; simp only [Dn, hnot]; simp
        exact ⟨hnd, fun l ha => Ahead.of_ready (D := fun p => Dn listed (pi p)) hclP hoP (fun e' he' hb' => by
          obtain ⟨e, he, h4, h5⟩ := hedP e' he'
          show Dn listed (pi e'.on)
          rw [h4, pr.pv]
          exact hall e he (by rw [← h5]; exact hb')) ha, fun j hj ha => hnd (Ahead.closed (D := fun p => Dn listed (pi p)) hclP j (iv i) hj ha)⟩
      obtain ⟨a1, w1, m1, q1, s1, si1, hi1, f1, d1⟩ := draw_step ok lk t si hi hil nx ho (fun o2 h2 => by rw [hoP] at h2; cases h2; exact hsame) b (Region.linearise.go .any ops fuel (tt / (Region.ready .any ops listed).length) (listed.setIfInBounds i true) []) k cs
      have hD0 : (fun j => Dn listed j ∨ j = i) = Dn (listed.setIfInBounds i true) := by
        funext j
        simp only [Dn, eq_iff_iff]
        by_cases hj : j = i
        · subst hj
          have : j < listed.size := by omega
          simp [this]
        · rw [getD_set_ne false (Ne.symm hj)]
          simp [hj]
      have hD : (fun j => Dn listed (pi j) ∨ j = iv i) = fun p => Dn (listed.setIfInBounds i true) (pi p) := by
        funext j
        rw [← hD0]
        simp only [eq_iff_iff]
        constructor
        · rintro (h | rfl)
          · exact Or.inl h
          · exact Or.inr (pr.pv i)
        · rintro (h | h)
          · exact Or.inl h
          · exact Or.inr (by rw [← h, pr.vp])
      rw [hD] at si1 hi1
      have hleft : left ops (listed.setIfInBounds i true) ≤ fuel := by
        have h1 : left ops (listed.setIfInBounds i true) = (List.range ops.size).countP fun j => (!listed.getD j false) && j != i := by
          unfold left
          congr 1
          funext j
          by_cases hj : j = i
          · subst hj
            have : j < listed.size := by omega
            simp [this]
          · rw [getD_set_ne false (Ne.symm hj)]
            simp [hj]
        have h2 := countP_less (p := fun j => !listed.getD j false) (i := i) (by simp only [hnot]; rfl) (List.mem_range.2 his)
        unfold left at hl
        omega
      have hcl1 : ∀ j o, Dn (listed.setIfInBounds i true) j → ops[j]? = some o → ∀ e ∈ o.after, Region.binds .any e = true → Dn (listed.setIfInBounds i true) e.on := by
        rw [← hD0]
        intro j o' hj ho' e he hb
        rcases hj with hj | rfl
        · exact Or.inl (hcl j o' hj ho' e he hb)
        · rw [ho] at ho'; cases ho'; exact Or.inl (hall e he hb)
      obtain ⟨a2, w2, m2, q2, D2, s2, h2, si2, hi2, f2, d2⟩ := ih (tt / (Region.ready .any ops listed).length) (listed.setIfInBounds i true) a1 w1 m1 q1 (by simp [hsz]) hleft hcl1 si1 hi1
      exact ⟨a2, w2, m2, q2, D2, s1.trans s2, h2, si2, hi2, f1.trans f2, d2.trans d1⟩
theorem compDraw_spec {ds : List DOper} (h : compDraw1 P N ops = some ds) : ∃ os, Looked P N ops os ∧ ds = mkDs os (aheadOf ops.toList []) os 0 := by
  unfold compDraw1 at h
  split at h
  · cases h
  rename_i os hos
  split at h
  case isFalse => cases h
  rename_i hall
  cases h
  rw [List.all_eq_true] at hall
  refine ⟨os, ⟨hos, fun j hj => ?_, fun i j hij hj => ?_⟩, rfl⟩
  · have := hall j (List.mem_range.2 hj)
    rw [Bool.and_eq_true] at this
    exact this.1
  · have := hall j (List.mem_range.2 hj)
    rw [Bool.and_eq_true, List.all_eq_true] at this
    exact this.2 i (List.mem_range.2 hij)
theorem drawF_sound1 (pr : PermR ops opsP pi iv) (hmx : P.follows .mixedOrders = true) (okn : RecN r) (ok : RecOk P r) {ds : List DOper} (hc : compDraw1 P N opsP = some ds) {B : Nat} {cur : Option Nat} {b : Frame} {m : GM} {τ τ' : S V} {h h' : Hp S} {a : Act} {w : World}
    (sr : SR P N B cur b m τ h a w) (hs : drawF r ds 0 [] τ h = some (τ', h')) (id : Nat) (k : List Item) (cs : List Frame) :
    ∃ a' w' m', Steps P (lone (fat b a (.code (.region id ops true) :: k)) cs w) (lone (fat b a' k) cs w') ∧ SR P N B cur b m' τ' h' a' w' ∧ Fr m w m' w' := by
  obtain ⟨os, lk, hds⟩ := compDraw_spec hc
  obtain ⟨hend, hall⟩ := drawF_spec ds 0 [] τ τ' h h' hs
  have hmap : ds.map (·.o) = os := by rw [hds]; exact mkDs_map os _ os 0
  have hlen : ds.length = os.length := by rw [← hmap]; simp
  rw [hmap, hlen] at hend
  rw [hmap] at hall
  have hget : ∀ (j : Nat) io, os[j]? = some io → ds[j]? = some (mkD os (aheadOf opsP.toList []) io j) := by
    intro j io hj
    rw [hds, mkDs_get, hj]
    simp
  let T := stp r os τ h
  have step : ∀ (j : Nat) io, os[j]? = some io → stepO r io (T j).1 (T j).2 = some (T (j + 1)) := fun j io hj => (hall j _ (hget j io hj)).1
  have mono : ∀ (j : Nat) io, os[j]? = some io → (T j).2.n ≤ (T (j + 1)).2.n := fun j io hj => stepO_n okn (step j io hj)
  have bitF : ∀ i j, ¬ Ahead opsP i j → ((aheadOf opsP.toList []).getD j 0).testBit i = false := fun i j hn => by
    cases e : ((aheadOf opsP.toList []).getD j 0).testBit i with
    | true => exact absurd e hn
    | false => rfl
  have txt : ∀ j, j ≤ os.length → ∃ a1 w1 m1, SR P N B cur b m1 (T j).1 (T j).2 a1 w1 := by
    intro j
    induction j with
    | zero => intro _; exact ⟨a, w, m, sr⟩
    | succ j ih =>
      intro hj
      obtain ⟨a1, w1, m1, sr1⟩ := ih (by omega)
      obtain ⟨io, hio⟩ : ∃ io, os[j]? = some io := ⟨_, List.getElem?_eq_getElem (by omega)⟩
      obtain ⟨o, ho, hco⟩ := lk.oper hio
      obtain ⟨a2, w2, m2, _, sr2, _⟩ := stepO_sound ok ho hco sr1 (step j io hio) [] [] []
      exact ⟨a2, w2, m2, sr2⟩
  let X : Nat → Option (Blk S) := fun b => open Classical in if hx : ∃ j, Mk os T j ∧ (T j).2.n = b then (T (hx.choose + 1)).2.get b else none
  have t0 : Txt opsP os r T (fun b => X b) := by
    have pre : ∀ {i j : Nat}, Mk os T i → Mk os T j → i < j → (T i).2.n < (T j).2.n := by
      intro i j hi hj hij
      obtain ⟨o, h1, h2, h3⟩ := hi
      have hh : isHeavy o = false := by
        cases e : isHeavy o with
        | false => rfl
        | true => have := isHeavy_kind.1 e; rw [isMake_kind.1 h2] at this; cases this
      have hn : (T (i + 1)).2.n = (T i).2.n + 1 := by
        rcases stepO_light hh (step i o h1) with ⟨_, e⟩ | ⟨_, _, b, e⟩
        · exact absurd ⟨h2, h3⟩ e
        · exact congrArg Hp.n e
      have hjl := hj.lt
      have up : ∀ d, i + 1 + d ≤ os.length → (T (i + 1)).2.n ≤ (T (i + 1 + d)).2.n := by
        intro d
        induction d with
        | zero => intro _; exact Nat.le_refl _
        | succ d ih =>
          intro hd
          obtain ⟨io, hio⟩ : ∃ io, os[i + 1 + d]? = some io := ⟨_, List.getElem?_eq_getElem (by omega)⟩
          exact Nat.le_trans (ih (by omega)) (mono _ io hio)
      have := up (j - (i + 1)) (by omega)
      rw [show i + 1 + (j - (i + 1)) = j by omega] at this
      omega
    refine ⟨step, fun i j x y hij hx hy hrx hhy hn => ?_, fun j x hx hrx => ?_, fun i j x y hij hx hy hhx hry hn => ?_, fun j hj => ?_, mono, fun j o hj hm hw => ?_⟩
    · refine (hall j _ (hget j y hy)).2.1 x ?_
      simp only [mkD, hhy, if_true, List.mem_filterMap]
      exact ⟨i, List.mem_range.2 hij, by rw [hx]; simp [hrx]; simpa using bitF i j hn⟩
    · refine (hall j _ (hget j x hx)).2.1 x ?_
      have : isHeavy x = false := by
        cases e : isHeavy x with
        | false => rfl
        | true => have := isHeavy_kind.1 e; rw [isRead_kind.1 hrx] at this; cases this
      simp [mkD, this, hrx]
    · obtain ⟨hk, h1, h2⟩ := (hall j _ (hget j y hy)).2.2 i (by
        simp only [mkD, hry, if_true, List.mem_filter]
        refine ⟨List.mem_range.2 hij, ?_⟩
        rw [hx]
        simp [hhx]
        simpa using bitF i j hn)
      rcases h2 with h2 | ⟨k', e1, _, e3⟩
      · cases h2
      · obtain rfl : k' = i := by omega
        rw [e3] at h1
        exact h1
    · obtain ⟨a1, w1, m1, sr1⟩ := txt j hj
      exact ⟨m1, sr1.fresh, fun s => ⟨_, sr1.tr s⟩, sr1.hr.gl⟩
    · have hx : ∃ j', Mk os T j' ∧ (T j').2.n = (T j).2.n := ⟨j, ⟨o, hj, hm, hw⟩, rfl⟩
      have hc := hx.choose_spec
      have e : hx.choose = j := by
        rcases Nat.lt_trichotomy hx.choose j with h1 | h1 | h1
        · have := pre hc.1 ⟨o, hj, hm, hw⟩ h1; omega
        · exact h1
        · have := pre ⟨o, hj, hm, hw⟩ hc.1 h1; omega
      show (open Classical in if hx : ∃ j', Mk os T j' ∧ (T j').2.n = (T j).2.n then (T (hx.choose + 1)).2.get (T j).2.n else none) = _
      rw [dif_pos hx, e]
  have hmono0 : ∀ c, c ≤ os.length → h.n ≤ (T c).2.n := fun c hc => t0.mono' 0 c (Nat.zero_le _) hc
  obtain ⟨q, _, q2, q3, q4⟩ := next_heavy os os.length 0 (by omega)
  have hlisted : ∀ j, ¬ Dn (Array.replicate ops.size false) j := by
    intro j
    simp only [Dn]
    rcases Nat.lt_or_ge j ops.size with h1 | h1
    · simp [h1]
    · simp [h1]
  have si : SlotInv os N T (fun p => Dn (Array.replicate ops.size false) (pi p)) m a := by
    refine ⟨fun s p hp hw => ?_, sr.size⟩
    rw [t0.slot 0 p (Nat.zero_le _) hp fun l _ h2 ol hl hd => absurd ((hw l ol hl hd).1 h2) (hlisted (pi l))]
    exact sr.tr s
  have hi : HeapInv P os T (fun b => X b) (fun p => Dn (Array.replicate ops.size false) (pi p)) q m w.drew := by
    refine ⟨q2, fun j hj hh => absurd hh (q3 j (Nat.zero_le _) hj), fun j _ _ => hlisted (pi j), q4, fun c hc hcn => ?_, fun j hj _ => sr.fresh _ (hmono0 j (Nat.le_of_lt hj.lt)), fun b s hb hq => ?_, fun b s hb => ?_⟩
    · have e : m.cut (T c).2.n = m := by
        funext b
        simp only [GM.cut]
        split
        · rfl
        · exact (sr.fresh b (by have := hmono0 c hcn; omega)).symm
      rw [e]
      have h1 := sr.hr.frame (w' := w.drew) (Nat.le_refl _) (fun _ _ _ => rfl)
      refine h1.sub fun b s o hb ho => ?_
      have hlt := lt_of_fresh sr.fresh hb
      simp only [view] at ho
      rw [if_pos (by have := hmono0 q q2; omega), t0.heap 0 q (Nat.zero_le _) q2 (fun l h1 h2 ol hl => not_heavy_of hl (q3 l h1 h2)) b hlt] at ho
      exact ho
    · have := lt_of_fresh sr.fresh hb
      have := hmono0 q q2
      omega
    · have := lt_of_fresh sr.fresh hb
      have := hmono0 os.length (Nat.le_refl _)
      omega
  obtain ⟨a', w', m', q', D', s1, hD, si', hi', f1, d1⟩ := draw_go ok pr lk t0 b k cs ops.size (w.tape w.drawn (.order b.fn id)) (Array.replicate ops.size false) a w.drew m q (by simp)
    (by unfold left; exact Nat.le_trans List.countP_le_length (by simp)) (fun j o hj => absurd hj (hlisted j)) si hi
  have f0 : Fr m w m w.drew := ⟨fun _ _ e => e, Nat.le_refl _, fun _ _ _ => rfl, fun _ _ e => e, fun b s e _ => ⟨b, s, e, rfl⟩, rfl, rfl, rfl⟩
  have fA := f0.trans f1
  have hq' : q' = os.length := by
    rcases Nat.eq_or_lt_of_le hi'.qn with e | e
    · exact e
    · exact absurd (hD q' e) (hi'.qge q' (Nat.le_refl _) (hi'.qh e))
  subst hq'
  have hT : T os.length = (τ', h') := hend
  have hτ : (T os.length).1 = τ' := by rw [hT]
  have hh : (T os.length).2 = h' := by rw [hT]
  refine ⟨a', w', m', ?_, ⟨fun s => ?_, si'.size, ?_, fun b hb => ?_, ?_, ?_, sr.kind⟩, fA⟩
  · refine .head st_region_draw ?_
    have e : Region.schedule (P.follows .mixedOrders) ops (w.tape w.drawn (.order b.fn id)) = Region.linearise.go .any ops ops.size (w.tape w.drawn (.order b.fn id)) (Array.replicate ops.size false) [] := by
      simp only [Region.schedule, hmx, Bool.true_or, if_true]
      rfl
    rw [e]
    exact s1.trans (.one st_region_end)
  · rw [← hτ]
    exact si'.slots s os.length (Nat.le_refl _) fun l o hl _ => ⟨fun _ => hD l (lt_of_getL hl), fun _ => lt_of_getL hl⟩
  · have h1 := hi'.fam os.length (Nat.le_refl _) (Nat.le_refl _)
    rw [hi'.whole] at h1
    refine h1.sub fun b s o hb ho => ?_
    simp only [view]
    rw [if_pos (hi'.dom b s hb), hh]
    exact ho
  · cases hb' : m' b with
    | none => rfl
    | some s => have := hi'.dom b s hb'; rw [hh] at this; omega
  · rw [d1]; exact sr.marks.fr fA
  · have hround := sr.round
    unfold RoundOk at hround ⊢
    cases cur with
    | none => exact hround
    | some L => obtain ⟨⟨s, e1, e2⟩, e3⟩ := hround; exact ⟨⟨s, fA.mono _ _ e1, e2⟩, by rw [d1]; exact e3⟩
theorem permOps_perm {l l' : List Nat} (h : permOk ops.size l l' = true) (hg : ∀ o ∈ ops, o.guard = none) : PermR ops (permOps l l' ops) (fun p => l.getD p p) (fun i => l'.getD i i) := by
  unfold permOk at h
  simp only [Bool.and_eq_true, List.all_eq_true, List.mem_range] at h
  obtain ⟨⟨hl, hl'⟩, hall⟩ := h
  have hl := Nat.eq_of_beq_eq_true hl
  have hl' := Nat.eq_of_beq_eq_true hl'
  have out : ∀ (k : List Nat) i, k.length ≤ i → k.getD i i = i := fun k i hi => by simp [List.getD, List.getElem?_eq_none hi]
  refine ⟨fun i => ?_, fun p => ?_, fun p hp => ?_, fun i o ho => ?_⟩
  · rcases Nat.lt_or_ge i ops.size with hi | hi
    · exact Nat.eq_of_beq_eq_true (hall i hi).1.2
    · show l.getD (l'.getD i i) (l'.getD i i) = i
      rw [out l' i (by omega), out l i (by omega)]
  · rcases Nat.lt_or_ge p ops.size with hi | hi
    · exact Nat.eq_of_beq_eq_true (hall p hi).2
    · show l'.getD (l.getD p p) (l.getD p p) = p
      rw [out l p (by omega), out l' p (by omega)]
  · have hp' : p < ops.size := by simpa [permOps, hl] using hp
    simpa [Nat.blt_eq] using (hall p hp').1.1.1
  · have his : i < ops.size := (Array.getElem?_eq_some_iff.1 ho).1
    have h1 : l'.getD i i < ops.size := by simpa [Nat.blt_eq] using (hall i his).1.1.2
    have h2 : l.getD (l'.getD i i) (l'.getD i i) = i := Nat.eq_of_beq_eq_true (hall i his).1.2
    have h3 : l[l'.getD i i]? = some i := by
      have h4 : l'.getD i i < l.length := by omega
      have h5 : l[l'.getD i i]? = some l[l'.getD i i] := List.getElem?_eq_getElem h4
      rw [List.getD, h5, Option.getD_some] at h2
      rw [h5, h2]
    have hod : ops.getD i default = o := by simp [Array.getD, his]; simpa [his] using ho
    have hgn : o.guard = none := hg o (Array.mem_of_getElem? ho)
    refine ⟨reOn l' o, ?_, ⟨rfl, rfl, fun _ => rfl, fun t => ?_⟩, fun e' he' => ?_, fun e he => ?_⟩
    · simp only [permOps, List.getElem?_toArray, List.getElem?_map, h3, Option.map_some, hod]
    · simp [Region.wanted, reOn, hgn]
    · simp only [reOn, Array.mem_map] at he'
      obtain ⟨e, he, rfl⟩ := he'
      exact ⟨e, he, rfl, rfl⟩
    · exact ⟨_, Array.mem_map.2 ⟨e, he, rfl⟩, rfl, rfl⟩
theorem drawF_sound (hmx : P.follows .mixedOrders = true) (okn : RecN r) (ok : RecOk P r) {ds : List DOper} (hc : compDraw P N ops = some ds) {B : Nat} {cur : Option Nat} {b : Frame} {m : GM} {τ τ' : S V} {h h' : Hp S} {a : Act} {w : World}
    (sr : SR P N B cur b m τ h a w) (hs : drawF r ds 0 [] τ h = some (τ', h')) (id : Nat) (k : List Item) (cs : List Frame) :
    ∃ a' w' m', Steps P (lone (fat b a (.code (.region id ops true) :: k)) cs w) (lone (fat b a' k) cs w') ∧ SR P N B cur b m' τ' h' a' w' ∧ Fr m w m' w' := by
  unfold compDraw at hc
  split at hc
  · rename_i ds' h1
    cases hc
    exact drawF_sound1 (PermR.refl ops) hmx okn ok h1 sr hs id k cs
  · unfold compDraw2 at hc
    split at hc
    · cases hc
    simp only [] at hc
    split at hc
    case isFalse => cases hc
    rename_i hif
    rw [Bool.and_eq_true] at hif
    exact drawF_sound1 (permOps_perm hif.1 (fun o ho => by
      have := List.all_eq_true.1 hif.2 o (by simpa using ho)
      simpa using this)) hmx okn ok hc sr hs id k cs
end
end Go.Ax
end
section
set_option linter.unusedSectionVars false
namespace Go.Ax
variable [Globs]
open Go.RowKit
section
variable {S : Type → Type} [Rep S] {P : Program} {r : Rec S}
theorem lone_ne {fr fr' : Frame} {cs cs' : List Frame} {w w' : World} (h : fr.todo ≠ fr'.todo) : lone fr cs w ≠ lone fr' cs' w' := by
  intro e
  simp only [lone, Machine.mk.injEq] at e
  have := e.2.1
  simp at this
  exact h (by rw [this.1])
theorem Steps.swap {A B C : Machine} (h : step P A = step P B) (hs : Steps P A C) (hn : A ≠ C) : Steps P B C := by
  obtain ⟨n, hn'⟩ := hs
  cases n with
  | zero => simp [runN] at hn'; exact absurd hn' hn
  | succ n => exact ⟨n + 1, by simpa only [runN, ← h] using hn'⟩
theorem cons_ne {α : Type} (x : α) (l : List α) : x :: l ≠ l := fun e => by
  have := congrArg List.length e
  simp at this
theorem st_rangeRound {b : Frame} {a : Act} {k : List Item} {cs : List Frame} {w : World} {f : Operand} {ps : Array Tmp} {x y : Code} {l : Nat} {mark : List Deferred} {w1 : World} (h1 : (Instr.enterLoop b.fn a.tmps ps x y b.roundOf).run P w = .ok (l, mark) w1)
    {l2 : Nat} {g : FuncId} {tmps : Array Value} {x2 y2 : Code} {w2 : World}
    (h2 : (do let d ← resolve a.eval { callee := .value f, args := #[.const (.func (.yield l) #[] #[])], argTypes := #[] } 0; invoke d.target d.args : Sem Next).run P w1 = .ok (.round l2 g tmps x2 y2) w2) :
    step P (lone (fat b a (.code (.rangeFunc f ps x y) :: k)) cs w) = .next (lone (Frame.round l2 g tmps x2 y2 .normal) (fat b { a with defers := mark ++ a.defers } (.inRangeFunc l :: k) :: cs) w2) := by
  refine step_lone_go ?_
  have he := fat_eval b { a with defers := mark ++ a.defers } (.inRangeFunc l :: k)
  simp only [fat] at he
  have he' : (Act.eval { tmps := a.tmps, defers := mark ++ a.defers }) = a.eval := by funext x; cases x <;> rfl
  simp only [stepG, stepG.exec, fat, Sem.runT_eq, h1, GStep.bare_after]
  rw [he, he']
  simp [stepG.apply, h2]
theorem rangef_sound (ok : RecOk P r) {N B : Nat} {cur : Option Nat} {b : Frame} {m : GM} {τ τ' : S V} {h h' : Hp S} {x : X} {a : Act} {w : World} {f : Operand} {f' : Opd} {ps : Array Tmp} {asg body : Code} {iasg ibody : ICode}
    (hf : opd f = some f') (hasg : compCode P N asg = some iasg) (hbody : compCode P N body = some ibody) (hps : ∀ p ∈ ps.toList, p < N) (sr : SR P N B cur b m τ h a w) (hB : B ≤ w.heap.size)
    (hs : codeF r cur (.rangef f' ps.toList iasg ibody) τ h = some (x, τ', h')) (k : List Item) (cs : List Frame) :
    ∃ a' w' m', Arr P (lone (fat b a (.code (.rangeFunc f ps asg body) :: k)) cs w) b k cs x a' w' ∧ SR P N B cur b m' τ' h' a' w' ∧ Fr m w m' w' := by
  simp only [codeF] at hs
  split at hs
  case isFalse => cases hs
  rename_i hloop
  split at hs
  case h_2 => cases hs
  rename_i v h2 hcall
  split at hs
  case h_2 => cases hs
  rename_i st p τl psl asgl bodyl hg2
  have hst : st ≠ .busy := by rintro rfl; cases hs
  have hres : x = p ∧ τ' = τ ∧ h' = h2.put h.n (.loop .exhausted p τl psl asgl bodyl) := by
    cases st <;> simp only [Option.some.injEq, Prod.mk.injEq] at hs <;> first | exact absurd rfl hst | exact ⟨hs.1.symm, hs.2.1.symm, hs.2.2.symm⟩
  obtain ⟨rfl, rfl, rfl⟩ := hres
  have main : ∀ (wd : World) (mark : List Deferred) (dblk : Nat), Fr m w m wd → HR (CRc P) m h.get wd →
      (Instr.enterLoop b.fn a.tmps ps asg body b.roundOf).run P w = .ok (wd.heap.size, mark) (wd.alloc (.loop { state := .ready, pending := none, fn := b.fn, tmps := a.tmps, params := ps, assign := asg, body := body, defers := dblk })) →
      (∀ m' w', Fr m wd m' w' → MarksOk B m' w' (mark ++ a.defers)) → (∀ L, cur = some L → mark = []) →
      ∃ a' w' m', Arr P (lone (fat b a (.code (.rangeFunc f ps asg body) :: k)) cs w) b k cs x a' w' ∧ SR P N B cur b m' τ' (h2.put h.n (.loop .exhausted x τl psl asgl bodyl)) a' w' ∧ Fr m w m' w' := by
    intro wd mark dblk frd hrd hent hmarks hmark0
    let lp : Loop := { state := .ready, pending := none, fn := b.fn, tmps := a.tmps, params := ps, assign := asg, body := body, defers := dblk }
    let s : Spot := ⟨wd.heap.size, 0, 0, true⟩
    have hnone : m h.n = none := sr.fresh h.n (Nat.le_refl _)
    have hmn := GM.put_mono (s := s) hnone
    have hbr : BR (CRc P) (m.put h.n s) s (wd.alloc (.loop lp)) (.loop .ready .normal τ' ps.toList iasg ibody : Blk S) :=
      ⟨rfl, lp, heap_alloc_at wd _, rfl, rfl, sr.tr.mono hmn, rfl, fun p hp => by show p < a.tmps.size; rw [sr.size]; exact hps p hp, by show compCode P a.tmps.size asg = _; rw [sr.size]; exact hasg, by show compCode P a.tmps.size body = _; rw [sr.size]; exact hbody⟩
    obtain ⟨hr1, fr1⟩ := hrd.alloc h.n 0 hnone (.loop .ready .normal τ' ps.toList iasg ibody) (.loop lp) hbr
    have hr1' : HR (CRc P) (m.put h.n s) (h.push (.loop .ready .normal τ' ps.toList iasg ibody)).get (wd.alloc (.loop lp)) := by
      have e : (h.push (.loop .ready .normal τ' ps.toList iasg ibody)).get = fun c => if c = h.n then some (.loop .ready .normal τ' ps.toList iasg ibody) else h.get c := by funext c; rw [Hp.get_push]
      rw [e]; exact hr1
    have hfresh1 : Fresh (m.put h.n s) (h.push (.loop .ready .normal τ' ps.toList iasg ibody)).n := by
      intro z hz
      have : h.n + 1 ≤ z := hz
      simp only [GM.put]
      rw [if_neg (by omega)]
      exact sr.fresh z (by omega)
    have hyv : VR (m.put h.n s) (.yield h.n) (.func (.yield wd.heap.size) #[] #[]) := .yield (s := s) (by simp [GM.put])
    have hfv : VR (m.put h.n s) (ev τ' f') (a.eval f) := (OR.of sr.hr.gl sr.tr f f' hf).mono hmn
    obtain ⟨nx, F, hrun, hentd, hgo⟩ := callV_sound ok hcall hfv (.cons hyv .nil) hr1' hfresh1
    have hres : (do let d ← resolve a.eval { callee := .value f, args := #[.const (.func (.yield wd.heap.size) #[] #[])], argTypes := #[] } 0; invoke d.target d.args : Sem Next).run P (wd.alloc (.loop lp)) = .ok nx (wd.alloc (.loop lp)) := by
      have e : (#[Operand.const (Value.func (Fn.yield wd.heap.size) #[] #[])] : Array Operand).map a.eval = #[Value.func (Fn.yield wd.heap.size) #[] #[]] := by simp [Act.eval]
      simp only [resolve, e]
      exact hrun
    obtain ⟨vc, w2, m2, hsteps, k1, k2, k3, k4⟩ := hgo (fat b { a with defers := mark ++ a.defers } (.inRangeFunc wd.heap.size :: k)) cs
    have hfin : (fat b { a with defers := mark ++ a.defers } (.inRangeFunc wd.heap.size :: k)).finish vc = fat b { a with defers := mark ++ a.defers } (.endRangeFunc wd.heap.size :: k) := rfl
    rw [hfin] at hsteps
    have s1 : Steps P (lone (fat b a (.code (.rangeFunc f ps asg body) :: k)) cs w) (lone (fat b { a with defers := mark ++ a.defers } (.endRangeFunc wd.heap.size :: k)) cs w2) := by
      cases hentd with
      | enter g args => exact .head (st_rangeEnter hent hres) hsteps
      | round l g t x y => exact .head (st_rangeRound hent hres) hsteps
    have hm2 : m2 h.n = some s := k3.mono h.n s (by simp [GM.put])
    obtain ⟨hown, lp2, hw2, hst2, hpend2, htr2, hps2, hpin2, hasg2, hbody2⟩ := k2.blk h.n s _ hm2 hg2
    have hlt2 := lt_of_get hw2
    have hput := k2.setObj hm2 hg2 rfl rfl (o' := .loop .exhausted x τl psl asgl bodyl) (.loop { lp2 with state := .exhausted })
      ⟨hown, _, putObj_at w2 _ _ hlt2, rfl, hpend2, htr2, hps2, hpin2, hasg2, hbody2⟩
    have hendl : (Instr.endLoop wd.heap.size).run P w2 = .ok lp2.pending (World.putObj' w2 s.cb (.loop { lp2 with state := .exhausted })) := by
      have hb : (lp2.state == LoopState.busy) = false := by
        rw [hst2]; cases st <;> first | rfl | exact absurd rfl hst
      simp only [Instr.endLoop, Sem.run_bind, run_getLoop (l := wd.heap.size) hw2, Result.andThen_ok, hb, Bool.false_eq_true, if_false]
      simp [run_setObj (r := wd.heap.size) hw2 (by simp)]
      rfl
    have frA : Fr m w m2 (World.putObj' w2 s.cb (.loop { lp2 with state := .exhausted })) := ((frd.trans fr1).trans k3).trans hput.2
    have frB : Fr m wd m2 (World.putObj' w2 s.cb (.loop { lp2 with state := .exhausted })) := (fr1.trans k3).trans hput.2
    have hhp : HR (CRc P) m2 (h2.put h.n (.loop .exhausted x τl psl asgl bodyl)).get (World.putObj' w2 s.cb (.loop { lp2 with state := .exhausted })) := by
      have e : (h2.put h.n (.loop .exhausted x τl psl asgl bodyl)).get = fun c => if c = h.n then some (.loop .exhausted x τl psl asgl bodyl) else h2.get c := by funext c; rw [Hp.get_put]
      rw [e]; exact hput.1
    refine ⟨{ a with defers := mark ++ a.defers }, _, m2, ?_, ⟨sr.tr.mono frA.mono, sr.size, hhp, k4, hmarks _ _ frB, ?_, sr.kind⟩, frA⟩
    · have s2 : ∀ j, lp2.pending = j → step P (lone (fat b { a with defers := mark ++ a.defers } (.endRangeFunc wd.heap.size :: k)) cs w2) =
          .next (lone (fat b { a with defers := mark ++ a.defers } ((j.map Item.code).toList ++ k)) cs (World.putObj' w2 s.cb (.loop { lp2 with state := .exhausted }))) := by
        rintro j rfl; exact st_endLoop hendl
      cases x with
      | normal => exact s1.trans (.one (s2 _ hpend2))
      | exit id => exact ⟨k, s1.trans (.one (s2 _ hpend2)), rfl⟩
      | ret => exact ⟨k, s1.trans (.one (s2 _ hpend2))⟩
    · have hround := sr.round
      unfold RoundOk at hround ⊢
      cases cur with
      | none => exact hround
      | some L =>
        obtain ⟨⟨s', e1, e2⟩, e3⟩ := hround
        exact ⟨⟨s', frA.mono _ _ e1, e2⟩, by show mark ++ a.defers = []; rw [hmark0 L rfl, e3]; rfl⟩
  have hround := sr.round
  cases cur with
  | none =>
    have hro : b.roundOf = none := hround
    have hkeep : ∀ cb, cb < w.heap.size → (w.alloc (.deferred (some []))).heap[cb]? = w.heap[cb]? := fun cb hc => heap_alloc_lt w _ hc
    have frd : Fr m w m (w.alloc (.deferred (some []))) :=
      ⟨fun _ _ e => e, by rw [size_alloc]; omega, fun cb hc _ => hkeep cb hc, fun _ _ e => e, fun b s e _ => ⟨b, s, e, rfl⟩, rfl, rfl, rfl⟩
    have hrd : HR (CRc P) m h.get (w.alloc (.deferred (some []))) := sr.hr.frame (by rw [size_alloc]; omega) fun b s hb => hkeep s.cb (sr.hr.lt b s hb)
    refine main (w.alloc (.deferred (some []))) [{ target := .collected w.heap.size, args := #[] }] w.heap.size frd hrd ?_ ?_ (fun L e => by cases e)
    · rw [hro]
      simp [Instr.enterLoop]
    · intro m' w' fr'
      refine MarksOk.fr ?_ fr'
      obtain ⟨rs, h1, h2, h3⟩ := sr.marks.fr frd
      refine ⟨w.heap.size :: rs, by rw [List.map_cons, h1]; rfl, ?_, ?_⟩
      · refine List.nodup_cons.2 ⟨fun hin => ?_, h2⟩
        obtain ⟨rs', e1, _, e3⟩ := sr.marks
        have : rs = rs' := by
          have := h1.symm.trans e1
          have inj : ∀ (l l' : List Nat), l.map (fun r => ({ target := .collected r, args := #[] } : Deferred)) = l'.map (fun r => ({ target := .collected r, args := #[] } : Deferred)) → l = l' := by
            intro l
            induction l with
            | nil => intro l' e; cases l' with
              | nil => rfl
              | cons _ _ => cases e
            | cons x l ih => intro l' e; cases l' with
              | nil => cases e
              | cons y l' => simp only [List.map_cons, List.cons.injEq, Deferred.mk.injEq, Target.collected.injEq] at e; rw [e.1.1, ih l' e.2]
          exact inj _ _ this
        subst this
        have := lt_of_get (e3 _ hin).2.1
        omega
      · intro r hr
        rcases List.mem_cons.1 hr with rfl | hr
        · refine ⟨hB, heap_alloc_at w _, fun b s hb e => ?_⟩
          have := sr.hr.lt b s hb
          omega
        · exact h3 r hr
  | some L =>
    obtain ⟨⟨s, hm, hro⟩, hdef⟩ := hround
    simp only [Hp.isLoop] at hloop
    split at hloop
    case h_2 => cases hloop
    rename_i stL pL τL psL asgL bodyL hgL
    obtain ⟨_, lpL, hwL, _⟩ := sr.hr.blk L s _ hm hgL
    refine main w [] lpL.defers (Fr.refl _ _) sr.hr ?_ (fun m' w' fr' => ?_) (fun _ _ => rfl)
    · rw [hro]
      simp [Instr.enterLoop, run_getLoop hwL]
    · rw [List.nil_append]; exact sr.marks.fr fr'
end
end Go.Ax
end
section
set_option linter.unusedSectionVars false
namespace Go.Ax
variable [Globs]
open Go.RowKit
section
variable {S : Type → Type} [Rep S] {P : Program} {r : Rec S}
theorem codeF_sound (hmx : P.follows .mixedOrders = true) (okn : RecN r) (ok : RecOk P r) {N B : Nat} {cur : Option Nat} {b : Frame} : ∀ (c : Code) {ic : ICode} {m : GM} {τ τ' : S V} {h h' : Hp S} {x : X} {a : Act} {w : World},
    compCode P N c = some ic → SR P N B cur b m τ h a w → B ≤ w.heap.size → codeF r cur ic τ h = some (x, τ', h') → ∀ (k : List Item) (cs : List Frame),
    ∃ a' w' m', Arr P (lone (fat b a (.code c :: k)) cs w) b k cs x a' w' ∧ SR P N B cur b m' τ' h' a' w' ∧ Fr m w m' w' := by
  intro c
  induction c with
  | skip =>
    intro ic m τ τ' h h' x a w hc sr hB hs k cs
    simp only [compCode, Option.some.injEq] at hc; subst hc
    simp only [codeF, Option.some.injEq, Prod.mk.injEq] at hs
    obtain ⟨rfl, rfl, rfl⟩ := hs
    exact ⟨a, w, m, .one st_skip, sr, Fr.refl _ _⟩
  | label l =>
    intro ic m τ τ' h h' x a w hc sr hB hs k cs
    simp only [compCode, Option.some.injEq] at hc; subst hc
    simp only [codeF, Option.some.injEq, Prod.mk.injEq] at hs
    obtain ⟨rfl, rfl, rfl⟩ := hs
    exact ⟨a, w, m, .one st_label, sr, Fr.refl _ _⟩
  | exit id =>
    intro ic m τ τ' h h' x a w hc sr hB hs k cs
    simp only [compCode, Option.some.injEq] at hc; subst hc
    simp only [codeF, Option.some.injEq, Prod.mk.injEq] at hs
    obtain ⟨rfl, rfl, rfl⟩ := hs
    exact ⟨a, w, m, ⟨k, Steps.refl _ _, rfl⟩, sr, Fr.refl _ _⟩
  | ret =>
    intro ic m τ τ' h h' x a w hc sr hB hs k cs
    simp only [compCode, Option.some.injEq] at hc; subst hc
    simp only [codeF, Option.some.injEq, Prod.mk.injEq] at hs
    obtain ⟨rfl, rfl, rfl⟩ := hs
    exact ⟨a, w, m, ⟨k, Steps.refl _ _⟩, sr, Fr.refl _ _⟩
  | region id ops d =>
    intro ic m τ τ' h h' x a w hc sr hB hs k cs
    cases d with
    | false =>
      simp only [compCode] at hc
      obtain ⟨ios, hi, rfl⟩ := Option.map_eq_some_iff.1 hc
      simp only [codeF] at hs
      split at hs
      case h_2 => cases hs
      rename_i τ1 h1 ho
      simp only [Option.some.injEq, Prod.mk.injEq] at hs
      obtain ⟨rfl, rfl, rfl⟩ := hs
      obtain ⟨a', w', m', s1, s2, s3⟩ := opsF_sound ok (k := k) (cs := cs) ops.toList 0 (fun j => by simp) ios hi m τ τ1 h h1 a w sr ho
      refine ⟨a', w', m', ?_, s2, s3⟩
      refine .head st_region ?_
      have e : List.range ops.size = List.range' 0 ops.toList.length := by simp [List.range_eq_range']
      rw [e]
      exact s1.trans (.one st_region_end)
    | true =>
      simp only [compCode] at hc
      obtain ⟨ds, hi, rfl⟩ := Option.map_eq_some_iff.1 hc
      simp only [codeF] at hs
      split at hs
      case h_2 => cases hs
      rename_i τ1 h1 ho
      simp only [Option.some.injEq, Prod.mk.injEq] at hs
      obtain ⟨rfl, rfl, rfl⟩ := hs
      exact drawF_sound hmx okn ok hi sr ho id k cs
  | seq c1 c2 ih1 ih2 =>
    intro ic m τ τ' h h' x a w hc sr hB hs k cs
    simp only [compCode] at hc
    split at hc
    case h_2 => cases hc
    rename_i i1 i2 e1 e2
    cases hc
    simp only [codeF] at hs
    split at hs
    · rename_i τ1 h1 ho
      obtain ⟨a1, w1, m1, s1, s2, s3⟩ := ih1 e1 sr hB ho (.code c2 :: k) cs
      obtain ⟨a2, w2, m2, t1, t2, t3⟩ := ih2 e2 s2 (Nat.le_trans hB s3.size) hs k cs
      exact ⟨a2, w2, m2, Arr.of_steps (.head st_seq s1) t1, t2, s3.trans t3⟩
    · rename_i hno
      obtain ⟨a1, w1, m1, s1, s2, s3⟩ := ih1 e1 sr hB hs (.code c2 :: k) cs
      refine ⟨a1, w1, m1, Arr.of_steps (.one st_seq) ?_, s2, s3⟩
      cases x with
      | normal => exact absurd hs (hno τ' h')
      | exit id => obtain ⟨k2, q1, q2⟩ := s1; exact ⟨k2, q1, q2⟩
      | ret => exact s1
  | cond q c1 c2 ih1 ih2 =>
    intro ic m τ τ' h h' x a w hc sr hB hs k cs
    simp only [compCode] at hc
    split at hc
    case h_2 => cases hc
    rename_i q' i1 i2 e0 e1 e2
    cases hc
    have hv := OR.of sr.hr.gl sr.tr q q' e0
    simp only [codeF] at hs
    split at hs
    · rename_i he
      rw [he] at hv
      obtain ⟨a1, w1, m1, s1, s2, s3⟩ := ih1 e1 sr hB hs k cs
      exact ⟨a1, w1, m1, Arr.of_steps (.one (st_cond hv.bool_inv)) s1, s2, s3⟩
    · rename_i he
      rw [he] at hv
      obtain ⟨a1, w1, m1, s1, s2, s3⟩ := ih2 e2 sr hB hs k cs
      exact ⟨a1, w1, m1, Arr.of_steps (.one (st_cond hv.bool_inv)) s1, s2, s3⟩
    · cases hs
  | block id c ih =>
    intro ic m τ τ' h h' x a w hc sr hB hs k cs
    simp only [compCode] at hc
    obtain ⟨i1, e1, rfl⟩ := Option.map_eq_some_iff.1 hc
    simp only [codeF] at hs
    split at hs
    · rename_i id' τ1 h1 ho
      obtain ⟨a1, w1, m1, ⟨k2, q1, q2⟩, s2, s3⟩ := ih e1 sr hB ho (.inBlock id :: k) cs
      split at hs
      · rename_i hid
        cases hs
        obtain rfl := Nat.eq_of_beq_eq_true hid
        refine ⟨a1, w1, m1, ?_, s2, s3⟩
        have hx : exitTo id' k2 = some k := by rw [q2]; simp [exitTo]
        exact (Steps.head st_block q1).trans (.one (st_exit hx))
      · rename_i hid
        cases hs
        refine ⟨a1, w1, m1, ⟨k2, .head st_block q1, ?_⟩, s2, s3⟩
        rw [q2]
        have hne : (id == id') = false := by
          cases hb : (id == id') with
          | false => rfl
          | true => rw [beq_iff_eq] at hb; subst hb; simp at hid
        simp [exitTo, hne]
    · rename_i hno
      obtain ⟨a1, w1, m1, s1, s2, s3⟩ := ih e1 sr hB hs (.inBlock id :: k) cs
      refine ⟨a1, w1, m1, Arr.of_steps (.one st_block) ?_, s2, s3⟩
      cases x with
      | normal => exact Steps.trans s1 (.one st_inBlock)
      | exit id' => exact absurd hs (hno id' τ' h')
      | ret => exact s1
  | loop c ih =>
    intro ic m τ τ' h h' x a w hc sr hB hs k cs
    simp only [compCode] at hc
    obtain ⟨i1, e1, rfl⟩ := Option.map_eq_some_iff.1 hc
    simp only [codeF] at hs
    split at hs
    · rename_i τ1 h1 ho
      obtain ⟨a1, w1, m1, s1, s2, s3⟩ := ih e1 sr hB ho (.inLoop c :: k) cs
      obtain ⟨a2, w2, m2, t1, t2, t3⟩ := ok.code hs (c := .loop c) (by simp only [compCode, e1, Option.map_some]) s2 (Nat.le_trans hB s3.size) k cs
      refine ⟨a2, w2, m2, Arr.of_steps (.head st_loop s1) ?_, t2, s3.trans t3⟩
      cases x with
      | normal => exact Steps.swap st_loop_at t1 (lone_ne (cons_ne _ _))
      | exit id => obtain ⟨k2, q1, q2⟩ := t1; exact ⟨k2, Steps.swap st_loop_at q1 (lone_ne (by simp [fat])), q2⟩
      | ret => obtain ⟨k2, q1⟩ := t1; exact ⟨k2, Steps.swap st_loop_at q1 (lone_ne (by simp [fat]))⟩
    · rename_i hno
      obtain ⟨a1, w1, m1, s1, s2, s3⟩ := ih e1 sr hB hs (.inLoop c :: k) cs
      refine ⟨a1, w1, m1, Arr.of_steps (.one st_loop) ?_, s2, s3⟩
      cases x with
      | normal => exact absurd hs (hno τ' h')
      | exit id => obtain ⟨k2, q1, q2⟩ := s1; exact ⟨k2, q1, q2⟩
      | ret => exact s1
  | scope c ih =>
    intro ic m τ τ' h h' x a w hc sr hB hs k cs
    simp only [compCode] at hc
    obtain ⟨i1, e1, rfl⟩ := Option.map_eq_some_iff.1 hc
    simp only [codeF] at hs
    obtain ⟨a1, w1, m1, s1, s2, s3⟩ := ih e1 sr hB hs (.inScope c :: k) cs
    refine ⟨a1, w1, m1, Arr.of_steps (.one st_scope) ?_, s2, s3⟩
    cases x with
    | normal => exact Steps.trans s1 (.one st_inScope)
    | exit id => obtain ⟨k2, q1, q2⟩ := s1; exact ⟨k2, q1, q2⟩
    | ret => exact s1
  | rangeFunc f ps x y _ _ =>
    intro ic m τ τ' h h' x' a w hc sr hB hs k cs
    simp only [compCode] at hc
    split at hc
    case h_2 => cases hc
    rename_i f' ix iy e0 e1 e2
    split at hc
    case isFalse => cases hc
    rename_i hps
    cases hc
    exact rangef_sound ok e0 e1 e2 (fun p hp => by simpa using List.all_eq_true.1 hps p hp) sr hB hs k cs
  | _ =>
    intro ic m τ τ' h h' x a w hc
    simp only [compCode] at hc
    cases hc
theorem unwind_marks {fn0 : Nat} : ∀ (rs : List Nat) (fr : Frame) (cs : List Frame) (w : World), fr.mode = .returning → fr.fn = fn0 → fr.kind = .normal → fr.defers = rs.map (fun r => ({ target := .collected r, args := #[] } : Deferred)) → rs.Nodup →
    (∀ r ∈ rs, w.heap[r]? = some (.deferred (some []))) →
    ∃ w', Steps P (lone fr cs w) (lone { fr with defers := [] } cs w') ∧ w'.heap.size = w.heap.size ∧ (∀ cb, cb ∉ rs → w'.heap[cb]? = w.heap[cb]?) ∧ w'.os = w.os ∧ w'.tape = w.tape ∧ w'.output = w.output
  | [], fr, cs, w, _, _, _, hd, _, _ => by
    refine ⟨w, ?_, rfl, fun _ _ => rfl, rfl, rfl, rfl⟩
    have : ({ fr with defers := [] } : Frame) = fr := by cases fr; simp only [List.map_nil] at hd; subst hd; rfl
    rw [this]; exact Steps.refl _ _
  | r :: rs, fr, cs, w, hm, hf, hk, hd, hn, hw => by
    rw [List.map_cons] at hd
    obtain ⟨hn1, hn2⟩ := List.nodup_cons.1 hn
    have hr := hw r (by simp)
    have ht : (Instr.takeDeferred r).run P w = .ok [] (World.putObj' w r (.deferred none)) := by
      simp [Instr.takeDeferred, run_getObj hr (by simp), run_setObj hr (by simp)]
    obtain ⟨w', h1, h2, h3, h4, h5, h6⟩ := unwind_marks rs { fr with defers := rs.map (fun r => ({ target := .collected r, args := #[] } : Deferred)) } cs (World.putObj' w r (.deferred none)) hm hf hk rfl hn2 (fun r' hr' => by
      rw [putObj_other w r r' _ (fun e => hn1 (e ▸ hr'))]
      exact hw r' (by simp [hr']))
    refine ⟨w', .head (st_collected hm hd ht) h1, h2.trans (putObj_size _ _ _), fun cb hcb => ?_, h4, h5, h6⟩
    rw [h3 cb (fun e => hcb (by simp [e])), putObj_other w r cb _ (fun e => hcb (by simp [e]))]
theorem initT_spec {m : GM} : ∀ (args : List V) (as : List Value) (i : Nat) (τ : S V), VRs m args as → ∀ j, ev (initT args i τ) (.t j) = if i ≤ j then (match args[j - i]? with | some v => v | none => ev τ (.t j)) else ev τ (.t j)
  | [], _, i, τ, .nil, j => by simp [initT]
  | v :: args, _, i, τ, .cons h hs, j => by
    simp only [initT]
    rw [initT_spec args _ (i + 1) (Rep.set τ i v) hs j, ev_set]
    by_cases h1 : i + 1 ≤ j
    · have h2 : i ≤ j := by omega
      have h3 : j ≠ i := by omega
      simp only [h1, h2, h3, if_true, if_false]
      rw [show j - i = j - (i + 1) + 1 by omega, List.getElem?_cons_succ]
    · rw [if_neg h1]
      by_cases h2 : j = i
      · subst h2; simp
      · rw [if_neg h2, if_neg (by omega)]
theorem ev_emp (j : Nat) : ev (Rep.emp : S V) (.t j) = .undef := by simp [ev, Rep.get_emp]
theorem initT_TR {m : GM} {args : List V} {as : List Value} (h : VRs m args as) (n : Nat) : TR m (initT args 0 (Rep.emp : S V)) ((⟨as⟩ : Array Value) ++ Array.replicate n undef) := by
  intro j
  rw [initT_spec args as 0 Rep.emp h j]
  simp only [Nat.zero_le, if_true, Nat.sub_zero, ev_emp]
  have hl := h.length
  cases hj : args[j]? with
  | some v =>
    obtain ⟨x, hx, hv⟩ := h.get hj
    have hlt : j < as.length := lt_of_getL hx
    simp only
    have : ((⟨as⟩ : Array Value) ++ Array.replicate n undef).getD j undef = x := by
      simp only [Array.getD_eq_getD_getElem?, Array.getElem?_append, List.size_toArray, hlt, if_true]
      simp [hx]
    rw [this]; exact hv
  | none =>
    simp only
    have hge : as.length ≤ j := by
      rw [← hl]
      rcases Nat.lt_or_ge j args.length with h1 | h1
      · rw [List.getElem?_eq_getElem h1] at hj; cases hj
      · exact h1
    have : ((⟨as⟩ : Array Value) ++ Array.replicate n undef).getD j undef = undef := by
      have h1 : ¬ j < ((⟨as⟩ : Array Value)).size := by show ¬ j < as.length; omega
      simp only [Array.getD_eq_getD_getElem?, Array.getElem?_append, if_neg h1]
      rw [Array.getElem?_replicate]
      split <;> rfl
    rw [this]; exact .undef
def resOne (t : Array Value) : ResultVar → Sem Value
  | .tmp x => pure (t.getD x undef)
  | .cell a ty => do loadVar ty (← asAddr (t.getD a undef))
theorem resF_run {m : GM} {h : Hp S} {w : World} {τ : S V} {t : Array Value} (hr : HR (CRc P) m h.get w) (ht : TR m τ t) : ∀ {rs : List ResultVar} {irs : List IRes} {vs : List V}, compRes P rs = some irs → resF τ h irs = some vs →
    ∃ xs, (rs.mapM (resOne t)).run P w = .ok xs w ∧ VRs m vs xs
  | [], irs, vs, hc, hv => by
    simp only [compRes, Option.some.injEq] at hc; subst hc
    simp only [resF, Option.some.injEq] at hv; subst hv
    exact ⟨[], by simp, .nil⟩
  | .tmp x :: rs, irs, vs, hc, hv => by
    simp only [compRes] at hc
    obtain ⟨irs', h1, rfl⟩ := Option.map_eq_some_iff.1 hc
    simp only [resF] at hv
    obtain ⟨vs', h2, rfl⟩ := Option.map_eq_some_iff.1 hv
    obtain ⟨xs, h3, h4⟩ := resF_run hr ht h1 h2
    refine ⟨t.getD x undef :: xs, ?_, .cons (ht x) h4⟩
    simp [List.mapM_cons, resOne, h3]
  | .cell x ty :: rs, irs, vs, hc, hv => by
    simp only [compRes] at hc
    split at hc
    case h_2 => cases hc
    rename_i g n irs' h0 h1
    cases hc
    simp only [resF] at hv
    split at hv
    case h_2 => cases hv
    rename_i bb oo he
    obtain ⟨v, h2, hv⟩ := Option.bind_eq_some_iff.1 hv
    obtain ⟨vs', h3, rfl⟩ := Option.map_eq_some_iff.1 hv
    obtain ⟨xs, h4, h5⟩ := resF_run hr ht h1 h3
    have hp := ht x
    rw [he] at hp
    obtain ⟨s, hs, hx⟩ := hp.ptr_inv
    obtain ⟨y, h6, h7⟩ := rdAgg_run hr h0 hs h2
    refine ⟨y :: xs, ?_, .cons h7 h5⟩
    simp only [List.mapM_cons, resOne, hx, asAddr, Sem.run_bind, Sem.run_pure, Result.andThen_ok, h6, h4]
theorem packR_VR {m : GM} : ∀ {vs : List V} {xs : List Value}, VRs m vs xs → VR m (packR vs) (if h : (⟨xs⟩ : Array Value).size = 1 then (⟨xs⟩ : Array Value)[0] else .tuple ⟨xs⟩)
  | _, _, .nil => .undef
  | _, _, .cons h .nil => h
  | _, _, .cons h (.cons h2 hs) => by
    simp only [packR]
    rw [dif_neg (by simp)]
    exact .tup (.cons h (.cons h2 hs))
def TblOk (P : Program) (ft : Nat → Option IFun) : Prop := ∀ f ifn, ft f = some ifn → ∃ fn, P.funcs[f]? = some fn ∧ compFun P fn = some ifn
theorem callF_sound (hmx : P.follows .mixedOrders = true) {ft : Nat → Option IFun} (htb : TblOk P ft) (okn : RecN r) (ok : RecOk P r) {f : Nat} {args : List V} {h h' : Hp S} {v : V} (hs : callF ft r f args h = some (v, h')) {m : GM} {w : World} {as : List Value}
    (va : VRs m args as) (hr : HR (CRc P) m h.get w) (hf : Fresh m h.n) :
    (∃ fn, P.funcs[f]? = some fn ∧ fn.body.isSome = true ∧ (fn.name == "runtime.NumGoroutine") = false) ∧
    Calls P f ⟨as⟩ w fun e w' => ∃ vc m', e = .returned vc ∧ VR m' v vc ∧ HR (CRc P) m' h'.get w' ∧ Fr m w m' w' ∧ Fresh m' h'.n := by
  unfold callF at hs
  split at hs
  · cases hs
  rename_i ifn hft
  split at hs
  case isFalse => cases hs
  rename_i hle
  obtain ⟨fn, hfn, hcf⟩ := htb f ifn hft
  unfold compFun at hcf
  split at hcf
  · cases hcf
  rename_i body hbody
  split at hcf
  · cases hcf
  rename_i hname
  split at hcf
  case h_2 => cases hcf
  rename_i ic irs hcode hres
  cases hcf
  simp only at hle hs
  have hle' : args.length ≤ fn.ntmps := Nat.le_of_ble_eq_true hle
  refine ⟨⟨fn, hfn, by rw [hbody]; rfl, by simpa using hname⟩, fun cs => ?_⟩
  let b0 : Frame := { (default : Frame) with fn := f, kind := .normal }
  let a0 : Act := { tmps := (⟨as⟩ : Array Value) ++ Array.replicate (fn.ntmps - as.length) undef, defers := [] }
  have hent : Frame.enter P f ⟨as⟩ .normal = fat b0 a0 [.code body] := by
    simp only [Frame.enter, hfn, hbody, Option.map_some, Option.getD_some, Option.bind_some]
    rfl
  have sr0 : SR P fn.ntmps w.heap.size none b0 m (initT args 0 Rep.emp) h a0 w :=
    ⟨initT_TR va _, by show ((⟨as⟩ : Array Value) ++ Array.replicate (fn.ntmps - as.length) undef).size = fn.ntmps; have := va.length; simp; omega, hr, hf, MarksOk.nil _ _ _, rfl, rfl⟩
  have fin : ∀ {x : X} {τ : S V} {h1 : Hp S}, codeF r none ic (initT args 0 Rep.emp) h = some (x, τ, h1) → (x = .normal ∨ x = .ret) → (resF τ h1 irs).map (packR ·, h1) = some (v, h') →
      ∃ e w' fr, (∃ vc m', e = .returned vc ∧ VR m' v vc ∧ HR (CRc P) m' h'.get w' ∧ Fr m w m' w' ∧ Fresh m' h'.n) ∧ Comes P (lone (Frame.enter P f ⟨as⟩ .normal) cs w) (lone fr cs w') e ∧ fr.fn = f ∧ fr.leaving P w' e := by
    intro x τ h1 hcd hx hres'
    obtain ⟨vs, hvs, e⟩ := Option.map_eq_some_iff.1 hres'
    simp only [Prod.mk.injEq] at e
    obtain ⟨rfl, rfl⟩ := e
    obtain ⟨a1, w1, m1, arr, sr1, fr1⟩ := codeF_sound hmx okn ok body hcode sr0 (Nat.le_refl _) hcd [] cs
    obtain ⟨rs, hrs, hnd, hrk⟩ := sr1.marks
    obtain ⟨todo, s1⟩ : ∃ todo, Steps P (lone (fat b0 a0 [.code body]) cs w) (lone { fat b0 a1 todo with mode := .returning } cs w1) := by
      rcases hx with rfl | rfl
      · exact ⟨[], Steps.trans arr (.one (st_end rfl))⟩
      · obtain ⟨k2, q⟩ := arr; exact ⟨_, q.trans (.one (st_ret rfl))⟩
    obtain ⟨w', u1, u2, u3, u4, u5, u6⟩ := unwind_marks (P := P) (fn0 := f) rs { fat b0 a1 todo with mode := .returning } cs w1 rfl rfl rfl hrs hnd (fun r hr => (hrk r hr).2.1)
    have hr' : HR (CRc P) m1 h1.get w' := sr1.hr.frame (by omega) fun b s hb => u3 s.cb fun hin => (hrk _ hin).2.2 b s hb rfl
    obtain ⟨xs, hx1, hx2⟩ := resF_run hr' sr1.tr hres hvs
    have hrun : (results fn a1.tmps).run P w' = .ok (if h : (⟨xs⟩ : Array Value).size = 1 then (⟨xs⟩ : Array Value)[0] else .tuple ⟨xs⟩) w' := by
      have e : results fn a1.tmps = (do let vs ← fn.results.mapM (resOne a1.tmps); pure (if h : vs.size = 1 then vs[0] else .tuple vs)) := by
        unfold results
        congr 2
      rw [e, ← Array.toArray_toList (xs := fn.results), List.mapM_toArray]
      simp [hx1]
    refine ⟨.returned _, w', { fat b0 a1 todo with mode := .returning, defers := [] }, ⟨_, m1, rfl, packR_VR hx2, hr', ?_, sr1.fresh⟩, ?_, rfl, rfl, rfl, rfl, fn, hfn, hrun⟩
    · exact ⟨fr1.mono, by have := fr1.size; omega, fun cb hc hn => by
        rw [u3 cb fun hin => by have := (hrk _ hin).1; omega]
        exact fr1.keep cb hc hn, fr1.mine, fr1.img, u4.trans fr1.os, u5.trans fr1.tape, u6.trans fr1.output⟩
    · show Steps P _ _
      rw [hent]
      exact s1.trans u1
  split at hs
  · rename_i hcd; exact fin hcd (Or.inl rfl) hs
  · rename_i hcd; exact fin hcd (Or.inr rfl) hs
  · cases hs
def CallOk (P : Program) (f : Nat) (args : List V) (h : Hp S) (v : V) (h' : Hp S) : Prop := ∀ {m : GM} {w : World} {as : List Value}, VRs m args as → HR (CRc P) m h.get w → Fresh m h.n →
    (∃ fn, P.funcs[f]? = some fn ∧ fn.body.isSome = true ∧ (fn.name == "runtime.NumGoroutine") = false) ∧
    Calls P f ⟨as⟩ w fun e w' => ∃ vc m', e = .returned vc ∧ VR m' v vc ∧ HR (CRc P) m' h'.get w' ∧ Fr m w m' w' ∧ Fresh m' h'.n
structure FtOk (P : Program) (ft : FT S) : Prop where
  tbl : TblOk P ft.fn
  n : FtN ft
  orc : ∀ f args h v h', ft.orc f args h = some (v, h') → CallOk P f args h v h'
theorem FtOk.plain {P : Program} {f : Nat → Option IFun} (h : TblOk P f) : FtOk (S := S) P f :=
  ⟨h, (fun _ _ _ _ _ h => by cases h), fun _ _ _ _ _ h => by cases h⟩
theorem callO_sound (hmx : P.follows .mixedOrders = true) {ft : FT S} (htb : FtOk P ft) (okn : RecN r) (ok : RecOk P r) {f : Nat} {args : List V} {h h' : Hp S} {v : V} (hs : callO ft r f args h = some (v, h')) : CallOk P f args h v h' := by
  unfold callO at hs
  split at hs
  · rename_i e; cases hs; exact htb.orc _ _ _ _ _ e
  · exact callF_sound hmx htb.tbl okn ok hs
theorem recN_ok (hmx : P.follows .mixedOrders = true) {ft : FT S} (htb : FtOk P ft) : ∀ n, RecOk (S := S) P (recN ft n)
  | 0 => ⟨(fun h => by cases h), (fun h => by cases h)⟩
  | n + 1 => ⟨(fun h _ _ _ va hr hf => callO_sound hmx htb (recN_n htb.n n) (recN_ok hmx htb n) h va hr hf),
      (fun h _ _ _ _ _ _ _ hc sr hB k cs => codeF_sound hmx (recN_n htb.n n) (recN_ok hmx htb n) _ hc sr hB h k cs)⟩
end
end Go.Ax
end
