import Derived.Test.YtbgnifoklhediaaGreatDoorA4
import Derived.WalkKit
import Derived.ProofKit
import Derived.JoinedCond
set_option linter.unusedSectionVars false
set_option linter.unusedVariables false
set_option linter.unusedSimpArgs false
section
set_option linter.unusedSectionVars false
namespace Go.Ax
variable [Globs]
open Go.RowKit Go.ChangeShapes Go.WideShapes
open Go.Proofs.YtbgnifoklhediaaGreatDoor
theorem okCell_row {P : Program} {W : World} {r : Reach} {base : Nat} {u : TypeId} {a : Addr} {l c : Nat} (h : Cell.okWide P W r base u (.slice (some a) l c)) : HasRow W := by
  have key : ∀ e n, W.has P r base a e n → HasRow W := by
    rintro e n ⟨_, _, row, cells, hs, _⟩
    unfold World.shape? at hs
    split at hs
    · rename_i c el fz he; exact ⟨_, _, _, _, he⟩
    · cases hs
  unfold Cell.okWide at h
  split at h
  all_goals first
    | (rename_i he; cases he; done)
    | (rename_i _ he; cases he; done)
    | (rename_i _ _ he; cases he; done)
    | skip
  unfold Cell.ok at h
  split at h
  all_goals first
    | exact h.elim
    | (rename_i he; cases he; exact key _ _ h.2.2)
    | exact key _ _ h.2.2
    | (rename_i he; cases he; done)
    | (rename_i _ he; cases he; done)
    | (rename_i _ _ he; cases he; done)
    | (rename_i _ _ _ he; cases he; done)
    | (rename_i _ _ _ _ he; cases he; done)
    | (rename_i _ _ _ _ _ he; cases he; done)
    | (rename_i _ _ _ _ _ _ he; cases he; done)
    | (simp_all; done)
theorem root_calls {H : Type} {enc : TypeId × Value → H} {P : Program} (hmx : P.follows .mixedOrders = true) {ft : FT FnR} (htb : FtOk P ft) {tb : Nat → List V} {f F : Nat} {T : TypeId} {tys : List Ty} {fs : Array Field} (hT : tyOf P F T = some tys) (hst : P.underlying T = some (.struct fs))
    (hroot : ∀ (g : Gz) vs b, Ax.Row g tys vs b → b ≤ 1048576 → TabG tb g → GOk g → WF ft g f [.agg vs] [] fun v _ => v = .bool true) {W : World} {base : Nat} {v0 : Value} {d : DataW H} {ps : List MemPlace} (hok : Value.okWide P W .any base T v0)
    (hd : DataW.Trod enc P W 0 (fun _ => true) true T v0 d ps) (hb : Rows.uptoBulk d ≤ 1048576) (hstart : ∃ n0 g0 m0, Inp P W n0 g0 m0 ∧ TabG tb g0) : Calls P f #[v0] W fun e w' => e = .returned (.bool true) ∧ Below W.heap.size W w' := by
  obtain ⟨cs, rfl, _, ts, _, _, hcell⟩ : ∃ cs, v0 = .agg cs ∧ cs.size = P.cellsOf T ∧ Row.okWide P W .any base T cs := by
    unfold Value.okWide at hok; rw [hst] at hok; exact hok
  obtain ⟨N, hN⟩ := hd
  obtain ⟨n0, g0, m0, hi0, ht0⟩ := hstart
  obtain ⟨n, g, m, vs, hi, hext, hv, hrow, _⟩ := one_ok (enc := enc) (P := P) (w := W) N F T _ d ps tys hN hT (fun a l c hm => by
    obtain ⟨i, hi⟩ := List.getElem?_of_mem hm
    have hi' : cs[i]? = some (Value.slice (some a) l c) := by rw [← Array.getElem?_toList]; exact hi
    obtain ⟨u, _, hu⟩ := hcell i _ hi'
    exact okCell_row hu) n0 _ _ hi0
  let h0 : HP := ⟨n, ⟨g⟩⟩
  have hsat : Sat g [] h0 := ⟨fun b o e => ⟨(by
    rcases Nat.lt_or_ge b n with h3 | h3
    · exact h3
    · rw [(hi.out b h3).1] at e; cases e), e⟩, by simp, by simp⟩
  have hg : GOk g := by
    intro b o e
    have hbn := (hsat.fz b o e).1
    obtain ⟨s, cs, h1, _, _, _, _, h6⟩ := hi.in_ b hbn
    rw [h1] at e; cases e
    exact ⟨cs, _, rfl, Or.inl rfl, h6⟩
  obtain ⟨N', v, h1, M1, hrun, _, _, hvt⟩ := hroot g vs _ hrow hb (fun k hk => hext.g k _ (ht0 k hk)) hg h0 hsat
  subst hvt
  have hvr : VRs m [.agg vs] [.agg cs] := .cons (.agg hv) .nil
  obtain ⟨_, hc⟩ := (recN_ok hmx htb N').call hrun hvr (show HR (CRc P) m h0.get W from hi.hr) (fun b hb => (hi.out b hb).2)
  refine hc.mono fun e w' ⟨vc, m', he, hv', _, fr, _⟩ => ?_
  refine ⟨by cases hv'; exact he, ⟨fr.os, fr.tape, fr.output, fr.size, fun k hk => fr.keep k hk ?_⟩⟩
  rintro ⟨b, s, e1, e2, _⟩
  rcases Nat.lt_or_ge b n with h3 | h3
  · obtain ⟨s', _, _, h5, h6, _⟩ := hi.in_ b h3
    rw [e1] at h5; cases h5
    rw [h6] at e2; cases e2
  · rw [(hi.out b h3).2] at e1; cases e1
end Go.Ax
end
