/- What a text taken out of a builder leaves: its octets frozen. Places of own blocks that share nothing. Conditions: as each theorem states. -/
import Derived.Test.YtjihmonajekomaaGreatDoorAx27
namespace Go.Proofs.YtjihmonajekomaaGreatDoor.Ax
open Go Go.RowKit
set_option linter.unusedVariables false

def frzB (f : Nat) : ABlk → ABlk
  | .cells cs e fam base sh ro pl => if fam = f then .cells cs e fam base sh true false else .cells cs e fam base sh ro pl
  | b => b
/-- All blocks of a family, read only from now on. -/
def AH.freezeFam (h : AH) (f : Nat) : AH := ⟨h.next, h.blks.map (frzB f)⟩

theorem get_freezeFam (h : AH) (f i : Nat) : (h.freezeFam f).get i = frzB f (h.get i) := by
  unfold AH.get AH.freezeFam
  simp only
  split
  · rw [List.getD_eq_getElem?_getD, List.getD_eq_getElem?_getD, List.getElem?_map]
    cases h.blks[h.next - 1 - i]? <;> rfl
  · rfl

theorem frzB_eq {f : Nat} (cs : List (Option AV)) (e : TypeId) (base : Nat) (sh ro pl : Bool) : frzB f (.cells cs e f base sh ro pl) = .cells cs e f base sh true false := if_pos rfl
theorem frzB_ne {f fam : Nat} (hn : fam ≠ f) (cs : List (Option AV)) (e : TypeId) (base : Nat) (sh ro pl : Bool) : frzB f (.cells cs e fam base sh ro pl) = .cells cs e fam base sh ro pl := if_neg hn

theorem frzB_dead {f : Nat} {b : ABlk} : frzB f b = .dead ↔ b = .dead := by
  cases b <;> simp [frzB]
  split <;> simp

theorem frzB_ro {f : Nat} {b : ABlk} (h : roOf (frzB f b) = false) : roOf b = false := by
  cases b with
  | cells cs e fam base sh ro pl =>
    by_cases hf : fam = f
    · subst hf; rw [frzB_eq] at h; simp [roOf] at h
    · rw [frzB_ne hf] at h; exact h
  | _ => exact h

section
variable {P : Program} {ifs : List TypeId} {φ : Emb} {w0 w : World} {h : AH}

theorem frzB_br {f : Nat} {b : ABlk} {o : Obj} {co N : Nat} (hb : BR P ifs φ b o co N) : BR P ifs φ (frzB f b) o co N := by
  cases b with
  | cells cs e fam base sh ro pl =>
    by_cases hf : fam = f
    · subst hf
      rw [frzB_eq]
      obtain ⟨C, fr, h1, h2, h3, h4, h5, h6⟩ := hb
      exact ⟨C, fr, h1, h2, h3, fun h => (by cases h), fun h => (by cases h), h6⟩
    · rw [frzB_ne hf]; exact hb
  | _ => exact hb

theorem frzB_ni {f : Nat} {x y : ABlk} {co co' : Nat} (hn : NI x y co co') : NI (frzB f x) (frzB f y) co co' := by
  cases x with
  | dead => exact NI.of_dead_left _ _ _
  | cells cs e fam base sh ro pl =>
    cases y with
    | dead => exact NI.of_dead_right _ _ _
    | cells cs' e' fam' base' sh' ro' pl' =>
      simp only [NI] at hn
      rcases hn with ⟨rfl, rfl⟩ | ⟨rfl, rfl, h3, h4, rfl, h6⟩
      · by_cases h1 : fam = f
        · subst h1
          rw [frzB_eq]
          by_cases h2 : fam' = fam
          · subst h2; rw [frzB_eq]; simp [NI]
          · rw [frzB_ne h2]; simp [NI]
        · rw [frzB_ne h1]
          by_cases h2 : fam' = f
          · subst h2; rw [frzB_eq]; simp [NI]
          · rw [frzB_ne h2]; simp [NI]
      · by_cases h1 : fam = f
        · subst h1
          rw [frzB_eq, frzB_eq]; simp [NI]
        · rw [frzB_ne h1, frzB_ne h1]
          simp only [NI]
          exact .inr (by simp [h3, h4]; exact h6)
    | _ => simp [NI] at hn
  | _ => cases y <;> first | exact hn | exact NI.of_dead_right _ _ _ | (simp [NI] at hn; done)

/-- SOME OCTETS OF A BLOCK ARE FROZEN: its family is read only. -/
theorem Rel.freeze (hr : Rel P ifs φ w0 h w) {i b co N : Nat} (hi : φ i = some (b, co, N)) {cs : List (Option AV)} {e f base : Nat} {sh pl : Bool} (hg : h.get i = .cells cs e f base sh false pl) (off n : Nat) :
    Rel P ifs φ w0 (h.freezeFam f) (w.freeze ⟨b, off, none⟩ n) ∧ Stp φ φ w (w.freeze ⟨b, off, none⟩ n) := by
  have hB := hr.own _ _ _ _ hi (by rw [hg]; rfl)
  obtain ⟨ob, k1, k2⟩ := hr.blk _ _ _ _ hi
  rw [hg] at k2
  obtain ⟨C, fr, rfl, hN, hco, hfz, hpl, hcell⟩ := k2
  have hheap : (w.freeze ⟨b, off, none⟩ n).heap.size = w.heap.size := by
    unfold World.freeze; split <;> simp
  have hoth : ∀ q, q ≠ b → (w.freeze ⟨b, off, none⟩ n).heap[q]? = w.heap[q]? := fun q hq => by
    unfold World.freeze
    split
    · rfl
    · simp only [Array.getElem?_modify]
      rw [if_neg (fun e => hq e.symm)]
  have hat : ∃ fr', (w.freeze ⟨b, off, none⟩ n).heap[b]? = some (.cells C e fr') := by
    unfold World.freeze
    split
    · exact ⟨fr, k1⟩
    · simp only [Array.getElem?_modify, if_true, k1, Option.map_some]
      exact ⟨_, rfl⟩
  refine ⟨⟨?_, fun j b' co' N' hj => ?_, fun j hj => ?_, fun j b' co' N' hj => ?_, fun j k b' c1 c2 N1 N2 hjk h1 h2 => ?_, fun j b' co' N' hj hro => ?_⟩, ⟨Ext.refl _, by rw [hheap]; exact Nat.le_refl _, fun j b' co' N' hj _ => ⟨j, co', N', hj⟩, fun q hq hn => ?_⟩⟩
  · refine hr.below.trans ?_
    unfold World.freeze
    split
    · exact Below.refl _ _
    · exact ⟨rfl, rfl, rfl, by simp, fun k hk => by
        simp only [Array.getElem?_modify]
        rw [if_neg (by omega)]⟩
  · rw [hheap]; exact hr.dom _ _ _ _ hj
  · rw [get_freezeFam] at hj
    exact hr.all j fun e => hj (frzB_dead.2 e)
  · rw [get_freezeFam]
    obtain ⟨o, q1, q2⟩ := hr.blk _ _ _ _ hj
    by_cases hb : b' = b
    · subst hb
      obtain ⟨fr', hfr⟩ := hat
      refine ⟨_, hfr, ?_⟩
      rw [k1] at q1
      simp only [Option.some.injEq] at q1
      subst q1
      by_cases hij : i = j
      · subst hij
        rw [hg] at q2 ⊢
        obtain ⟨C2, fr2, e1, e2, e3, _, _, e6⟩ := q2
        simp only [Obj.cells.injEq] at e1
        obtain ⟨rfl, _, _⟩ := e1
        simp only [frzB, if_true]
        exact ⟨C, fr', rfl, e2, e3, fun h => (by cases h), fun h => (by cases h), e6⟩
      · have hni := hr.ni _ _ _ _ _ _ _ hij hi hj
        rw [hg] at hni
        cases hgj : h.get j with
        | dead => trivial
        | cells cs2 e2 f2 base2 sh2 ro2 pl2 =>
          rw [hgj] at hni q2
          simp only [NI] at hni
          rcases hni with ⟨h1, _⟩ | ⟨_, rfl, _, _, rfl, _⟩
          · cases h1
          · obtain ⟨C2, fr2, e1, e2, e3, _, _, e6⟩ := q2
            simp only [Obj.cells.injEq] at e1
            obtain ⟨rfl, rfl, _⟩ := e1
            simp only [frzB, if_true]
            exact ⟨C, fr', rfl, e2, e3, fun h => (by cases h), fun h => (by cases h), e6⟩
        | _ => rw [hgj] at hni; simp [NI] at hni
    · exact ⟨o, (hoth _ hb).trans q1, frzB_br q2⟩
  · rw [get_freezeFam, get_freezeFam]
    exact frzB_ni (hr.ni _ _ _ _ _ _ _ hjk h1 h2)
  · rw [get_freezeFam] at hro
    exact hr.own _ _ _ _ hj (frzB_ro hro)
  · exact hoth q fun e => hn i co N (by rw [e]; exact hi)
end

/-! ### Where a variable of a type lies -/
theorem rowAt_mono {p : Program} {fits : TypeId → Bool} : ∀ {d : Nat} {e : TypeId} {c c' off n : Nat}, rowAt p fits d e c off n = true → c ≤ c' → rowAt p fits d e c' off n = true
  | 0, _, _, _, _, _, h, _ => by simp [rowAt] at h
  | d + 1, e, c, c', off, n, h, hc => by
    unfold rowAt at h ⊢
    simp only at h ⊢
    split at h
    · cases h
    · rename_i hs
      rw [if_neg hs]
      simp only [Bool.or_eq_true, Bool.and_eq_true, decide_eq_true_eq] at h ⊢
      rcases h with ⟨⟨h1, h2⟩, h3⟩ | ⟨h1, h2⟩
      · exact .inl ⟨⟨h1, by omega⟩, h3⟩
      · exact .inr ⟨by omega, h2⟩

theorem liesAt_mono {p : Program} : ∀ {d : Nat} {e : TypeId} {c c' off : Nat} {u : TypeId} {n : Nat}, liesAt p d e c off u n = true → c ≤ c' → liesAt p d e c' off u n = true
  | 0, _, _, _, _, _, _, h, _ => by simp [liesAt] at h
  | d + 1, e, c, c', off, u, n, h, hc => by
    unfold liesAt at h ⊢
    simp only [Bool.or_eq_true] at h ⊢
    rcases h with h | h
    · exact .inl (rowAt_mono h hc)
    · refine .inr ?_
      split at h
      · exact liesAt_mono h hc
      · cases h
end Go.Proofs.YtjihmonajekomaaGreatDoor.Ax
