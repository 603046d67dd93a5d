/- An append: in place, or into new memory, it is a new block of the evaluator's. Conditions: as each theorem states. -/
import Derived.Test.YtjihmonajekomaaGreatDoorAx4
namespace Go.Proofs.YtjihmonajekomaaGreatDoor.Ax
open Go Go.RowKit
set_option linter.unusedVariables false

/-- Knows no more than the other. -/
def Wk (x y : ABlk) : Prop :=
  x = y ∨ ∃ cs cs' e f base sh sh' ro pl, y = .cells cs e f base sh ro pl ∧ x = .cells cs' e f base sh' ro pl ∧ cs'.length = cs.length ∧ (sh = true → sh' = true) ∧ ∀ (j : Nat) (v : AV), cs'[j]? = some (some v) → cs[j]? = some (some v)

section
variable {P : Program} {ifs : List TypeId} {φ : Emb} {w0 w : World} {h h' : AH}

theorem Wk.dead {x y : ABlk} (k : Wk x y) : x = .dead ↔ y = .dead := by
  rcases k with rfl | ⟨_, _, _, _, _, _, _, _, _, rfl, rfl, _⟩ <;> simp

theorem Wk.ro {x y : ABlk} (k : Wk x y) : roOf x = roOf y := by
  rcases k with rfl | ⟨_, _, _, _, _, _, _, _, _, rfl, rfl, _⟩ <;> simp [roOf]

theorem Wk.br {x y : ABlk} (k : Wk x y) {o : Obj} {co N : Nat} (hb : BR P ifs φ y o co N) : BR P ifs φ x o co N := by
  rcases k with rfl | ⟨cs, cs', e, f, base, sh, sh', ro, pl, rfl, rfl, hl, hss, hc⟩
  · exact hb
  · obtain ⟨C, fr, h1, h2, h3, h4, h5, h6⟩ := hb
    exact ⟨C, fr, h1, h2, by omega, h4, fun hp => ⟨(h5 hp).1, fun hq => (h5 hp).2 (by cases sh with | false => rfl | true => rw [hss rfl] at hq; cases hq)⟩, fun j v hj => h6 j v (hc j v hj)⟩

theorem Wk.ni {x y : ABlk} (k : Wk x y) {z : ABlk} {co co' : Nat} (hn : NI y z co co') : NI x z co co' := by
  rcases k with rfl | ⟨cs, cs', e, f, base, sh, sh', ro, pl, rfl, rfl, hl, hs, hc⟩
  · exact hn
  · cases z <;> simp only [NI] at hn ⊢
    rcases hn with h1 | ⟨h1, h2, h3, h4⟩
    · exact .inl h1
    · exact .inr ⟨h1, h2, hs h3, h4⟩

theorem Rel.weaken (hr : Rel P ifs φ w0 h w) (hn : h'.next = h.next) (hw : ∀ j, Wk (h'.get j) (h.get j)) : Rel P ifs φ w0 h' w :=
  ⟨hr.below, fun i b co N hi => by rw [hn]; exact hr.dom _ _ _ _ hi, fun i hi => hr.all i (fun e => hi ((hw i).dead.2 e)),
    fun i b co N hi => let ⟨o, k1, k2⟩ := hr.blk _ _ _ _ hi; ⟨o, k1, (hw i).br k2⟩,
    fun i j b co co' N N' hij hi hj => (hw i).ni ((hw j).ni (hr.ni _ _ _ _ _ _ _ hij hi hj).symm).symm,
    fun i b co N hi hro => hr.own _ _ _ _ hi (by rw [← (hw i).ro]; exact hro)⟩

theorem Wk.refl (x : ABlk) : Wk x x := .inl rfl

theorem Wk.trans {x y z : ABlk} (a : Wk x y) (b : Wk y z) : Wk x z := by
  rcases a with rfl | ⟨cs, cs', e, f, base, sh, sh', ro, pl, rfl, rfl, hl, hs, hc⟩
  · exact b
  · rcases b with hb | ⟨cs2, cs2', e2, f2, base2, sh2, sh2', ro2, pl2, rfl, hb, hl2, hs2, hc2⟩
    · exact .inr ⟨cs, cs', e, f, base, sh, sh', ro, pl, hb.symm, rfl, hl, hs, hc⟩
    · simp at hb
      obtain ⟨rfl, rfl, rfl, rfl, rfl, rfl, rfl⟩ := hb
      exact .inr ⟨cs2, cs', e, f, base, sh2, sh', ro, pl, rfl, rfl, hl.trans hl2, fun x => hs (hs2 x), fun j v hj => hc2 j v (hc j v hj)⟩

theorem wk_forget (lo n : Nat) (cs : List (Option AV)) (e f base : Nat) (sh ro pl : Bool) : Wk (.cells (Ax.forget lo n base cs) e f base sh ro pl) (.cells cs e f base sh ro pl) :=
  .inr ⟨cs, _, e, f, base, sh, sh, ro, pl, rfl, rfl, forget_length _ _ _ _, fun x => x, fun j v hj => (forget_get _ _ _ _ _ _ hj).1⟩

theorem wk_forgetH (h : AH) (fam lo n skip j : Nat) : Wk ((h.forget fam lo n skip).get j) (h.get j) := by
  rw [AH.get_forget]
  cases h.get j with
  | cells cs e f base sh ro pl => simp only; split; exact wk_forget _ _ _ _ _ _ _ _ _; exact .inl rfl
  | _ => exact .inl rfl

/-- CELLS THAT NOBODY KNOWS are written. -/
theorem Rel.scribble (hr : Rel P ifs φ w0 h w) {b N e p : Nat} {C : Array Value} {fr : Nat × Nat} {us : List Value} (hB : w0.heap.size ≤ b) (hb : w.heap[b]? = some (.cells C e fr)) (hp : p + us.length ≤ C.size)
    (hno : ∀ j co N', φ j = some (b, co, N') → ∀ cs e f base sh ro pl, h.get j = .cells cs e f base sh ro pl → ∀ (q : Nat) (v : AV), cs[q]? = some (some v) → ¬ (p ≤ co + q ∧ co + q < p + us.length)) :
    Rel P ifs φ w0 h (w.setCells b p us) ∧ (∀ b', b' < w.heap.size → b' ≠ b → (w.setCells b p us).heap[b']? = w.heap[b']?) ∧ (w.setCells b p us).heap.size = w.heap.size ∧
      ∃ C', (w.setCells b p us).heap[b]? = some (.cells C' e fr) ∧ C'.size = C.size ∧ (∀ j : Nat, C'[j]? = if p ≤ j ∧ j < p + us.length then us[j - p]? else C[j]?) := by
  obtain ⟨C', q1, q2, q3, q4, q5, q6, q7, q8⟩ := setCells_heap b us p w C e fr hb hp
  refine ⟨⟨⟨q6.trans hr.below.os, q7.trans hr.below.tape, q8.trans hr.below.output, by rw [q5]; exact hr.below.size, fun k hk => (q4 k (by omega)).trans (hr.below.block k hk)⟩, fun i b' co N' hi => by rw [q5]; exact hr.dom _ _ _ _ hi, hr.all, ?_, hr.ni, hr.own⟩, fun b' _ hne => q4 b' hne, q5, C', q1, q2, q3⟩
  intro j b' co N' hj
  obtain ⟨o', m1, m2⟩ := hr.blk _ _ _ _ hj
  by_cases eb : b' = b
  · subst eb
    rw [hb] at m1; simp at m1; subst m1
    refine ⟨_, q1, ?_⟩
    cases hgj : h.get j with
    | dead => trivial
    | cells cs2 e2 f2 base2 sh2 ro2 pl2 =>
      rw [hgj] at m2
      obtain ⟨C2, fr2, g1, g2, g3, g4, g5, g6⟩ := m2
      simp at g1; obtain ⟨rfl, rfl, rfl⟩ := g1
      refine ⟨C', fr, rfl, by omega, g3, g4, g5, fun q v hq => ?_⟩
      obtain ⟨u, hu, hvr⟩ := g6 q v hq
      have := hno j co N' hj _ _ _ _ _ _ _ hgj q v hq
      exact ⟨u, by rw [q3, if_neg this]; exact hu, hvr⟩
    | map es c => rw [hgj] at m2; obtain ⟨_, _, x, _⟩ := m2; simp at x
    | mapIter m s sn st => rw [hgj] at m2; obtain ⟨_, _, x, _⟩ := m2; simp at x
    | strIter s p => rw [hgj] at m2; obtain ⟨_, _, x, _⟩ := m2; simp at x
    | loop st pd tm ps a b => rw [hgj] at m2; obtain ⟨_, _, x, _⟩ := m2; simp at x
  · exact ⟨o', (q4 b' eb).trans m1, m2⟩

/-- A NEW BLOCK OF THE EVALUATOR's IN MEMORY THAT IS THERE: it is of the family of those that lie there. -/
theorem Rel.alias (hr : Rel P ifs φ w0 h w) {i b co N co' : Nat} {blk : ABlk} {o : Obj} (hi : φ i = some (b, co, N)) (hd : h.get i ≠ .dead) (ho : w.heap[b]? = some o) (hb : BR P ifs φ blk o co' N)
    (hro : roOf blk = false → w0.heap.size ≤ b) (hni : ∀ j co2 N2, φ j = some (b, co2, N2) → NI blk (h.get j) co' co2) :
    Rel P ifs (upd φ h.next (b, co', N)) w0 (h.push blk) w ∧ Stp φ (upd φ h.next (b, co', N)) w w := by
  have hn := hr.none_next
  have he : Ext φ (upd φ h.next (b, co', N)) := ext_upd hn
  have hblt := (hr.dom _ _ _ _ hi).2
  have hcase : ∀ i b' co2 N', upd φ h.next (b, co', N) i = some (b', co2, N') → (i = h.next ∧ b' = b ∧ co2 = co' ∧ N' = N) ∨ (i ≠ h.next ∧ φ i = some (b', co2, N')) := by
    intro i b' co2 N' hi
    unfold upd at hi
    by_cases e : i = h.next
    · rw [if_pos e] at hi; simp at hi; exact .inl ⟨e, hi.1.symm, hi.2.1.symm, hi.2.2.symm⟩
    · rw [if_neg e] at hi; exact .inr ⟨e, hi⟩
  refine ⟨⟨hr.below, ?_, ?_, ?_, ?_, ?_⟩, ⟨he, Nat.le_refl _, ?_, fun _ _ _ => rfl⟩⟩
  · intro j b' c N' hj
    rcases hcase _ _ _ _ hj with ⟨rfl, rfl, _, _⟩ | ⟨_, h2⟩
    · exact ⟨by simp [AH.next_push], hblt⟩
    · have := hr.dom _ _ _ _ h2; rw [AH.next_push]; omega
  · intro j hj
    rw [AH.get_push] at hj
    unfold upd
    by_cases e : j = h.next
    · exact ⟨_, if_pos e⟩
    · rw [if_neg e] at hj ⊢; exact hr.all j hj
  · intro j b' c N' hj
    rcases hcase _ _ _ _ hj with ⟨rfl, rfl, rfl, rfl⟩ | ⟨h1, h2⟩
    · exact ⟨o, ho, by rw [AH.get_push, if_pos rfl]; exact BR.ext P ifs he hb⟩
    · obtain ⟨o', k1, k2⟩ := hr.blk _ _ _ _ h2
      exact ⟨o', k1, by rw [AH.get_push, if_neg h1]; exact BR.ext P ifs he k2⟩
  · intro j k b' c c' N1 N2 hjk hj hk
    rcases hcase _ _ _ _ hj with ⟨rfl, rfl, rfl, _⟩ | ⟨h1, h2⟩
    · rcases hcase _ _ _ _ hk with ⟨rfl, _⟩ | ⟨k1, k2⟩
      · exact absurd rfl hjk
      · rw [AH.get_push, if_pos rfl, AH.get_push, if_neg k1]; exact hni _ _ _ k2
    · rcases hcase _ _ _ _ hk with ⟨rfl, rfl, rfl, _⟩ | ⟨k1, k2⟩
      · rw [AH.get_push, if_neg h1, AH.get_push, if_pos rfl]; exact (hni _ _ _ h2).symm
      · rw [AH.get_push, if_neg h1, AH.get_push, if_neg k1]; exact hr.ni _ _ _ _ _ _ _ hjk h2 k2
  · intro j b' c N' hj hro'
    rcases hcase _ _ _ _ hj with ⟨rfl, rfl, _, _⟩ | ⟨h1, h2⟩
    · rw [AH.get_push, if_pos rfl] at hro'; exact hro hro'
    · rw [AH.get_push, if_neg h1] at hro'; exact hr.own _ _ _ _ h2 hro'
  · intro j b' c N' hj _
    rcases hcase _ _ _ _ hj with ⟨_, rfl, _, _⟩ | ⟨_, h2⟩
    · exact ⟨i, co, N, hi⟩
    · exact ⟨j, c, N', h2⟩

theorem Rel.congr (hr : Rel P ifs φ w0 h w) (hn : h'.next = h.next) (hg : ∀ j, h'.get j = h.get j) : Rel P ifs φ w0 h' w := hr.weaken hn (fun j => .inl (hg j))

/-- What an append leaves of the old blocks. -/
def AH.yielded (h : AH) (i : Nat) (cs : List (Option AV)) (e fam base lo n : Nat) (pl : Bool) : AH := (h.set i (.cells cs e fam base true false pl)).forget fam lo n h.next

theorem appendAt_get {i o size len : Nat} {new : List AV} {e : TypeId} (hs : h.appendAt e (i, o) size len new = some h') :
    ∃ cs fam base sh pl old, h.get i = .cells cs e fam base sh false pl ∧ takeSome (len * size) (cs.drop o) = some old ∧ new.all flat = true ∧
      h'.next = h.next + 1 ∧ ∀ j, h'.get j = ((h.yielded i cs e fam base (base + o + len * size) new.length pl).push (.cells ((old ++ new).map some) e fam (base + o) true false pl)).get j := by
  unfold AH.appendAt at hs
  simp only at hs
  split at hs
  case h_2 => cases hs
  rename_i cs e2 fam base sh pl hget
  split at hs
  case isFalse => cases hs
  rename_i hflat
  obtain ⟨hflat, rfl⟩ := hflat
  simp only [Option.map_eq_some_iff] at hs
  obtain ⟨old, hold, hh'⟩ := hs
  refine ⟨cs, fam, base, sh, pl, old, hget, hold, hflat, by subst hh'; rfl, fun j => ?_⟩
  subst hh'
  rw [AH.get_forget, AH.get_push, AH.get_push]
  unfold AH.yielded
  rw [AH.get_forget]
  simp only [AH.next_set, AH.next_forget]
  by_cases e1 : j = h.next
  · simp [e1]
  · simp only [e1, if_false]

theorem yielded_wk {i : Nat} {cs : List (Option AV)} {e fam base lo n : Nat} {sh pl : Bool} (hget : h.get i = .cells cs e fam base sh false pl) (j : Nat) : Wk ((h.yielded i cs e fam base lo n pl).get j) (h.get j) := by
  refine (wk_forgetH _ _ _ _ _ _).trans ?_
  by_cases ej : j = i
  · subst ej
    rw [AH.get_set_same (by rw [hget]; simp), hget]
    exact .inr ⟨cs, cs, e, fam, base, sh, true, false, pl, rfl, rfl, rfl, fun _ => rfl, fun _ _ x => x⟩
  · rw [AH.get_set_other (fun x => ej x.symm)]; exact .inl rfl

theorem yielded_forgot (hr : Rel P ifs φ w0 h w) {i : Nat} {cs : List (Option AV)} {e fam base lo n b co N p : Nat} {sh pl : Bool} (hget : h.get i = .cells cs e fam base sh false pl) (hi : φ i = some (b, co, N)) (hlo : co + lo = p + base) :
    ∀ j co2 N2, φ j = some (b, co2, N2) → (h.get j = .dead ∧ (h.yielded i cs e fam base lo n pl).get j = .dead) ∨ ∃ cs2 e2 base2 pl2, (h.yielded i cs e fam base lo n pl).get j = .cells cs2 e2 fam base2 true false pl2 ∧ co + base2 = co2 + base ∧
      ∀ (q : Nat) (v : AV), cs2[q]? = some (some v) → ¬ (p ≤ co2 + q ∧ co2 + q < p + n) := by
  have hlt : i < h.next := (hr.dom _ _ _ _ hi).1
  intro j co2 N2 hj
  by_cases ej : j = i
  · subst ej
    rw [hi] at hj; simp at hj; obtain ⟨rfl, rfl⟩ := hj
    refine .inr ⟨Ax.forget lo n base cs, e, base, pl, ?_, rfl, fun q v hq hh => ?_⟩
    · unfold AH.yielded
      rw [AH.get_forget, AH.get_set_same (by rw [hget]; simp)]
      simp [show j ≠ h.next by omega]
    · have := (forget_get _ _ _ _ _ _ hq).2; omega
  · have hjlt := (hr.dom _ _ _ _ hj).1
    have hni := hr.ni i j b co co2 N N2 (fun x => ej x.symm) hi hj
    rw [hget] at hni
    have hgs : (h.set i (.cells cs e fam base true false pl)).get j = h.get j := AH.get_set_other (fun x => ej x.symm) _
    cases hgj : h.get j with
    | dead => exact .inl ⟨rfl, by unfold AH.yielded; rw [AH.get_forget, hgs, hgj]⟩
    | cells cs2 e2 f2 base2 sh2 ro2 pl2 =>
      rw [hgj] at hni
      simp only [NI] at hni
      rcases hni with ⟨h1, _⟩ | ⟨_, r2, s1, s2, f1, c1⟩
      · simp at h1
      · subst r2 s2 f1
        refine .inr ⟨Ax.forget lo n base2 cs2, e2, base2, pl2, ?_, by omega, fun q v hq hh => ?_⟩
        · unfold AH.yielded
          rw [AH.get_forget, hgs, hgj]
          simp [show j ≠ h.next by omega]
        · have := (forget_get _ _ _ _ _ _ hq).2; omega
    | map es c => rw [hgj] at hni; simp [NI] at hni
    | mapIter m s sn st => rw [hgj] at hni; simp [NI] at hni
    | strIter s p => rw [hgj] at hni; simp [NI] at hni
    | loop st pd tm ps a b => rw [hgj] at hni; simp [NI] at hni

theorem somes_get {vs : List AV} {j : Nat} {v : AV} (h : (vs.map some)[j]? = some (some v)) : vs[j]? = some v := by
  rw [List.getElem?_map] at h
  cases e : vs[j]? <;> simp_all

/-- AN APPEND IN PLACE. -/
theorem Rel.append_in (hr : Rel P ifs φ w0 h w) {i o size len b co N : Nat} {new : List AV} {us : List Value} {e : TypeId} (hi : φ i = some (b, co, N)) (hs : h.appendAt e (i, o) size len new = some h') (hv : VRs φ new us) (hroom : co + o + len * size + us.length ≤ N) :
    (∀ j, j < us.length → (w.cell? ⟨b, co + o + len * size + j, none⟩).isSome = true) ∧ (∀ j, j < us.length → w.frozen? ⟨b, co + o + len * size + j, none⟩ = false) ∧ (∀ v ∈ us, v.oneCell' = true) ∧
    Rel P ifs (upd φ h.next (b, co + o, N)) w0 h' (w.setCells b (co + o + len * size) us) ∧ Stp φ (upd φ h.next (b, co + o, N)) w (w.setCells b (co + o + len * size) us) := by
  obtain ⟨cs, fam, base, sh, pl, old, hget, hold, hflat, hnext, hgets⟩ := appendAt_get hs
  obtain ⟨t1, t2⟩ := takeSome_spec _ _ _ hold
  obtain ⟨ob, k1, k2⟩ := hr.blk _ _ _ _ hi
  have k2' := k2
  rw [hget] at k2'
  obtain ⟨C, fr, rfl, hN, hco, hfz, hpl, hcell⟩ := k2'
  have hB := hr.own _ _ _ _ hi (by rw [hget]; rfl)
  have hul := hv.len
  have hf1 : ∀ v ∈ us, v.oneCell' = true := fun v hv' => by
    obtain ⟨j, hj⟩ := List.mem_iff_getElem?.1 hv'
    have hjl : j < new.length := by rw [hul]; exact (List.getElem?_eq_some_iff.1 hj).1
    exact oneCell'_of_flat (List.all_eq_true.1 hflat _ (List.getElem_mem hjl)) ((VRs.iff.1 hv).2 j _ _ (List.getElem?_eq_getElem hjl) hj)
  refine ⟨fun j hj => by simp [World.cell?, k1, show co + o + len * size + j < C.size by omega], fun j hj => ?_, hf1, ?_⟩
  · have := hfz rfl (co + o + len * size + j) (by omega)
    simp [World.frozen?, k1]
    omega
  have hr1 : Rel P ifs φ w0 (h.yielded i cs e fam base (base + o + len * size) new.length pl) w := hr.weaken rfl (yielded_wk hget)
  have hfg := yielded_forgot (n := new.length) (lo := base + o + len * size) (p := co + o + len * size) hr hget hi (by omega)
  obtain ⟨hr2, q4, q5, C', q1, q2, q3⟩ := hr1.scribble (us := us) (N := N) (p := co + o + len * size) hB k1 (by omega) (fun j co2 N2 hj cs2 e2 f2 base2 sh2 ro2 pl2 hgj q v hq => by
    rcases hfg j co2 N2 hj with ⟨_, hd⟩ | ⟨cs3, e3, base3, pl3, hg3, _, hno⟩
    · rw [hgj] at hd; cases hd
    · rw [hgj] at hg3; simp at hg3; obtain ⟨rfl, _⟩ := hg3
      have := hno q v hq; omega)
  have hblk : BR P ifs φ (.cells ((old ++ new).map some) e fam (base + o) true false pl) (.cells C' e fr) (co + o) N := by
    refine ⟨C', fr, rfl, by omega, by simp; omega, hfz, fun hp => ⟨(hpl hp).1, fun hq => by cases hq⟩, fun j v hj => ?_⟩
    have hj' := somes_get hj
    by_cases hjl : j < old.length
    · rw [List.getElem?_append_left hjl] at hj'
      have := t2 j v hj'
      rw [List.getElem?_drop] at this
      obtain ⟨u, hu, hvr⟩ := hcell _ _ this
      exact ⟨u, by rw [q3, if_neg (by omega), ← hu, Nat.add_assoc], hvr⟩
    · rw [List.getElem?_append_right (by omega)] at hj'
      obtain ⟨u, hu, hvr⟩ := hv.get hj'
      have : j - old.length < us.length := (List.getElem?_eq_some_iff.1 hu).1
      refine ⟨u, ?_, hvr⟩
      rw [q3, if_pos ⟨by omega, by omega⟩, show co + o + j - (co + o + len * size) = j - old.length by omega]
      exact hu
  obtain ⟨hr3, hs3⟩ := hr2.alias (co' := co + o) hi (by
      rcases hfg i co N hi with ⟨hd, _⟩ | ⟨_, _, _, _, hg, _⟩
      · rw [hget] at hd; cases hd
      · rw [hg]; simp) q1 hblk (fun _ => hB) (fun j co2 N2 hj => by
      rcases hfg j co2 N2 hj with ⟨_, hd⟩ | ⟨_, _, base2, _, hg, hc, _⟩
      · rw [hd]; exact NI.of_dead_right _ _ _
      · rw [hg]; exact .inr ⟨rfl, rfl, rfl, rfl, rfl, by omega⟩)
  refine ⟨hr3.congr hnext hgets, ⟨hs3.ext, by rw [q5]; exact Nat.le_refl _, fun j b' c N' hj hb' => hs3.rng j b' c N' hj (by rw [q5]; exact hb'), fun b' hb' hn => q4 b' hb' (fun e => hn i co N (by subst e; exact hi))⟩⟩

/-- AN APPEND INTO NEW MEMORY. -/
theorem Rel.append_new (hr : Rel P ifs φ w0 h w) {i o size len b co N : Nat} {new : List AV} {us : List Value} {C' : Array Value} {e : TypeId} (hi : φ i = some (b, co, N)) (hs : h.appendAt e (i, o) size len new = some h') (hv : VRs φ new us)
    (hC1 : ∀ j, j < len * size → ∀ v, w.cell? ⟨b, co + o + j, none⟩ = some v → C'[j]? = some v) (hC2 : ∀ (j : Nat) (v : Value), us[j]? = some v → C'[len * size + j]? = some v) (hsz : len * size + us.length ≤ C'.size) :
    Rel P ifs (upd φ h.next (w.heap.size, 0, C'.size)) w0 h' (w.alloc (.cells C' e)) ∧ Stp φ (upd φ h.next (w.heap.size, 0, C'.size)) w (w.alloc (.cells C' e)) := by
  obtain ⟨cs, fam, base, sh, pl, old, hget, hold, hflat, hnext, hgets⟩ := appendAt_get hs
  obtain ⟨t1, t2⟩ := takeSome_spec _ _ _ hold
  obtain ⟨ob, k1, k2⟩ := hr.blk _ _ _ _ hi
  rw [hget] at k2
  obtain ⟨C, fr, rfl, hN, hco, hfz, hpl, hcell⟩ := k2
  have hul := hv.len
  have hr1 : Rel P ifs φ w0 (h.yielded i cs e fam base (base + o + len * size) new.length pl) w := hr.weaken rfl (yielded_wk hget)
  have hblk : BR P ifs φ (.cells ((old ++ new).map some) e fam (base + o) true false pl) (.cells C' e (0, 0)) 0 C'.size := by
    refine ⟨C', (0, 0), rfl, rfl, by simp; omega, fun _ j _ => by omega, fun _ => ⟨rfl, fun hq => by cases hq⟩, fun j v hj => ?_⟩
    have hj' := somes_get hj
    rw [Nat.zero_add]
    by_cases hjl : j < old.length
    · rw [List.getElem?_append_left hjl] at hj'
      have := t2 j v hj'
      rw [List.getElem?_drop] at this
      obtain ⟨u, hu, hvr⟩ := hcell _ _ this
      refine ⟨u, hC1 j (by omega) u ?_, hvr⟩
      simp [World.cell?, k1, Nat.add_assoc, hu]
    · rw [List.getElem?_append_right (by omega)] at hj'
      obtain ⟨u, hu, hvr⟩ := hv.get hj'
      have := hC2 _ _ hu
      exact ⟨u, by rw [← this]; congr 1; omega, hvr⟩
  obtain ⟨hr2, hs2⟩ := hr1.push _ (.cells C' e) C'.size (BR.ext P ifs (ext_upd hr.none_next) hblk)
  exact ⟨hr2.congr hnext hgets, hs2⟩
end
end Go.Proofs.YtjihmonajekomaaGreatDoor.Ax
