/- The relation between the evaluator's heap and the model's memory, and what keeps it: a new block, a store, a block's change, an append. Conditions: as each theorem states. -/
import Derived.Test.YtjihmonajekomaaGreatDoorAx3
import Derived.Laws.IdiomCopy
namespace Go.Proofs.YtjihmonajekomaaGreatDoor.Ax
open Go Go.RowKit

set_option linter.unusedVariables false

def stOf : Nat → LoopState
  | 0 => .ready
  | 1 => .busy
  | 2 => .done
  | _ => .exhausted

def jumpOf : AJump → Code
  | .exit id => .exit id
  | .ret => .ret

def MR (φ : Emb) : List (AV × AV × Nat) → List MapEntry → Prop
  | [], l => l = []
  | e :: r, l => ∃ m t, l = m :: t ∧ VR φ e.1 m.key ∧ VR φ e.2.1 m.val ∧ m.born = e.2.2 ∧ MR φ r t

theorem MR.ext {φ φ' : Emb} (h : Ext φ φ') : ∀ (es : List (AV × AV × Nat)) (l : List MapEntry), MR φ es l → MR φ' es l
  | [], _, hm => by simpa [MR] using hm
  | e :: r, l, hm => by
    simp only [MR] at hm ⊢
    obtain ⟨m, t, h1, h2, h3, h4, h5⟩ := hm
    exact ⟨m, t, h1, VR.ext h _ _ h2, VR.ext h _ _ h3, h4, MR.ext h r t h5⟩

section
variable (P : Program) (ifs : List TypeId)

def BR (φ : Emb) : ABlk → Obj → Nat → Nat → Prop
  | .dead, _, _, _ => True
  | .cells cs e _ _ sh ro pl, o, co, N => ∃ C fr, o = .cells C e fr ∧ C.size = N ∧ co + cs.length ≤ N ∧ (ro = false → ∀ j, j < N → ¬ (fr.1 ≤ j ∧ j < fr.2)) ∧ (pl = true → fr = (0, 0) ∧ (sh = false → co = 0)) ∧
      ∀ (j : Nat) (v : AV), cs[j]? = some (some v) → ∃ u, C[co + j]? = some u ∧ VR φ v u
  | .map es clock, o, co, _ => co = 0 ∧ ∃ E, o = .map E clock ∧ MR φ es E.toList
  | .mapIter m since seen st, o, co, _ => co = 0 ∧ ∃ m', o = .mapIter m' since seen.toArray st ∧ VR φ (.map m) (.map m')
  | .strIter s pos, o, co, _ => co = 0 ∧ ∃ t, o = .stringIter t pos ∧ t.data.toList.map UInt8.toNat = s
  | .loop st pd tm ps a b, o, co, _ => co = 0 ∧ ∃ L, o = .loop L ∧ L.state = stOf st ∧ L.pending = pd.map jumpOf ∧ VRs φ tm L.tmps.toList ∧ L.params.toList = ps ∧ cCode P ifs L.assign = some a ∧ cCode P ifs L.body = some b

theorem BR.ext {φ φ' : Emb} (h : Ext φ φ') {b : ABlk} {o : Obj} {co N : Nat} (hb : BR P ifs φ b o co N) : BR P ifs φ' b o co N := by
  cases b with
  | dead => trivial
  | cells cs e f base sh ro pl =>
    obtain ⟨C, fr, h1, h2, h3, h4, h5, h6⟩ := hb
    exact ⟨C, fr, h1, h2, h3, h4, h5, fun j v hj => let ⟨u, k1, k2⟩ := h6 j v hj; ⟨u, k1, VR.ext h _ _ k2⟩⟩
  | map es clock => obtain ⟨h0, E, h1, h2⟩ := hb; exact ⟨h0, E, h1, MR.ext h _ _ h2⟩
  | mapIter m s sn st => obtain ⟨h0, m', h1, h2⟩ := hb; exact ⟨h0, m', h1, VR.ext h _ _ h2⟩
  | strIter s pos => exact hb
  | loop st pd tm ps a b => obtain ⟨h0, L, h1, h2, h3, h4, h5⟩ := hb; exact ⟨h0, L, h1, h2, h3, VRs.ext h _ _ h4, h5⟩

def NI (x y : ABlk) (co co' : Nat) : Prop :=
  match x, y with
  | .dead, _ => True
  | _, .dead => True
  | .cells _ _ f base sh ro _, .cells _ _ f' base' sh' ro' _ => (ro = true ∧ ro' = true) ∨ (ro = false ∧ ro' = false ∧ sh = true ∧ sh' = true ∧ f = f' ∧ co + base' = co' + base)
  | _, _ => False

def roOf : ABlk → Bool
  | .dead => true
  | .cells _ _ _ _ _ ro _ => ro
  | _ => false

def isCells : ABlk → Bool
  | .cells .. => true
  | _ => false

theorem NI.dead_left {x y : ABlk} {co co' : Nat} (h : NI x y co co') (hy : y ≠ .dead) (hc : isCells y = false) : x = .dead := by
  cases y <;> simp [isCells] at hc hy <;> cases x <;> simp_all [NI]

theorem NI.of_dead_left (y : ABlk) (co co' : Nat) : NI .dead y co co' := by unfold NI; trivial
theorem NI.of_dead_right (x : ABlk) (co co' : Nat) : NI x .dead co co' := by cases x <;> simp [NI]

structure Rel (φ : Emb) (w0 : World) (h : AH) (w : World) : Prop where
  below : Below w0.heap.size w0 w
  dom : ∀ i b co N, φ i = some (b, co, N) → i < h.next ∧ b < w.heap.size
  all : ∀ i, h.get i ≠ .dead → ∃ x, φ i = some x
  blk : ∀ i b co N, φ i = some (b, co, N) → ∃ o, w.heap[b]? = some o ∧ BR P ifs φ (h.get i) o co N
  ni : ∀ i j b co co' N N', i ≠ j → φ i = some (b, co, N) → φ j = some (b, co', N') → NI (h.get i) (h.get j) co co'
  own : ∀ i b co N, φ i = some (b, co, N) → roOf (h.get i) = false → w0.heap.size ≤ b

/-- What a step does to the memory: the old places stay where they are; what the evaluator does not know of stays as it is. -/
structure Stp (φ φ' : Emb) (w w' : World) : Prop where
  ext : Ext φ φ'
  size : w.heap.size ≤ w'.heap.size
  rng : ∀ i b co N, φ' i = some (b, co, N) → b < w.heap.size → ∃ j co' N', φ j = some (b, co', N')
  keep : ∀ b, b < w.heap.size → (∀ j co N, φ j ≠ some (b, co, N)) → w'.heap[b]? = w.heap[b]?

theorem Stp.refl (φ : Emb) (w : World) : Stp φ φ w w := ⟨Ext.refl _, Nat.le_refl _, fun i b co N h _ => ⟨i, co, N, h⟩, fun _ _ _ => rfl⟩

theorem Stp.trans {φ φ' φ'' : Emb} {w w' w'' : World} (h : Stp φ φ' w w') (k : Stp φ' φ'' w' w'') : Stp φ φ'' w w'' := by
  refine ⟨h.ext.trans k.ext, Nat.le_trans h.size k.size, fun i b co N hi hb => ?_, fun b hb hn => ?_⟩
  · obtain ⟨j, co', N', hj⟩ := k.rng i b co N hi (Nat.lt_of_lt_of_le hb h.size)
    exact h.rng j b co' N' hj hb
  · rw [k.keep b (Nat.lt_of_lt_of_le hb h.size) (fun j co N hj => ?_), h.keep b hb hn]
    obtain ⟨j', co', N', hj'⟩ := h.rng j b co N hj hb
    exact hn j' co' N' hj'

/-- A draw changes no block. -/
theorem Stp.drawn {φ : Emb} {w w' : World} (hh : w'.heap = w.heap) : Stp φ φ w w' := ⟨Ext.refl _, by rw [hh]; exact Nat.le_refl _, fun i b co N h _ => ⟨i, co, N, h⟩, fun _ _ _ => by rw [hh]⟩

variable {P ifs} {φ : Emb} {w0 w : World} {h : AH}

theorem Rel.of_heap {w' : World} (hr : Rel P ifs φ w0 h w) (hh : w'.heap = w.heap) (ho : w'.os = w.os) (ht : w'.tape = w.tape) (hp : w'.output = w.output) : Rel P ifs φ w0 h w' := by
  refine ⟨⟨ho.trans hr.below.os, ht.trans hr.below.tape, hp.trans hr.below.output, by rw [hh]; exact hr.below.size, fun k hk => by rw [hh]; exact hr.below.block k hk⟩, ?_, hr.all, ?_, hr.ni, hr.own⟩
  · rw [hh]; exact hr.dom
  · rw [hh]; exact hr.blk

theorem Rel.drew (hr : Rel P ifs φ w0 h w) : Rel P ifs φ w0 h w.drew := hr.of_heap rfl rfl rfl rfl

def upd (φ : Emb) (i : Nat) (x : Nat × Nat × Nat) : Emb := fun j => if j = i then some x else φ j

theorem Rel.none_next (hr : Rel P ifs φ w0 h w) : φ h.next = none := by
  cases e : φ h.next with
  | none => rfl
  | some x => exact absurd (hr.dom h.next x.1 x.2.1 x.2.2 e).1 (Nat.lt_irrefl _)

theorem ext_upd {i : Nat} {x : Nat × Nat × Nat} (hn : φ i = none) : Ext φ (upd φ i x) := fun j y hj => by
  unfold upd
  by_cases e : j = i
  · subst e; rw [hn] at hj; cases hj
  · rw [if_neg e]; exact hj

theorem NI.symm {x y : ABlk} {co co' : Nat} (h : NI x y co co') : NI y x co' co := by
  cases x <;> cases y <;> simp_all [NI]
  rcases h with ⟨h1, h2⟩ | ⟨h1, h2, h3, h4, h5, h6⟩
  · exact .inl ⟨h2, h1⟩
  · exact .inr ⟨h2, h1, h4, h3, h5.symm, h6.symm⟩

/-- A NEW BLOCK of the model's is a new block of the evaluator's. -/
theorem Rel.push (hr : Rel P ifs φ w0 h w) (b : ABlk) (o : Obj) (N : Nat) (hb : BR P ifs (upd φ h.next (w.heap.size, 0, N)) b o 0 N) :
    Rel P ifs (upd φ h.next (w.heap.size, 0, N)) w0 (h.push b) (w.alloc o) ∧ Stp φ (upd φ h.next (w.heap.size, 0, N)) w (w.alloc o) := by
  have hn := hr.none_next
  have he : Ext φ (upd φ h.next (w.heap.size, 0, N)) := ext_upd hn
  have hcase : ∀ i b' co N', upd φ h.next (w.heap.size, 0, N) i = some (b', co, N') → (i = h.next ∧ b' = w.heap.size ∧ co = 0 ∧ N' = N) ∨ (i ≠ h.next ∧ φ i = some (b', co, N') ∧ b' < w.heap.size ∧ i < h.next) := by
    intro i b' co N' hi
    unfold upd at hi
    by_cases e : i = h.next
    · rw [if_pos e] at hi; simp at hi; exact .inl ⟨e, hi.1.symm, hi.2.1.symm, hi.2.2.symm⟩
    · rw [if_neg e] at hi; exact .inr ⟨e, hi, (hr.dom _ _ _ _ hi).2, (hr.dom _ _ _ _ hi).1⟩
  refine ⟨⟨hr.below.alloc hr.below.size _, ?_, ?_, ?_, ?_, ?_⟩, ⟨he, by simp, ?_, ?_⟩⟩
  · intro i b' co N' hi
    rcases hcase _ _ _ _ hi with ⟨rfl, rfl, _, _⟩ | ⟨_, _, h2, h3⟩
    · simp [AH.next_push]
    · rw [AH.next_push, World.size_alloc]; omega
  · intro i hi
    rw [AH.get_push] at hi
    unfold upd
    by_cases e : i = h.next
    · exact ⟨_, if_pos e⟩
    · rw [if_neg e] at hi ⊢; exact hr.all i hi
  · intro i b' co N' hi
    rcases hcase _ _ _ _ hi with ⟨rfl, rfl, rfl, rfl⟩ | ⟨h1, h2, h3, _⟩
    · exact ⟨o, by show (w.heap.push o)[w.heap.size]? = _; simp, by rw [AH.get_push, if_pos rfl]; exact hb⟩
    · obtain ⟨o', k1, k2⟩ := hr.blk _ _ _ _ h2
      exact ⟨o', (Below.heap_alloc w o b' h3).trans k1, by rw [AH.get_push, if_neg h1]; exact BR.ext P ifs he k2⟩
  · intro i j b' co co' N1 N2 hij hi hj
    rcases hcase _ _ _ _ hi with ⟨rfl, rfl, _, _⟩ | ⟨h1, h2, h3, _⟩
    · rcases hcase _ _ _ _ hj with ⟨rfl, _⟩ | ⟨_, _, k3, _⟩
      · exact absurd rfl hij
      · omega
    · rcases hcase _ _ _ _ hj with ⟨rfl, rfl, _⟩ | ⟨k1, k2, k3, _⟩
      · omega
      · rw [AH.get_push, if_neg h1, AH.get_push, if_neg k1]; exact hr.ni _ _ _ _ _ _ _ hij h2 k2
  · intro i b' co N' hi hro
    rcases hcase _ _ _ _ hi with ⟨rfl, rfl, _, _⟩ | ⟨h1, h2, _, _⟩
    · exact hr.below.size
    · rw [AH.get_push, if_neg h1] at hro; exact hr.own _ _ _ _ h2 hro
  · intro i b' co N' hi hb'
    rcases hcase _ _ _ _ hi with ⟨_, rfl, _, _⟩ | ⟨_, h2, _, _⟩
    · omega
    · exact ⟨i, co, N', h2⟩
  · intro b' hb' _
    exact Below.heap_alloc w o b' hb'

theorem upd_same (φ : Emb) (i : Nat) (x : Nat × Nat × Nat) : upd φ i x i = some x := if_pos rfl

/-- A BLOCK THAT IS NO ROW OF CELLS changes. -/
theorem Rel.setObj (hr : Rel P ifs φ w0 h w) {i b N : Nat} {blk : ABlk} {o : Obj} (hi : φ i = some (b, 0, N)) (hd : h.get i ≠ .dead) (hc : isCells (h.get i) = false) (hb' : roOf blk = false)
    (hb : BR P ifs φ blk o 0 N) : Rel P ifs φ w0 (h.set i blk) { w with heap := w.heap.setIfInBounds b o } ∧ Stp φ φ w { w with heap := w.heap.setIfInBounds b o } := by
  have hro : roOf (h.get i) = false := by
    cases e : h.get i <;> rw [e] at hd hc <;> simp_all [roOf, isCells]
  have hbB := hr.own _ _ _ _ hi hro
  have hlt := (hr.dom _ _ _ _ hi).2
  have hne : ∀ j co N', φ j = some (b, co, N') → j ≠ i → h.get j = .dead := by
    intro j co N' hj hji
    exact (hr.ni j i b co 0 N' N hji hj hi).dead_left hd hc
  have hget : ∀ k, k ≠ b → (w.heap.setIfInBounds b o)[k]? = w.heap[k]? := fun k hk => by
    rw [Array.getElem?_setIfInBounds_ne (by omega)]
  refine ⟨⟨⟨hr.below.os, hr.below.tape, hr.below.output, by simpa using hr.below.size, fun k hk => (hget k (by omega)).trans (hr.below.block k hk)⟩, ?_, ?_, ?_, ?_, ?_⟩, ⟨Ext.refl _, by simp, fun i b co N h _ => ⟨i, co, N, h⟩, ?_⟩⟩
  · intro j b' co N' hj; simpa [AH.next_set] using hr.dom _ _ _ _ hj
  · intro j hj
    by_cases e : j = i
    · subst e; exact ⟨_, hi⟩
    · rw [AH.get_set_other (fun x => e x.symm)] at hj; exact hr.all j hj
  · intro j b' co N' hj
    by_cases e : j = i
    · subst e
      rw [hi] at hj
      simp at hj
      obtain ⟨rfl, rfl, rfl⟩ := hj
      exact ⟨o, by simp [hlt], by rw [AH.get_set_same hd]; exact hb⟩
    · rw [AH.get_set_other (fun x => e x.symm)]
      by_cases eb : b' = b
      · subst eb
        rw [hne j co N' hj e]
        exact ⟨o, by simp [hlt], trivial⟩
      · obtain ⟨o', k1, k2⟩ := hr.blk _ _ _ _ hj
        exact ⟨o', (hget b' eb).trans k1, k2⟩
  · intro j k b' co co' N1 N2 hjk hj hk
    by_cases e : j = i
    · subst e
      rw [hi] at hj; simp at hj; obtain ⟨rfl, rfl, rfl⟩ := hj
      rw [AH.get_set_other (fun x => hjk x), hne k co' N2 hk (fun x => hjk x.symm)]
      exact NI.of_dead_right _ _ _
    · by_cases e' : k = i
      · subst e'
        rw [hi] at hk; simp at hk; obtain ⟨rfl, rfl, rfl⟩ := hk
        rw [AH.get_set_other (fun x => e x.symm), hne j co N1 hj e]
        exact NI.of_dead_left _ _ _
      · rw [AH.get_set_other (fun x => e x.symm), AH.get_set_other (fun x => e' x.symm)]
        exact hr.ni _ _ _ _ _ _ _ hjk hj hk
  · intro j b' co N' hj hro'
    by_cases e : j = i
    · subst e; rw [hi] at hj; simp at hj; obtain ⟨rfl, rfl, rfl⟩ := hj; exact hbB
    · rw [AH.get_set_other (fun x => e x.symm)] at hro'; exact hr.own _ _ _ _ hj hro'
  · intro k _ hk
    exact hget k (fun e => hk i 0 N (by subst e; exact hi))

/-! ### Cells -/
theorem setCells_heap (b : Nat) : ∀ (vs : List Value) (o : Nat) (w : World) (C : Array Value) (e : TypeId) (fr : Nat × Nat), w.heap[b]? = some (.cells C e fr) → o + vs.length ≤ C.size →
    ∃ C', (w.setCells b o vs).heap[b]? = some (.cells C' e fr) ∧ C'.size = C.size ∧ (∀ j, C'[j]? = if o ≤ j ∧ j < o + vs.length then vs[j - o]? else C[j]?) ∧
      (∀ k, k ≠ b → (w.setCells b o vs).heap[k]? = w.heap[k]?) ∧ (w.setCells b o vs).heap.size = w.heap.size ∧ (w.setCells b o vs).os = w.os ∧ (w.setCells b o vs).tape = w.tape ∧ (w.setCells b o vs).output = w.output
  | [], o, w, C, e, fr, hb, _ => ⟨C, hb, rfl, fun j => by rw [if_neg (by simp only [List.length_nil]; omega)], fun _ _ => rfl, rfl, rfl, rfl, rfl⟩
  | v :: r, o, w, C, e, fr, hb, hl => by
    simp only [List.length_cons] at hl
    have hb1 : (w.setCell ⟨b, o, none⟩ v).heap[b]? = some (.cells (C.setIfInBounds o v) e fr) := by
      simp [World.setCell, Array.getElem?_modify, hb]
    obtain ⟨C', h1, h2, h3, h4, h5, h6⟩ := setCells_heap b r (o + 1) (w.setCell ⟨b, o, none⟩ v) (C.setIfInBounds o v) e fr hb1 (by simp; omega)
    refine ⟨C', h1, by simpa using h2, fun j => ?_, fun k hk => (h4 k hk).trans (Below.heap_setCell w ⟨b, o, none⟩ v k hk), by rw [World.setCells, h5, World.size_setCell], h6⟩
    rw [h3 j]
    simp only [List.length_cons]
    by_cases e1 : j = o
    · subst e1
      rw [if_neg (by omega), if_pos ⟨by omega, by omega⟩]
      simp [show j < C.size by omega]
    · by_cases e2 : o + 1 ≤ j ∧ j < o + 1 + r.length
      · rw [if_pos e2, if_pos ⟨by omega, by omega⟩]
        have : j - o = (j - (o + 1)) + 1 := by omega
        rw [this, List.getElem?_cons_succ]
      · rw [if_neg e2, if_neg (by omega), Array.getElem?_setIfInBounds_ne (by omega)]

theorem oneCell'_of_flat {φ : Emb} {a : AV} {v : Value} (hf : flat a = true) (h : VR φ a v) : v.oneCell' = true := by
  obtain ⟨h1, h2, _⟩ := VR.flat_cells hf h
  cases v <;> simp_all [Value.oneCell']

/-- A ROW OF CELLS IS WRITTEN. -/
theorem Rel.store (hr : Rel P ifs φ w0 h w) {i o : Nat} {vs : List AV} {us : List Value} {h' : AH} {b co N : Nat} (hi : φ i = some (b, co, N)) (hs : h.storeAt (i, o) vs = some h') (hv : VRs φ vs us) :
    (∀ j, j < us.length → (w.cell? ⟨b, co + o + j, none⟩).isSome = true) ∧ (∀ j, j < us.length → w.frozen? ⟨b, co + o + j, none⟩ = false) ∧ (∀ v ∈ us, v.oneCell' = true) ∧
    Rel P ifs φ w0 h' (w.setCells b (co + o) us) ∧ Stp φ φ w (w.setCells b (co + o) us) := by
  unfold AH.storeAt at hs
  simp only at hs
  split at hs
  case h_2 => cases hs
  rename_i cs e fam base sh pl hget
  split at hs
  case isFalse => cases hs
  rename_i hflat
  simp only [Option.map_eq_some_iff] at hs
  obtain ⟨cs', hput, hh'⟩ := hs
  obtain ⟨p1, p2, p3⟩ := putAt_spec _ _ _ _ hput
  obtain ⟨ob, k1, k2⟩ := hr.blk _ _ _ _ hi
  rw [hget] at k2
  obtain ⟨C, fr, rfl, hN, hco, hfz, hpl, hcell⟩ := k2
  have hbB := hr.own _ _ _ _ hi (by rw [hget]; rfl)
  have hul := hv.len
  have hin : co + o + us.length ≤ C.size ∨ us = [] := by
    by_cases e : vs = []
    · subst e; simp only [VRs] at hv; exact .inr hv
    · have := p2 e; exact .inl (by omega)
  have hin' : us ≠ [] → co + o + us.length ≤ C.size := fun e => hin.resolve_right e
  have hdead : h.get i ≠ .dead := by rw [hget]; simp
  refine ⟨fun j hj => ?_, fun j hj => ?_, fun v hv' => ?_, ?_⟩
  · have := hin' (by rintro rfl; simp at hj)
    simp [World.cell?, k1, show co + o + j < C.size by omega]
  · have := hin' (by rintro rfl; simp at hj)
    have := hfz rfl (co + o + j) (by omega)
    simp [World.frozen?, k1]
    omega
  · obtain ⟨j, hj⟩ := List.mem_iff_getElem?.1 hv'
    have hjl : j < vs.length := by rw [hul]; exact (List.getElem?_eq_some_iff.1 hj).1
    have ha : vs[j]? = some vs[j] := List.getElem?_eq_getElem hjl
    exact oneCell'_of_flat (List.all_eq_true.1 hflat _ (List.getElem_mem hjl)) ((VRs.iff.1 hv).2 j _ _ ha hj)
  by_cases hnil : us = []
  · subst hnil
    have hvs : vs = [] := List.length_eq_zero_iff.1 (by simpa using hul)
    subst hvs
    have hcs : cs' = cs := by cases cs <;> simp [putAt] at hput <;> first | exact hput.symm | exact hput
    subst hcs
    have hgg : ∀ j, h'.get j = h.get j := by
      intro j
      subst hh'
      have hset : ∀ j, (h.set i (.cells cs' e fam base sh false pl)).get j = h.get j := fun j => by
        by_cases e : j = i
        · subst e; rw [AH.get_set_same hdead, hget]
        · rw [AH.get_set_other (fun x => e x.symm)]
      cases sh with
      | false => exact hset j
      | true =>
        simp only [if_true]
        rw [AH.get_forget, hset j]
        cases e : h.get j with
        | cells c2 e2 f2 b2 s2 r2 q2 =>
          simp only
          split
          · congr 1
            refine List.ext_getElem? fun q => ?_
            have hfg : ∀ (p : Nat) (l : List (Option AV)), Ax.forget (base + o) 0 p l = l := by
              intro p l
              induction l generalizing p with
              | nil => rfl
              | cons c l ih => simp [Ax.forget, ih]; omega
            rw [List.length_nil, hfg]
          · rfl
        | _ => rfl
    have hnext : h'.next = h.next := by subst hh'; split <;> rfl
    exact ⟨⟨hr.below, fun j b' c' N' hj => by rw [hnext]; exact hr.dom _ _ _ _ hj, fun j hj => hr.all j (by rw [← hgg]; exact hj), fun j b' c' N' hj => by rw [hgg]; exact hr.blk _ _ _ _ hj,
      fun j k b' c' c'' N1 N2 hjk hj hk => by rw [hgg, hgg]; exact hr.ni _ _ _ _ _ _ _ hjk hj hk, fun j b' c' N' hj hro => hr.own _ _ _ _ hj (by rw [← hgg]; exact hro)⟩, Stp.refl _ _⟩
  have hin2 := hin' hnil
  obtain ⟨C', q1, q2, q3, q4, q5, q6, q7, q8⟩ := setCells_heap b us (co + o) w C e fr k1 hin2
  have hget' : h'.get i = .cells cs' e fam base sh false pl := by
    subst hh'
    cases sh with
    | false => exact AH.get_set_same hdead _
    | true => simp only [if_true]; rw [AH.get_forget, AH.get_set_same hdead]; simp
  have hnext : h'.next = h.next := by subst hh'; split <;> rfl
  -- another block: as it was, or with the places written forgotten
  have hoth : ∀ j, j ≠ i → h'.get j = (match h.get j with
       | .cells cs2 e2 f2 base2 sh2 ro2 pl2 => if sh = true ∧ f2 = fam ∧ sh2 = true then .cells (Ax.forget (base + o) vs.length base2 cs2) e2 f2 base2 sh2 ro2 pl2 else .cells cs2 e2 f2 base2 sh2 ro2 pl2
       | b => b) := by
    intro j hj
    subst hh'
    cases sh with
    | false =>
      simp only [Bool.false_eq_true, if_false, false_and]
      rw [AH.get_set_other (fun x => hj x.symm)]
      cases h.get j <;> rfl
    | true =>
      simp only [if_true, true_and]
      rw [AH.get_forget, AH.get_set_other (fun x => hj x.symm)]
      cases h.get j <;> simp [hj]
  have hlive : ∀ j, j ≠ i → (h'.get j = .dead ↔ h.get j = .dead) := by
    intro j hj; rw [hoth j hj]; cases h.get j <;> simp; split <;> simp
  refine ⟨⟨⟨q6.trans hr.below.os, q7.trans hr.below.tape, q8.trans hr.below.output, by rw [q5]; exact hr.below.size, fun k hk => (q4 k (by omega)).trans (hr.below.block k hk)⟩, ?_, ?_, ?_, ?_, ?_⟩,
    ⟨Ext.refl _, by rw [q5]; exact Nat.le_refl _, fun i b co N h _ => ⟨i, co, N, h⟩, fun k _ hk => q4 k (fun e => hk i co N (by subst e; exact hi))⟩⟩
  · intro j b' c' N' hj; rw [hnext, q5]; exact hr.dom _ _ _ _ hj
  · intro j hj
    by_cases e : j = i
    · subst e; exact ⟨_, hi⟩
    · exact hr.all j (fun x => hj ((hlive j e).2 x))
  · intro j b' c' N' hj
    by_cases ej : j = i
    · subst ej
      rw [hi] at hj; simp at hj; obtain ⟨rfl, rfl, rfl⟩ := hj
      refine ⟨_, q1, ?_⟩
      rw [hget']
      refine ⟨C', fr, rfl, by omega, by omega, hfz, hpl, fun q v hq => ?_⟩
      rw [p3 q] at hq
      by_cases hqi : o ≤ q ∧ q < o + vs.length
      · rw [if_pos hqi] at hq
        obtain ⟨v', hv', e2⟩ := Option.map_eq_some_iff.1 hq
        simp at e2; subst e2
        obtain ⟨u, hu, hvr⟩ := hv.get hv'
        refine ⟨u, ?_, hvr⟩
        rw [q3, if_pos ⟨by omega, by omega⟩]
        rw [show co + q - (co + o) = q - o by omega]
        exact hu
      · rw [if_neg hqi] at hq
        obtain ⟨u, hu, hvr⟩ := hcell q v hq
        exact ⟨u, by rw [q3, if_neg (by omega)]; exact hu, hvr⟩
    · rw [hoth j ej]
      obtain ⟨o', m1, m2⟩ := hr.blk _ _ _ _ hj
      by_cases eb : b' = b
      · subst eb
        have hni := hr.ni j i b' c' co N' N ej hj hi
        rw [hget] at hni
        rw [k1] at m1; simp at m1; subst m1
        cases hgj : h.get j with
        | dead => exact ⟨_, q1, trivial⟩
        | cells cs2 e2 f2 base2 sh2 ro2 pl2 =>
          rw [hgj] at hni m2
          simp only [NI] at hni
          rcases hni with ⟨_, h2⟩ | ⟨r1, _, s1, s2, f1, c1⟩
          · simp at h2
          · simp only [s2, s1, f1, and_self, if_true]
            obtain ⟨C2, fr2, g1, g2, g3, g4, g5, g6⟩ := m2
            simp at g1; obtain ⟨rfl, rfl, rfl⟩ := g1
            refine ⟨_, q1, C', fr, rfl, by omega, by rw [forget_length]; omega, g4, fun hp => ⟨(g5 hp).1, fun hq => by cases hq⟩, fun q v hq => ?_⟩
            obtain ⟨hq1, hq2⟩ := forget_get _ _ _ _ _ _ hq
            obtain ⟨u, hu, hvr⟩ := g6 q v hq1
            exact ⟨u, by rw [q3, if_neg (by omega)]; exact hu, hvr⟩
        | map es c => rw [hgj] at hni; simp [NI] at hni
        | mapIter m s sn st => rw [hgj] at hni; simp [NI] at hni
        | strIter s p => rw [hgj] at hni; simp [NI] at hni
        | loop st pd tm ps a b => rw [hgj] at hni; simp [NI] at hni
      · refine ⟨o', (q4 b' eb).trans m1, ?_⟩
        cases hgj : h.get j with
        | cells cs2 e2 f2 base2 sh2 ro2 pl2 =>
          rw [hgj] at m2
          simp only
          split
          · obtain ⟨C2, fr2, g1, g2, g3, g4, g5, g6⟩ := m2
            exact ⟨C2, fr2, g1, g2, by rw [forget_length]; omega, g4, g5, fun q v hq => g6 q v (forget_get _ _ _ _ _ _ hq).1⟩
          · exact m2
        | _ => rw [hgj] at m2; exact m2
  · intro j k b' c' c'' N1 N2 hjk hj hk
    have hni := hr.ni _ _ _ _ _ _ _ hjk hj hk
    have same : ∀ j, (∃ cs2 cs3 e2 f2 base2 sh2 ro2 pl2, h.get j = .cells cs2 e2 f2 base2 sh2 ro2 pl2 ∧ h'.get j = .cells cs3 e2 f2 base2 sh2 ro2 pl2) ∨ h'.get j = h.get j := by
      intro j
      by_cases e : j = i
      · subst e; exact .inl ⟨_, _, _, _, _, _, _, _, hget, hget'⟩
      · rw [hoth j e]
        cases hgj : h.get j with
        | cells cs2 e2 f2 base2 sh2 ro2 pl2 =>
          simp only
          split
          · exact .inl ⟨_, _, _, _, _, _, _, _, rfl, rfl⟩
          · exact .inr rfl
        | _ => exact .inr rfl
    rcases same j with ⟨_, _, _, _, _, _, _, _, j1, j2⟩ | j2 <;> rcases same k with ⟨_, _, _, _, _, _, _, _, l1, l2⟩ | l2
    · rw [j2, l2]; rw [j1, l1] at hni; exact hni
    · rw [j2, l2]; rw [j1] at hni; cases e : h.get k <;> rw [e] at hni <;> exact hni
    · rw [j2, l2]; rw [l1] at hni; cases e : h.get j <;> rw [e] at hni <;> exact hni
    · rw [j2, l2]; exact hni
  · intro j b' c' N' hj hro
    by_cases e : j = i
    · subst e; rw [hi] at hj; simp at hj; obtain ⟨rfl, rfl, rfl⟩ := hj; exact hbB
    · refine hr.own _ _ _ _ hj ?_
      rw [hoth j e] at hro
      cases hgj : h.get j with
      | cells cs2 e2 f2 base2 sh2 ro2 pl2 => rw [hgj] at hro; simp only at hro; split at hro <;> exact hro
      | _ => rw [hgj] at hro; exact hro

/-- A row of cells is read. -/
theorem Rel.load (hr : Rel P ifs φ w0 h w) {i o n : Nat} {vs : List AV} {b co N : Nat} (hi : φ i = some (b, co, N)) (hl : h.cellsAt (i, o) n = some vs) :
    ∃ us, VRs φ vs us ∧ us.length = n ∧ ∀ j v, us[j]? = some v → w.cell? ⟨b, co + o + j, none⟩ = some v := by
  unfold AH.cellsAt at hl
  simp only at hl
  split at hl
  case h_2 => cases hl
  rename_i cs e fam base sh ro pl hget
  obtain ⟨t1, t2⟩ := takeSome_spec _ _ _ hl
  obtain ⟨ob, k1, k2⟩ := hr.blk _ _ _ _ hi
  rw [hget] at k2
  obtain ⟨C, fr, rfl, hN, hco, hfz, hpl, hcell⟩ := k2
  have hex : ∀ j, j < n → ∃ u, C[co + o + j]? = some u ∧ ∀ v, vs[j]? = some v → VR φ v u := by
    intro j hj
    have hv : vs[j]? = some vs[j] := List.getElem?_eq_getElem (by omega)
    have := t2 j _ hv
    rw [List.getElem?_drop] at this
    obtain ⟨u, hu, hvr⟩ := hcell _ _ this
    exact ⟨u, by rw [← hu, Nat.add_assoc], fun v hv' => by rw [hv] at hv'; simp at hv'; subst hv'; exact hvr⟩
  refine ⟨(List.range n).map (fun j => C.getD (co + o + j) undef), ?_, by simp, ?_⟩
  · refine VRs.iff.2 ⟨by simp [t1], fun j a v ha hv => ?_⟩
    have hj : j < n := by rw [← t1]; exact (List.getElem?_eq_some_iff.1 ha).1
    obtain ⟨u, hu, hvr⟩ := hex j hj
    simp [hj] at hv
    rw [hu] at hv; simp at hv; subst hv
    exact hvr a ha
  · intro j v hv
    have hj : j < n := by have := (List.getElem?_eq_some_iff.1 hv).1; simpa using this
    obtain ⟨u, hu, _⟩ := hex j hj
    simp [hj] at hv
    rw [hu] at hv; simp at hv; subst hv
    simp [World.cell?, k1, hu]
end

end Go.Proofs.YtjihmonajekomaaGreatDoor.Ax
