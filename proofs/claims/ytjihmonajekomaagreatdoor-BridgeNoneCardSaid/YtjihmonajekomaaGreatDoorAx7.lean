/- The operations that leave memory alone and look at none, all of them. Conditions: as each theorem states. -/
import Derived.Test.YtjihmonajekomaaGreatDoorAx6
namespace Go.Proofs.YtjihmonajekomaaGreatDoor.Ax
open Go Go.RowKit
set_option linter.unusedVariables false

theorem aggSize_spec {P : Program} {t : TypeId} {sz : Option Nat} (h : aggSize P t = some sz) : ∃ n, szOf P t = some n ∧ isAggOf P t = some sz.isSome ∧ (sz = some n ∨ sz = none) := by
  unfold aggSize at h
  split at h
  · rename_i n h1 h2; simp at h; subst h; exact ⟨n, h2, h1, .inl rfl⟩
  · rename_i n h1 h2; simp at h; subst h; exact ⟨n, h2, h1, .inr rfl⟩
  · cases h

theorem part_sound {P : Program} {φ : Emb} {t : TypeId} {n : Nat} {agg : Bool} (hn : szOf P t = some n) (ha : isAggOf P t = some agg) {cs : List AV} {cs' : Array Value} (hcs : VRs φ cs cs'.toList) {off : Nat} {v : AV}
    (hp : partOf cs off (if agg then some n else none) = some v) (w : World) : ∃ v', (part t cs' off).run P w = .ok v' w ∧ VR φ v v' := by
  cases agg with
  | true =>
    simp only [if_true, partOf] at hp
    split at hp
    · simp at hp; subst hp
      refine ⟨.agg (cs'.extract off (off + n)), by simp [part, run_isAgg w ha, run_size w hn], ?_⟩
      simp only [VR]
      refine ⟨_, rfl, ?_⟩
      rw [Array.toList_extract, List.extract_eq_drop_take', List.drop_take, Nat.add_sub_cancel_left]
      exact (hcs.drop off).take n
    · cases hp
  | false =>
    simp only [Bool.false_eq_true, if_false, partOf] at hp
    obtain ⟨u, hu, hvr⟩ := hcs.get hp
    exact ⟨u, by simp [part, run_isAgg w ha, show cs'[off]? = some u by simpa using hu], hvr⟩

theorem part_sound' {P : Program} {φ : Emb} {t : TypeId} {sz : Option Nat} (hs : aggSize P t = some sz) {cs : List AV} {cs' : Array Value} (hcs : VRs φ cs cs'.toList) {off : Nat} {v : AV}
    (hp : partOf cs off sz = some v) (w : World) : ∃ v', (part t cs' off).run P w = .ok v' w ∧ VR φ v v' := by
  obtain ⟨n, h1, h2, h3⟩ := aggSize_spec hs
  refine part_sound h1 h2 hcs (off := off) (v := v) ?_ w
  rcases h3 with rfl | rfl <;> simpa using hp

/-! ### Putting parts together -/
theorem foldl_put (off : Nat) : ∀ (l : List Value) (k : Nat) (cs : Array Value), off + k + l.length ≤ cs.size →
    ((l.zipIdx k).foldl (fun (cs : Array Value) (x : Value × Nat) => cs.setIfInBounds (off + x.2) x.1) cs).toList = cs.toList.take (off + k) ++ l ++ cs.toList.drop (off + k + l.length)
  | [], k, cs, _ => by simp
  | v :: l, k, cs, h => by
    simp only [List.length_cons] at h
    rw [List.zipIdx_cons, List.foldl_cons, foldl_put off l (k + 1) _ (by simp; omega)]
    simp only [Array.toList_setIfInBounds, List.length_cons]
    have hlt : off + k < cs.toList.length := by simp; omega
    rw [List.take_set, List.drop_set_of_lt (by omega)]
    have e1 : off + (k + 1) = off + k + 1 := by omega
    rw [e1, List.take_succ_eq_append_getElem hlt, List.set_append_right _ _ (by simp; omega)]
    have hlen : cs.toList.length = cs.size := Array.length_toList
    simp only [List.length_take, hlen, show min (off + k) cs.size = off + k by omega, Nat.sub_self, List.append_assoc, List.cons_append, List.nil_append, List.set_cons_zero]
    congr 3
    congr 1
    omega

inductive Parts (φ : Emb) (place : Nat → Option (Nat × Nat)) : List (Nat × Value) → List (Nat × Nat × AV) → Prop where
  | nil : Parts φ place [] []
  | cons {i : Nat} {v : Value} {off size : Nat} {a : AV} {ps : List (Nat × Value)} {aps : List (Nat × Nat × AV)} : place i = some (off, size) → VR φ a v → Parts φ place ps aps → Parts φ place ((i, v) :: ps) ((off, size, a) :: aps)

theorem fill_sound {φ : Emb} {place : Nat → Option (Nat × Nat)} {ps : List (Nat × Value)} {aps : List (Nat × Nat × AV)} (hp : Parts φ place ps aps) : ∀ {acs r : List AV} {cs : Array Value}, VRs φ acs cs.toList → fillIn acs aps = some r →
    ∃ cs', Instr.fill place cs ps = some cs' ∧ VRs φ r cs'.toList := by
  induction hp with
  | nil => intro acs r cs hc hf; simp [fillIn] at hf; subst hf; exact ⟨cs, rfl, hc⟩
  | @cons i v off size a ps aps hpl hv _ ih =>
    intro acs r cs hc hf
    simp only [fillIn] at hf
    split at hf
    case isFalse => cases hf
    rename_i hs
    have hcl := hc.len
    have hvl := hv.cells.len
    simp at hcl hvl
    have hfold := foldl_put off v.cells.toList 0 cs (by simp; omega)
    have hcs1 : ∃ cs1 : Array Value, (v.cells.zipIdx.foldl (fun (cs : Array Value) (x : Value × Nat) => cs.setIfInBounds (off + x.2) x.1) cs) = cs1 ∧ VRs φ (acs.take off ++ a.cells ++ acs.drop (off + size)) cs1.toList := by
      refine ⟨_, rfl, ?_⟩
      rw [← Array.foldl_toList, Array.toList_zipIdx, hfold]
      have := ((hc.take off).append hv.cells).append (hc.drop (off + size))
      simpa [show v.cells.size = size by omega] using this
    obtain ⟨cs1, h1, h2⟩ := hcs1
    obtain ⟨cs', h3, h4⟩ := ih h2 hf
    refine ⟨cs', ?_, h4⟩
    simp only [Instr.fill, hpl]
    rw [if_neg (by simp; omega)]
    have h1' : (v.cells.zipIdx.foldl (fun cs (x : Value × Nat) => match x with | (c, j) => cs.setIfInBounds (off + j) c) cs) = cs1 := h1
    rw [h1']
    exact h3

theorem run_mapM_list {P : Program} {α β : Type} {w : World} (f : α → Sem β) (g : α → β) : ∀ (l : List α), (∀ a ∈ l, (f a).run P w = .ok (g a) w) → (l.mapM f).run P w = .ok (l.map g) w
  | [], _ => by simp
  | a :: l, h => by
    simp only [List.mapM_cons, Sem.run_bind, h a (by simp), Result.andThen_ok, run_mapM_list f g l (fun x hx => h x (by simp [hx])), List.map_cons, Sem.run_pure]

theorem run_mapM_array {P : Program} {α β : Type} {w : World} (f : α → Sem β) (g : α → β) (l : Array α) (h : ∀ a ∈ l.toList, (f a).run P w = .ok (g a) w) : (l.mapM f).run P w = .ok (l.map g) w := by
  rw [Array.mapM_eq_mapM_toList]
  simp only [Sem.run_map, run_mapM_list f g l.toList h, Result.andThen_ok]
  congr 1
  apply Array.toList_inj.1
  simp

theorem build_struct {P : Program} {φ : Emb} {t : TypeId} {fs : Array Field} (ht : P.underlying t = some (.struct fs)) (hall : fs.toList.all (fun f => (szOf P f.type).isSome) = true) {zero r : List AV} (hz : zeroCellsOf P t = some zero)
    {ps : Array (Nat × Value)} {aps : List (Nat × Nat × AV)} (hp : Parts φ (fun i => (fs[i]?).bind fun (f : Field) => (szOf P f.type).map fun s => (f.offset, s)) ps.toList aps) (hf : fillIn zero aps = some r) (w : World) :
    ∃ v', (Instr.build t ps).run P w = .ok v' w ∧ VR φ (.agg r) v' := by
  obtain ⟨i, z, hi, hz1, hzr, _⟩ := zeroCells_spec hz φ
  obtain ⟨cs', h1, h2⟩ := fill_sound hp hzr hf
  have hm := run_mapM_array (P := P) (w := w) (fun f : Field => do pure (f.offset, ← sizeOf f.type)) (fun f => (f.offset, (szOf P f.type).getD 0)) fs (fun f hf' => by
    have := List.all_eq_true.1 hall f hf'
    obtain ⟨n, hn⟩ := Option.isSome_iff_exists.1 this
    simp [run_size w hn, hn])
  have hplace : (fun i : Nat => (fs[i]?).bind fun (f : Field) => (szOf P f.type).map fun s => (f.offset, s)) = fun i : Nat => (fs.map (fun f => (f.offset, (szOf P f.type).getD 0)))[i]? := by
    funext i
    rw [Array.getElem?_map]
    cases e : fs[i]? with
    | none => rfl
    | some f =>
      have hmem : f ∈ fs.toList := by rw [← Array.mem_def]; exact Array.mem_of_getElem? e
      obtain ⟨n, hn⟩ := Option.isSome_iff_exists.1 (List.all_eq_true.1 hall f hmem)
      simp [hn]
  rw [hplace] at h1
  refine ⟨.agg cs', ?_, by simp only [VR]; exact ⟨_, rfl, h2⟩⟩
  simp only [Instr.build, Sem.run_bind, run_zeroV w hi hz1, Result.andThen_ok, run_und w ht, hm, h1, Sem.run_pure]

theorem build_array {P : Program} {φ : Emb} {t e : TypeId} {n sz : Nat} (ht : P.underlying t = some (.array n e)) (he : szOf P e = some sz) {zero r : List AV} (hz : zeroCellsOf P t = some zero)
    {ps : Array (Nat × Value)} {aps : List (Nat × Nat × AV)} (hp : Parts φ (fun i => some (i * sz, sz)) ps.toList aps) (hf : fillIn zero aps = some r) (w : World) :
    ∃ v', (Instr.build t ps).run P w = .ok v' w ∧ VR φ (.agg r) v' := by
  obtain ⟨i, z, hi, hz1, hzr, _⟩ := zeroCells_spec hz φ
  obtain ⟨cs', h1, h2⟩ := fill_sound hp hzr hf
  refine ⟨.agg cs', ?_, by simp only [VR]; exact ⟨_, rfl, h2⟩⟩
  simp only [Instr.build, Sem.run_bind, run_zeroV w hi hz1, Result.andThen_ok, run_und w ht, run_size w he, h1, Sem.run_pure]

theorem parts_of {φ : Emb} {env : List AV} {ρ : Operand → Value} (ho : Opds φ env ρ) {place : Nat → Option (Nat × Nat)} {f : Nat × Operand → Option (Nat × Nat × AOpd)}
    (hf : ∀ p r, f p = some r → place p.1 = some (r.1, r.2.1) ∧ cOpd p.2 = some r.2.2) : ∀ {l : List (Nat × Operand)} {r : List (Nat × Nat × AOpd)}, optAll (l.map f) = some r → Parts φ place (l.map fun p => (p.1, ρ p.2)) (evParts env r)
  | [], r, h => by simp [optAll] at h; subst h; exact .nil
  | p :: l, r, h => by
    obtain ⟨a, r', h1, h2, rfl⟩ := optAll_cons h
    obtain ⟨h3, h4⟩ := hf p a h1
    exact .cons h3 (ho _ _ h4) (parts_of ho hf h2)

/-! ### Least and greatest -/
theorem minmax_sound {P : Program} {φ : Emb} (isMax : Bool) (w : World) : ∀ {r : List AV} {x v : AV} {x' : Value} {r' : List Value}, VR φ x x' → VRs φ r r' → minmaxOf isMax x r = some v →
    ∃ v', (r'.foldlM (if isMax then Builtin.max2 else Builtin.min2) x').run P w = .ok v' w ∧ VR φ v v'
  | [], x, v, x', r', hx, hr, hv => by
    simp only [VRs] at hr; subst hr
    simp [minmaxOf] at hv; subst hv
    exact ⟨x', by simp, hx⟩
  | y :: r, x, v, x', r', hx, hr, hv => by
    simp only [VRs] at hr
    obtain ⟨y', r'', rfl, hy, hr⟩ := hr
    cases x <;> cases y <;> simp only [minmaxOf] at hv <;> try cases hv
    rename_i k a k' b
    split at hv
    case isFalse => cases hv
    rename_i hk
    subst hk
    obtain rfl := vr_int hx
    obtain rfl := vr_int hy
    obtain ⟨v', h1, h2⟩ := minmax_sound (P := P) isMax w (x' := .int k (if isMax then (if b > a then b else a) else (if b < a then b else a))) (by simp [VR]) hr hv
    refine ⟨v', ?_, h2⟩
    rw [List.foldlM_cons]
    cases isMax <;> simpa [Builtin.max2, Builtin.min2] using h1

theorem zeroOf_sound {P : Program} {t : TypeId} {z : AV} (h : zeroOf P t = some z) (φ : Emb) (w : World) : ∃ v, (zeroValue t).run P w = .ok v w ∧ VR φ z v := by
  unfold zeroOf at h
  split at h
  · rename_i i h1 h2
    split at h
    · rename_i cs hz
      simp only [Option.map_eq_some_iff] at h
      obtain ⟨cs', h3, rfl⟩ := h
      exact ⟨.agg cs, run_zeroV w h2 hz, by simp only [VR]; exact ⟨_, rfl, (optAll_base h3).1⟩⟩
    · cases h
  · rename_i i h1 h2
    split at h
    · rename_i z' hz
      exact ⟨z', run_zeroV w h2 hz, ofBase_vr h⟩
    · cases h
  · cases h
end Go.Proofs.YtjihmonajekomaaGreatDoor.Ax
