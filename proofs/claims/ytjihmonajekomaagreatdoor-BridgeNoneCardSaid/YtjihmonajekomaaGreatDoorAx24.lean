/- What came in: slices of the caller's, as blocks that are read only. Conditions: as each theorem states. -/
import Derived.Test.YtjihmonajekomaaGreatDoorAx23
import Derived.Deep.Slices
namespace Go.Proofs.YtjihmonajekomaaGreatDoor.Ax
open Go Go.RowKit Go.Deep
set_option linter.unusedVariables false

/-- All blocks are read only, or none. -/
def AllRo (h : AH) : Prop := ∀ i, roOf (h.get i) = true

theorem get_push_cases (h : AH) (b : ABlk) (i : Nat) : (i = h.next ∧ (h.push b).get i = b) ∨ (i ≠ h.next ∧ (h.push b).get i = h.get i) := by
  by_cases e : i = h.next
  · exact .inl ⟨e, by rw [AH.get_push, if_pos e]⟩
  · exact .inr ⟨e, by rw [AH.get_push, if_neg e]⟩

theorem AllRo.push {h : AH} (ha : AllRo h) {b : ABlk} (hb : roOf b = true) : AllRo (h.push b) := fun i => by
  rcases get_push_cases h b i with ⟨_, e⟩ | ⟨_, e⟩ <;> rw [e]
  · exact hb
  · exact ha i

theorem NI.ro {x y : ABlk} (hx : roOf x = true) (hy : roOf y = true) (a b : Nat) : NI x y a b := by
  cases x <;> cases y <;> simp_all [roOf, NI]

section
variable {P : Program} {ifs : List TypeId} {φ : Emb} {w : World} {h : AH}

/-- One more block that came in. -/
theorem Rel.pushIn (hr : Rel P ifs φ w h w) (ha : AllRo h) {b : ABlk} (hb : roOf b = true) {B co N : Nat} {o : Obj} (ho : w.heap[B]? = some o) (hbr : BR P ifs (upd φ h.next (B, co, N)) b o co N) :
    Rel P ifs (upd φ h.next (B, co, N)) w (h.push b) w := by
  have hn := hr.none_next
  have he : Ext φ (upd φ h.next (B, co, N)) := ext_upd hn
  have hlt : B < w.heap.size := by
    rcases Nat.lt_or_ge B w.heap.size with h1 | h1
    · exact h1
    · rw [Array.getElem?_eq_none h1] at ho; cases ho
  have hro : ∀ i, roOf ((h.push b).get i) = true := ha.push hb
  have hcase : ∀ i b' co' N', upd φ h.next (B, co, N) i = some (b', co', N') → (i = h.next ∧ b' = B ∧ co' = co ∧ N' = N) ∨ (i ≠ h.next ∧ φ i = some (b', co', N')) := by
    intro i b' co' N' hi
    unfold upd at hi
    by_cases e : i = h.next
    · rw [if_pos e] at hi; simp at hi; exact .inl ⟨e, hi.1.symm, hi.2.1.symm, hi.2.2.symm⟩
    · rw [if_neg e] at hi; exact .inr ⟨e, hi⟩
  refine ⟨hr.below, ?_, ?_, ?_, ?_, ?_⟩
  · intro i b' co' N' hi
    rcases hcase i b' co' N' hi with ⟨rfl, rfl, _, _⟩ | ⟨_, hi'⟩
    · exact ⟨Nat.lt_succ_self _, hlt⟩
    · have := hr.dom i b' co' N' hi'; exact ⟨Nat.lt_succ_of_lt this.1, this.2⟩
  · intro i hi
    rcases get_push_cases h b i with ⟨e, _⟩ | ⟨e, e2⟩
    · exact ⟨(B, co, N), by unfold upd; rw [if_pos e]⟩
    · rw [e2] at hi
      obtain ⟨x, hx⟩ := hr.all i hi
      exact ⟨x, he i x hx⟩
  · intro i b' co' N' hi
    rcases hcase i b' co' N' hi with ⟨rfl, rfl, rfl, rfl⟩ | ⟨e, hi'⟩
    · exact ⟨o, ho, by rw [get_push_new _ _ _ rfl]; exact hbr⟩
    · obtain ⟨o', h1, h2⟩ := hr.blk i b' co' N' hi'
      exact ⟨o', h1, by rw [get_push_old _ _ _ (hr.dom i b' co' N' hi').1]; exact BR.ext P ifs he h2⟩
  · intro i j b' co1 co2 N1 N2 _ _ _
    exact NI.ro (hro i) (hro j) _ _
  · intro i b' co' N' _ h0
    rw [hro i] at h0; cases h0

/-- A block's number without a block. -/
theorem Rel.pushDead (hr : Rel P ifs φ w h w) : Rel P ifs φ w (h.push .dead) w := by
  have old : ∀ i x, φ i = some x → (h.push .dead).get i = h.get i := fun i x hi => get_push_old _ _ _ (hr.dom i x.1 x.2.1 x.2.2 hi).1
  refine ⟨hr.below, fun i b co N hi => let ⟨h1, h2⟩ := hr.dom i b co N hi; ⟨Nat.lt_succ_of_lt h1, h2⟩, fun i hi => ?_, fun i b co N hi => ?_, fun i j b co co' N N' hij h1 h2 => ?_, fun i b co N hi h0 => ?_⟩
  · rcases get_push_cases h .dead i with ⟨_, e⟩ | ⟨_, e⟩
    · rw [e] at hi; exact absurd rfl hi
    · rw [e] at hi; exact hr.all i hi
  · rw [old i _ hi]; exact hr.blk i b co N hi
  · rw [old i _ h1, old j _ h2]; exact hr.ni i j b co co' N N' hij h1 h2
  · rw [old i _ hi] at h0; exact hr.own i b co N hi h0

variable {H : Type} {enc : TypeId × Value → H} {base : Nat} {held : Bool} {α : Type}

theorem cell_heap {a : Addr} {v : Value} (hc : w.cell? a = some v) : ∃ C e fr, w.heap[a.block]? = some (.cells C e fr) ∧ a.spot = none ∧ C[a.off]? = some v := by
  unfold World.cell? at hc
  split at hc
  · rename_i C e fr hh
    split at hc
    · cases hc
    · rename_i hs
      refine ⟨C, e, fr, hh, ?_, hc⟩
      cases hq : a.spot with
      | none => rfl
      | some s => rw [hq] at hs; simp at hs
  · cases hc

/-- A SLICE THAT CAME IN. 'hrow': what an element's cells are, whatever the places. -/
theorem slice_in (hr : Rel P ifs φ w h w) (ha : AllRo h) {t e : TypeId} {v : Value} {ds : DataW H} {ps : List MemPlace} {es : Nat} {f : α → List AV} (ht : P.underlying t = some (.slice e)) (hce : P.cellsOf e = es) (hes : 0 < es)
    (hlen : ∀ x, (f x).length = es)
    (hrow : ∀ n cs x, DataW.trod enc P w base (fun _ => true) held n e cs = some x → cs.length = es → ∃ y : α, ∀ φ, VRs φ (f y) cs)
    {base0 : Nat} (hok : Value.okWide P w .any base0 t v) {fuel : Nat} (hd : DataW.trod enc P w base (fun _ => true) held fuel t [v] = some (ds, ps)) :
    ∃ (va : AV) (L : List α) (φ' : Emb) (b : ABlk), Rel P ifs φ' w (h.push b) w ∧ AllRo (h.push b) ∧ Ext φ φ' ∧ VR φ' va v ∧ IsIn (h.push b) va es f L h.next := by
  rcases open_slice ht hd with ⟨hv, _⟩ | ⟨a, len, cap, m, n, D, Pl, hv, hb, hl, hm, hmm, _, hx⟩
  · simp only [List.cons.injEq, and_true] at hv
    subst hv
    refine ⟨.slice none 0 0 0, [], φ, .dead, hr.pushDead, ha.push rfl, Ext.refl _, by simp [VR], Nat.lt_succ_self _, hlen, ⟨none, 0, 0, rfl⟩, .inl rfl⟩
  · simp only [List.cons.injEq, and_true] at hv
    subst hv
    simp only [if_true] at hmm
    subst hmm
    have hex : ∃ row cells, w.shape? a.block = some (row, cells) := by
      simp only [Value.okWide, ht, Cell.okWide, Cell.ok, World.has] at hok
      obtain ⟨_, _, _, _, row, cells, h1, _⟩ := hok
      exact ⟨row, cells, h1⟩
    by_cases hm0 : m = 0
    · subst hm0
      have hl0 : len = 0 := by omega
      subst hl0
      obtain ⟨o, ho⟩ : ∃ o, w.heap[a.block]? = some o := by
        obtain ⟨row, cells, h1⟩ := hex
        cases e : w.heap[a.block]? with
        | some o => exact ⟨o, rfl⟩
        | none => simp [World.shape?, e] at h1
      refine ⟨.slice (some (h.next, 0)) 0 0 es, [], upd φ h.next (a.block, 0, 0), .dead, hr.pushIn ha rfl ho trivial, ha.push rfl, ext_upd hr.none_next, ?_, Nat.lt_succ_self _, hlen, ⟨_, _, _, rfl⟩, .inl rfl⟩
      simp only [VR]
      exact ⟨a.block, 0, 0, 0, a, by simp [upd], rfl, Nat.le_refl _, Nat.le_refl _, .inl rfl⟩
    · -- the elements
      rw [hce] at hx
      have each : ∀ i, i < m → ∃ q : α, ∃ cs : List Value, w.cells? base (a.add (i * es)) es = some cs ∧ ∀ φ, VRs φ (f q) cs := by
        intro i hi
        obtain ⟨cs', h1, h2⟩ := hx i hi
        obtain ⟨_, hl', _⟩ := World.cells?_some h1
        obtain ⟨y, hy⟩ := hrow _ _ _ h2 hl'
        exact ⟨y, cs', h1, hy⟩
      have hq0 := each 0 (by omega)
      haveI : Inhabited α := ⟨hq0.choose⟩
      obtain ⟨q, hq⟩ := choose_lt each
      have hcell : ∀ i, i < m → ∀ j, j < es → ∃ u, w.cell? (a.add (i * es + j)) = some u ∧ ∀ φ v, (f (q i))[j]? = some v → VR φ v u := by
        intro i hi j hj
        obtain ⟨cs, h1, h2⟩ := hq i hi
        obtain ⟨_, hl', hc⟩ := World.cells?_some h1
        have e1 := hc j hj
        rw [add_add] at e1
        refine ⟨cs[j]'(by omega), by rw [e1, List.getElem?_eq_getElem (by omega)], fun φ v hv => ?_⟩
        obtain ⟨u, k1, k2⟩ := (h2 φ).get hv
        rw [List.getElem?_eq_getElem (by omega)] at k1
        cases k1
        exact k2
      obtain ⟨u0, hu0, _⟩ := hcell 0 (by omega) 0 hes
      obtain ⟨C, e', fr, hh, hsp, _⟩ := cell_heap hu0
      have hblk : ∀ k, (a.add k).block = a.block := fun k => by unfold Addr.add; split <;> rfl
      rw [hblk] at hh
      have haspot : a.spot = none := by simpa [Addr.add] using hsp
      have hoff : ∀ k, (a.add k).off = a.off + k := fun k => by unfold Addr.add; split <;> simp_all
      have hC : ∀ i, i < m → ∀ j, j < es → ∃ u, C[a.off + (i * es + j)]? = some u ∧ ∀ φ v, (f (q i))[j]? = some v → VR φ v u := by
        intro i hi j hj
        obtain ⟨u, h1, h2⟩ := hcell i hi j hj
        obtain ⟨C', _, _, h3, _, h4⟩ := cell_heap h1
        rw [hblk, hh] at h3
        simp only [Option.some.injEq, Obj.cells.injEq] at h3
        obtain ⟨rfl, _, _⟩ := h3
        rw [hoff] at h4
        exact ⟨u, h4, h2⟩
      have hN : a.off + m * es ≤ C.size := by
        obtain ⟨u, h1, _⟩ := hC (m - 1) (by omega) (es - 1) (by omega)
        have h2 : a.off + ((m - 1) * es + (es - 1)) < C.size := by
          rcases Nat.lt_or_ge (a.off + ((m - 1) * es + (es - 1))) C.size with h3 | h3
          · exact h3
          · rw [Array.getElem?_eq_none h3] at h1; cases h1
        have h3 : (m - 1) * es + es = m * es := by rw [← Nat.succ_mul]; congr 1; omega
        omega
      let L := (List.range len).map q
      have hLl : L.length = len := by simp [L]
      have hcsl : (L.flatMap f).length = len * es := by rw [flatMap_len hlen, hLl]
      have hle : len * es ≤ m * es := Nat.mul_le_mul_right es hl
      have hbr : BR P ifs (upd φ h.next (a.block, a.off, C.size)) (.cells ((L.flatMap f).map some) e' h.next 0 false true false) (.cells C e' fr) a.off C.size := by
        refine ⟨C, fr, rfl, rfl, by simp only [List.length_map]; omega, fun h0 => (by cases h0), fun h0 => (by cases h0), fun j v hj => ?_⟩
        rw [List.getElem?_map] at hj
        have hj' : (L.flatMap f)[j]? = some v := by
          cases hq' : (L.flatMap f)[j]? with
          | none => rw [hq'] at hj; cases hj
          | some y => rw [hq'] at hj; simpa using hj
        have hjl : j < len * es := by rw [← hcsl]; exact (List.getElem?_eq_some_iff.1 hj').1
        have hdm : j / es < len := Nat.div_lt_of_lt_mul (by rw [Nat.mul_comm]; exact hjl)
        have hmod : j % es < es := Nat.mod_lt _ hes
        have hje : j = j / es * es + j % es := by rw [Nat.mul_comm]; exact (Nat.div_add_mod j es).symm
        obtain ⟨u, h1, h2⟩ := hC (j / es) (by omega) (j % es) hmod
        rw [← hje] at h1
        refine ⟨u, h1, h2 _ v ?_⟩
        have hLi : L[j / es]? = some (q (j / es)) := by simp [L, hdm]
        rw [← flatMap_row hlen hLi, List.getElem?_take, if_pos hmod, List.getElem?_drop, ← hje]
        exact hj'
      have hget : (h.push (.cells ((L.flatMap f).map some) e' h.next 0 false true false)).get h.next = .cells ((L.flatMap f).map some) e' h.next 0 false true false := get_push_new _ _ _ rfl
      refine ⟨.slice (some (h.next, 0)) len len es, L, _, _, hr.pushIn ha rfl hh hbr, ha.push rfl, ext_upd hr.none_next, ?_, Nat.lt_succ_self _, hlen, ⟨_, _, _, by rw [hLl]⟩, .inr ⟨h.next, 0, len, _, _, _, _, _, _, by rw [hLl], hget, ?_⟩⟩
      · simp only [VR]
        refine ⟨a.block, a.off, C.size, m, a, by simp [upd], rfl, Nat.le_refl _, hl, .inr ⟨?_, ?_⟩⟩
        · cases a; simp_all
        · omega
      · refine (cellsAt_iff hget).2 ⟨by rw [hcsl, hLl], fun j v hj => ?_⟩
        rw [Nat.zero_add, List.getElem?_map, hj]; rfl

theorem AllRo.H0 : AllRo H0 := fun i => by rw [H0_get]; rfl
end

/-- A FUNCTION THAT GIVES A TRUTH VALUE, what came in lying in the evaluator's heap. -/
theorem wcalls_in {P : Program} {ifs : List TypeId} {T : Summary} {mt : Methods} (hT : SumSound P ifs T) (hmt : MtOk P mt) (hmix : P.follows .mixedOrders = true) {f : FuncId} {args : List AV} {φ : Emb} {h : AH} {w : World} (hr : Rel P ifs φ w h w)
    (hv : WCall ⟨funcsOf P ifs, T, mt⟩ (.fn f) args h fun v _ => v = .bool true) {vs : Array Value} (hvs : VRs φ args vs.toList)
    (hbody : ∃ fn, P.funcs[f]? = some fn ∧ fn.body.isSome = true) : Calls P f vs w fun e w' => e = .returned (.bool true) ∧ Below w.heap.size w w' :=
  wcalls_bool hT hmt hmix hr hv hvs hbody
end Go.Proofs.YtjihmonajekomaaGreatDoor.Ax
