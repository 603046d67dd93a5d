/- Blocks that stay (by the name of their family), slices that hold rows; reading, storing, appending. Conditions: as each theorem states. -/
import Derived.Test.YtjihmonajekomaaGreatDoorAx22
namespace Go.Proofs.YtjihmonajekomaaGreatDoor.Ax
open Go
set_option linter.unusedVariables false
set_option linter.unusedSimpArgs false

/-- The name of a block: its family's, if it has one. -/
def nameOf (q : Nat) : ABlk → Nat
  | .cells _ _ f _ _ _ _ => f
  | _ => q

/-- All old blocks but those of some names stay. -/
structure Keep (h h' : AH) (S : List Nat) : Prop where
  next : h.next ≤ h'.next
  old : ∀ q, h.get q ≠ .dead → nameOf q (h.get q) < h.next → nameOf q (h.get q) ∉ S → h'.get q = h.get q

theorem Keep.refl (h : AH) (S : List Nat) : Keep h h S := ⟨Nat.le_refl _, fun _ _ _ _ => rfl⟩

theorem Keep.trans {h h1 h2 : AH} {S T U : List Nat} (a : Keep h h1 S) (b : Keep h1 h2 T) (hs : ∀ x ∈ S, x < h.next → x ∈ U) (ht : ∀ x ∈ T, x < h.next → x ∈ U) : Keep h h2 U := by
  refine ⟨Nat.le_trans a.next b.next, fun q hd hn hu => ?_⟩
  have e := a.old q hd hn (fun hm => hu (hs _ hm hn))
  rw [b.old q (by rw [e]; exact hd) (by rw [e]; exact Nat.lt_of_lt_of_le hn a.next) (by rw [e]; exact fun hm => hu (ht _ hm hn)), e]

theorem Keep.weaken {h h' : AH} {S U : List Nat} (a : Keep h h' S) (hs : ∀ x ∈ S, x < h.next → x ∈ U) : Keep h h' U :=
  a.trans (Keep.refl h' []) hs (fun x hx => by simp at hx)

/-- A cells block that stays. -/
theorem Keep.cells {h h' : AH} {S : List Nat} (a : Keep h h' S) {q : Nat} {row : List (Option AV)} {e F base : Nat} {sh ro pl : Bool} (hg : h.get q = .cells row e F base sh ro pl) (hF : F < h.next) (hS : F ∉ S) : h'.get q = .cells row e F base sh ro pl := by
  rw [a.old q (by rw [hg]; simp) (by rw [hg]; exact hF) (by rw [hg]; exact hS), hg]

theorem Keep.row (h : AH) (vs : List AV) (e : TypeId) (p : Bool) (S : List Nat) : Keep h (h.row vs e p) S := by
  refine ⟨Nat.le_succ _, fun q hd _ _ => ?_⟩
  exact get_row_old h vs e p q (AH.get_lt hd).1

theorem Keep.push (h : AH) (b : ABlk) (S : List Nat) : Keep h (h.push b) S := by
  refine ⟨Nat.le_succ _, fun q hd _ _ => ?_⟩
  exact get_push_old h b q (AH.get_lt hd).1

theorem get_lt_next {h : AH} {b : Nat} {x : ABlk} (hg : h.get b = x) (hx : x ≠ .dead) : b < h.next := (AH.get_lt (by rw [hg]; exact hx)).1
theorem cells_lt {h : AH} {b : Nat} {row : List (Option AV)} {e F base : Nat} {sh ro pl : Bool} (hg : h.get b = .cells row e F base sh ro pl) : b < h.next := get_lt_next hg (by simp)

/-- One cell. -/
def cell1 (h : AH) (b o : Nat) : Option AV :=
  match h.get b with
  | .cells cs .. => (match cs[o]? with | some (some v) => some v | _ => none)
  | _ => none

theorem takeSome_one (cs : List (Option AV)) : takeSome 1 cs = (match cs[0]? with | some (some v) => some [v] | _ => none) := by
  cases cs with
  | nil => rfl
  | cons c r => cases c <;> rfl

@[simp] theorem loadV_cell (h : AH) (b o : Nat) : loadV h (.ptr (some (b, o))) = cell1 h b o := by
  simp only [loadV, cell1, AH.cellsAt]
  cases h.get b with
  | cells cs e f ba sh ro pl =>
    simp only [takeSome_one]
    rw [List.getElem?_drop]
    simp only [Nat.add_zero]
    cases cs[o]? with
    | none => rfl
    | some v => cases v <;> rfl
  | _ => rfl

theorem cell1_of {h : AH} {b : Nat} {row : List (Option AV)} {e F base : Nat} {sh ro pl : Bool} (hg : h.get b = .cells row e F base sh ro pl) (o : Nat) : cell1 h b o = (match row[o]? with | some (some v) => some v | _ => none) := by
  simp only [cell1, hg]

theorem cell1_row (h : AH) (vs : List AV) (e : TypeId) (p : Bool) (i : Nat) : cell1 (h.row vs e p) h.next i = vs[i]? := by
  rw [cell1_of (get_row_new h vs e p h.next rfl), List.getElem?_map]
  cases vs[i]? <;> rfl

theorem takeSome_of : ∀ (vs : List AV) (cs : List (Option AV)), (∀ (j : Nat) (v : AV), vs[j]? = some v → cs[j]? = some (some v)) → takeSome vs.length cs = some vs
  | [], _, _ => rfl
  | v :: vs, cs, h => by
    have h0 := h 0 v (by simp)
    cases cs with
    | nil => simp at h0
    | cons c r =>
      simp only [List.getElem?_cons_zero, Option.some.injEq] at h0
      subst h0
      have := takeSome_of vs r (fun j u hj => by have := h (j + 1) u (by simpa using hj); simpa using this)
      simp [takeSome, this]

theorem cellsAt_iff {h : AH} {b o n : Nat} {vs : List AV} {row : List (Option AV)} {e F base : Nat} {sh ro pl : Bool} (hg : h.get b = .cells row e F base sh ro pl) :
    h.cellsAt (b, o) n = some vs ↔ vs.length = n ∧ ∀ (j : Nat) (v : AV), vs[j]? = some v → row[o + j]? = some (some v) := by
  simp only [AH.cellsAt, hg]
  constructor
  · intro he
    obtain ⟨h1, h2⟩ := takeSome_spec n _ vs he
    exact ⟨h1, fun j v hj => by have := h2 j v hj; rwa [List.getElem?_drop] at this⟩
  · rintro ⟨rfl, h2⟩
    exact takeSome_of vs _ fun j v hj => by rw [List.getElem?_drop]; exact h2 j v hj

theorem cellsAt_get {h : AH} {b o n : Nat} {vs : List AV} (he : h.cellsAt (b, o) n = some vs) : ∃ row e F base sh ro pl, h.get b = .cells row e F base sh ro pl := by
  unfold AH.cellsAt at he
  split at he
  · rename_i cs e f ba sh ro pl hg; exact ⟨_, _, _, _, _, _, _, hg⟩
  · cases he

theorem cells_at_len {h : AH} {b o n : Nat} {vs : List AV} (he : h.cellsAt (b, o) n = some vs) : vs.length = n := by
  obtain ⟨row, e, F, base, sh, ro, pl, hg⟩ := cellsAt_get he
  exact ((cellsAt_iff hg).1 he).1

theorem cellsAt_sub {h : AH} {b o n : Nat} {vs : List AV} (he : h.cellsAt (b, o) n = some vs) (x k : Nat) (hk : x + k ≤ n) : h.cellsAt (b, o + x) k = some ((vs.drop x).take k) := by
  obtain ⟨row, e, F, base, sh, ro, pl, hg⟩ := cellsAt_get he
  obtain ⟨h1, h2⟩ := (cellsAt_iff hg).1 he
  refine (cellsAt_iff hg).2 ⟨by simp; omega, fun j v hj => ?_⟩
  rw [List.getElem?_take] at hj
  split at hj
  · rw [List.getElem?_drop] at hj
    rw [Nat.add_assoc]
    exact h2 _ v hj
  · cases hj

theorem cellsAt_cell {h : AH} {b o n : Nat} {vs : List AV} (he : h.cellsAt (b, o) n = some vs) (x : Nat) (hx : x < n) : cell1 h b (o + x) = vs[x]? := by
  obtain ⟨row, e, F, base, sh, ro, pl, hg⟩ := cellsAt_get he
  obtain ⟨h1, h2⟩ := (cellsAt_iff hg).1 he
  rw [cell1_of hg]
  obtain ⟨v, hv⟩ : ∃ v, vs[x]? = some v := ⟨vs[x]'(by omega), List.getElem?_eq_getElem (by omega)⟩
  rw [h2 x v hv, hv]

theorem Keep.cellsAt {h h' : AH} {S : List Nat} (a : Keep h h' S) {b o n : Nat} {vs : List AV} {row : List (Option AV)} {e F base : Nat} {sh ro pl : Bool} (hg : h.get b = .cells row e F base sh ro pl) (hF : F < h.next) (hS : F ∉ S) (he : h.cellsAt (b, o) n = some vs) : h'.cellsAt (b, o) n = some vs := by
  have := a.cells hg hF hS
  unfold AH.cellsAt at he ⊢
  simp only [hg] at he
  simpa only [this] using he

/-! ### A slice that holds rows -/
section rows
variable {α : Type}

theorem flatMap_len {f : α → List AV} {es : Nat} (hf : ∀ x, (f x).length = es) : ∀ L : List α, (L.flatMap f).length = L.length * es
  | [] => by simp
  | x :: L => by simp [List.flatMap_cons, flatMap_len hf L, hf, Nat.succ_mul, Nat.add_comm]

theorem flatMap_flat {f : α → List AV} (hf : ∀ x, (f x).all flat = true) (L : List α) : (L.flatMap f).all flat = true := by
  induction L with
  | nil => rfl
  | cons x L ih => simp only [List.flatMap_cons, List.all_append, hf, ih, Bool.and_self]

theorem flatMap_drop {f : α → List AV} {es : Nat} (hf : ∀ x, (f x).length = es) : ∀ (L : List α) (i : Nat), (L.flatMap f).drop (i * es) = (L.drop i).flatMap f
  | L, 0 => by simp
  | [], i + 1 => by simp
  | x :: L, i + 1 => by
    rw [List.flatMap_cons, List.drop_succ_cons, ← flatMap_drop hf L i, List.drop_append]
    have e : (f x).length ≤ (i + 1) * es := by rw [hf, Nat.succ_mul]; omega
    rw [List.drop_eq_nil_of_le e, List.nil_append, hf, Nat.succ_mul]
    congr 1; omega

theorem flatMap_take {f : α → List AV} {es : Nat} (hf : ∀ x, (f x).length = es) : ∀ (L : List α) (i : Nat), (L.flatMap f).take (i * es) = (L.take i).flatMap f
  | L, 0 => by simp
  | [], i + 1 => by simp
  | x :: L, i + 1 => by
    rw [List.flatMap_cons, List.take_succ_cons, List.flatMap_cons, ← flatMap_take hf L i, List.take_append]
    have e : (f x).length ≤ (i + 1) * es := by rw [hf, Nat.succ_mul]; omega
    rw [List.take_of_length_le e, hf, Nat.succ_mul]
    congr 2; omega

theorem flatMap_row {f : α → List AV} {es : Nat} (hf : ∀ x, (f x).length = es) {L : List α} {i : Nat} {x : α} (hx : L[i]? = some x) : ((L.flatMap f).drop (i * es)).take es = f x := by
  rw [flatMap_drop hf]
  obtain ⟨hi, e⟩ := List.getElem?_eq_some_iff.1 hx
  rw [List.drop_eq_getElem_cons hi, e, List.flatMap_cons, List.take_append]
  rw [hf, Nat.sub_self, List.take_zero, List.append_nil, List.take_of_length_le (by rw [hf]; exact Nat.le_refl _)]

/-- Rows at a place. -/
def Rows (h : AH) (b o es : Nat) (f : α → List AV) (L : List α) : Prop := (∀ x, (f x).length = es) ∧ h.cellsAt (b, o) (L.length * es) = some (L.flatMap f)

theorem Rows.row {h : AH} {b o es : Nat} {f : α → List AV} {L : List α} (hr : Rows h b o es f L) {i : Nat} {x : α} (hx : L[i]? = some x) : h.cellsAt (b, o + i * es) es = some (f x) := by
  obtain ⟨hf, he⟩ := hr
  have hi := (List.getElem?_eq_some_iff.1 hx).1
  rw [cellsAt_sub he (i * es) es (by have := Nat.mul_le_mul_right es (show i + 1 ≤ L.length by omega); rw [Nat.succ_mul] at this; exact this), flatMap_row hf hx]

theorem Rows.cell {h : AH} {b o es : Nat} {f : α → List AV} {L : List α} (hr : Rows h b o es f L) {i : Nat} {x : α} (hx : L[i]? = some x) (off : Nat) (ho : off < es) : cell1 h b (o + i * es + off) = (f x)[off]? := cellsAt_cell (hr.row hx) off ho

theorem Rows.cell0 {h : AH} {b o es : Nat} {f : α → List AV} {L : List α} (hr : Rows h b o es f L) {i : Nat} {x : α} (hx : L[i]? = some x) (ho : 0 < es) : cell1 h b (o + i * es) = (f x)[0]? := hr.cell hx 0 ho

theorem Rows.keep {h h' : AH} {S : List Nat} (a : Keep h h' S) {b o es : Nat} {f : α → List AV} {L : List α} (hr : Rows h b o es f L) {row : List (Option AV)} {e F base : Nat} {sh ro pl : Bool} (hg : h.get b = .cells row e F base sh ro pl) (hF : F < h.next) (hS : F ∉ S) : Rows h' b o es f L :=
  ⟨hr.1, a.cellsAt hg hF hS hr.2⟩
end rows

/-! ### Storing -/
theorem putAt_eq : ∀ (cs : List (Option AV)) (o : Nat) (vs : List AV), o + vs.length ≤ cs.length → ∃ cs', putAt cs o vs = some cs'
  | cs, _, [], _ => ⟨cs, by cases cs <;> rfl⟩
  | [], o, _ :: _, h => by simp at h
  | c :: r, 0, v :: vs, h => by
    obtain ⟨cs', e⟩ := putAt_eq r 0 vs (by simp at h ⊢; omega)
    exact ⟨some v :: cs', by simp [putAt, e]⟩
  | c :: r, o + 1, v :: vs, h => by
    obtain ⟨cs', e⟩ := putAt_eq r o (v :: vs) (by simp at h ⊢; omega)
    exact ⟨c :: cs', by simp [putAt, e]⟩

theorem store_cells {h : AH} {b o n : Nat} {vs : List AV} {row : List (Option AV)} {e F base : Nat} {sh pl : Bool} (hg : h.get b = .cells row e F base sh false pl) (he : h.cellsAt (b, o) n = some vs) (x : Nat) (ws : List AV) (hx : x + ws.length ≤ n) (hw : ws.all flat = true) :
    ∃ h' row', h.storeAt (b, o + x) ws = some h' ∧ h'.get b = .cells row' e F base sh false pl ∧ h'.cellsAt (b, o) n = some (vs.take x ++ ws ++ vs.drop (x + ws.length)) ∧ h'.next = h.next ∧ Keep h h' [F] := by
  obtain ⟨h1, h2⟩ := (cellsAt_iff hg).1 he
  have hin : ws = [] ∨ o + n ≤ row.length := by
    rcases Nat.eq_zero_or_pos n with h0 | h0
    · left; apply List.eq_nil_of_length_eq_zero; omega
    · right
      have := h2 (n - 1) (vs[n - 1]'(by omega)) (List.getElem?_eq_getElem (by omega))
      have := (List.getElem?_eq_some_iff.1 this).1
      omega
  obtain ⟨row', hp⟩ : ∃ row', putAt row (o + x) ws = some row' := by
    rcases hin with rfl | hin
    · exact ⟨row, by cases row <;> rfl⟩
    · exact putAt_eq row (o + x) ws (by omega)
  obtain ⟨p1, p2, p3⟩ := putAt_spec row (o + x) ws row' hp
  have hd : h.get b ≠ .dead := by rw [hg]; simp
  have hb : ∀ q : AH, q.get b = .cells row' e F base sh false pl → q.cellsAt (b, o) n = some (vs.take x ++ ws ++ vs.drop (x + ws.length)) := by
    intro q hq
    refine (cellsAt_iff hq).2 ⟨by simp; omega, fun j v hj => ?_⟩
    rw [p3]
    by_cases c1 : j < x
    · rw [if_neg (by omega)]
      refine h2 j v ?_
      rw [List.append_assoc, List.getElem?_append_left (by simp; omega), List.getElem?_take, if_pos c1] at hj
      exact hj
    · by_cases c2 : j < x + ws.length
      · rw [if_pos (by omega)]
        rw [List.append_assoc, List.getElem?_append_right (by simp; omega), List.getElem?_append_left (by simp; omega)] at hj
        have hl : (List.take x vs).length = x := by simp; omega
        rw [hl] at hj
        rw [show o + j - (o + x) = j - x by omega, hj]; rfl
      · rw [if_neg (by omega)]
        rw [List.getElem?_append_right (by simp; omega), List.getElem?_drop] at hj
        refine h2 j v ?_
        rw [← hj]
        congr 1
        simp
        omega
  have hset : (h.set b (.cells row' e F base sh false pl)).get b = .cells row' e F base sh false pl := AH.get_set_same hd _
  cases sh with
  | false =>
    refine ⟨h.set b (.cells row' e F base false false pl), row', by simp [AH.storeAt, hg, hw, hp], hset, hb _ hset, rfl, ⟨Nat.le_refl _, fun q hq hn hS => ?_⟩⟩
    by_cases c : b = q
    · subst c; rw [hg] at hS; simp [nameOf] at hS
    · exact AH.get_set_other c _
  | true =>
    refine ⟨(h.set b (.cells row' e F base true false pl)).forget F (base + (o + x)) ws.length b, row', by simp [AH.storeAt, hg, hw, hp], ?_, ?_, rfl, ⟨Nat.le_refl _, fun q hq hn hS => ?_⟩⟩
    · rw [AH.get_forget, hset]; simp
    · exact hb _ (by rw [AH.get_forget, hset]; simp)
    · have c : b ≠ q := by rintro rfl; rw [hg] at hS; simp [nameOf] at hS
      rw [AH.get_forget, AH.get_set_other c]
      cases hq' : h.get q with
      | cells cs e' f ba s r p =>
        rw [hq'] at hS
        simp only [nameOf, List.mem_singleton] at hS
        simp only
        rw [if_neg (by rintro ⟨_, h3, _⟩; exact hS h3)]
      | _ => rfl

/-- A store into a block that holds its cells alone. -/
theorem store_alone {h : AH} {b o : Nat} {row : List (Option AV)} {e F base : Nat} {pl : Bool} (hg : h.get b = .cells row e F base false false pl) {ws : List AV} {row' : List (Option AV)} (hw : ws.all flat = true) (hp : putAt row o ws = some row') :
    h.storeAt (b, o) ws = some (h.set b (.cells row' e F base false false pl)) := by
  simp [AH.storeAt, hg, hw, hp]

theorem storeV_alone {h : AH} {b o n : Nat} {row row' : List (Option AV)} {e F base : Nat} {pl : Bool} {x : AV} (hg : h.get b = .cells row e F base false false pl) (hx : x.cells.length = n) (hf : x.cells.all flat = true) (hp : putAt row o x.cells = some row') :
    storeV h n (.ptr (some (b, o))) x = some (h.set b (.cells row' e F base false false pl)) := by
  rw [storeV_ptr, if_pos hx]
  exact store_alone hg hf hp

/-- A store of one cell into a block of one cell. -/
theorem storeV_one {h : AH} {b : Nat} {c : Option AV} {e F base : Nat} {pl : Bool} {x : AV} (hg : h.get b = .cells [c] e F base false false pl) (hx : x.cells = [x] ∧ flat x = true) : storeV h 1 (.ptr (some (b, 0))) x = some (h.set b (.cells [some x] e F base false false pl)) := by
  rw [storeV_ptr, hx.1]
  simp only [List.length_singleton, if_true]
  exact store_alone hg (by simp [hx.2]) rfl

theorem Keep.set {h : AH} {b : Nat} {row : List (Option AV)} {e F base : Nat} {sh ro pl : Bool} (hg : h.get b = .cells row e F base sh ro pl) (x : ABlk) : Keep h (h.set b x) [F] := by
  refine ⟨Nat.le_refl _, fun q hq hn hS => ?_⟩
  by_cases c : b = q
  · subst c; rw [hg] at hS; simp [nameOf] at hS
  · exact AH.get_set_other c _

/-! ### Appending -/
theorem append_cells {h : AH} {b o n c : Nat} {vs : List AV} {row : List (Option AV)} {e F base es bytes k : Nat} {sh pl : Bool} (hF : F < h.next) (hg : h.get b = .cells row e F base sh false pl) (he : h.cellsAt (b, o) (n * es) = some vs) (hv : vs.all flat = true) (ws : List AV) (hk : 0 < k) (hl : ws.length = k * es) (hw : ws.all flat = true)
    (hroom : (n + k) * bytes ≤ room ∧ n + k ≤ maxText) (hnc : n ≤ c) :
    ∃ b' o' c' row' base' sh' pl' h', appendTo h e es bytes (some (b, o)) n c es k ws = some (.slice (some (b', o')) (n + k) c' es, h') ∧ n + k ≤ c' ∧ h'.get b' = .cells row' e F base' sh' false pl' ∧ h'.cellsAt (b', o') ((n + k) * es) = some (vs ++ ws) ∧ Keep h h' [F] := by
  obtain ⟨h1, h2⟩ := (cellsAt_iff hg).1 he
  have hd : h.get b ≠ .dead := by rw [hg]; simp
  have hb : b < h.next := cells_lt hg
  simp only [appendTo, if_neg (show ¬ k = 0 by omega), if_pos hroom, if_true]
  -- the new block
  have hnew : ∃ b' o' c' row' base' sh' pl' h', (h.appendAt e (b, o) es n ws).map (fun h' => (AV.slice (some (h.next, 0)) (n + k) (n + k) es, h')) = some (.slice (some (b', o')) (n + k) c' es, h') ∧ n + k ≤ c' ∧ h'.get b' = .cells row' e F base' sh' false pl' ∧ h'.cellsAt (b', o') ((n + k) * es) = some (vs ++ ws) ∧ Keep h h' [F] := by
    have ht : takeSome (n * es) (row.drop o) = some vs := by simpa [AH.cellsAt, hg] using he
    have ha : h.appendAt e (b, o) es n ws = some (((h.set b (.cells row e F base true false pl)).push (.cells ((vs ++ ws).map some) e F (base + o) true false pl)).forget F (base + o + n * es) ws.length h.next) := by
      simp [AH.appendAt, hg, hw, ht]
    refine ⟨h.next, 0, n + k, (vs ++ ws).map some, base + o, true, pl, _, by rw [ha]; exact rfl, Nat.le_refl _, ?_, ?_, ?_⟩
    · rw [AH.get_forget, get_push_new _ _ _ (by simp)]
      simp
    · have hg' : ((((h.set b (.cells row e F base true false pl)).push (.cells ((vs ++ ws).map some) e F (base + o) true false pl)).forget F (base + o + n * es) ws.length h.next)).get h.next = .cells ((vs ++ ws).map some) e F (base + o) true false pl := by
        rw [AH.get_forget, get_push_new _ _ _ (by simp)]; simp
      refine (cellsAt_iff hg').2 ⟨by simp [hl, h1, Nat.add_mul], fun j v hj => ?_⟩
      rw [Nat.zero_add, List.getElem?_map, hj]; rfl
    · refine ⟨Nat.le_succ _, fun q hq hn hS => ?_⟩
      have hql := (AH.get_lt hq).1
      have cne : b ≠ q := by rintro rfl; rw [hg] at hS; simp [nameOf] at hS
      rw [AH.get_forget, get_push_old _ _ _ (by simpa using hql), AH.get_set_other cne]
      cases hq' : h.get q with
      | cells cs e' f ba s r p =>
        rw [hq'] at hS
        simp only [nameOf, List.mem_singleton] at hS
        simp only
        rw [if_neg (by rintro ⟨_, h3, _⟩; exact hS h3)]
      | _ => rfl
  by_cases hc : n + k ≤ c
  · rw [if_pos hc]
    -- in place, if the block has the cells
    cases hst : h.storeAt (b, o + n * es) ws with
    | none => simp only; exact hnew
    | some h' =>
      simp only
      simp only [AH.storeAt, hg, hw, if_true, Option.map_eq_some_iff] at hst
      obtain ⟨row', hp, hh⟩ := hst
      obtain ⟨p1, p2, p3⟩ := putAt_spec row (o + n * es) ws row' hp
      have hset : (h.set b (.cells row' e F base sh false pl)).get b = .cells row' e F base sh false pl := AH.get_set_same hd _
      have hgb : h'.get b = .cells row' e F base sh false pl := by
        rw [← hh]
        cases sh with
        | false => simpa using hset
        | true => simp only [if_true]; rw [AH.get_forget, hset]; simp
      refine ⟨b, o, c, row', base, sh, pl, h', rfl, hc, hgb, ?_, ?_⟩
      · refine (cellsAt_iff hgb).2 ⟨by simp [hl, h1, Nat.add_mul], fun j v hj => ?_⟩
        rw [p3]
        by_cases c1 : j < n * es
        · rw [if_neg (by omega)]
          rw [List.getElem?_append_left (by omega)] at hj
          exact h2 j v hj
        · rw [List.getElem?_append_right (by omega), h1] at hj
          have := (List.getElem?_eq_some_iff.1 hj).1
          rw [if_pos (by omega), show o + j - (o + n * es) = j - n * es by omega, hj]; rfl
      · refine ⟨by rw [← hh]; split <;> simp, fun q hq hn hS => ?_⟩
        have cne : b ≠ q := by rintro rfl; rw [hg] at hS; simp [nameOf] at hS
        rw [← hh]
        cases sh with
        | false => simp; exact AH.get_set_other cne _
        | true =>
          simp only [if_true]
          rw [AH.get_forget, AH.get_set_other cne]
          cases hq' : h.get q with
          | cells cs e' f ba s r p =>
            rw [hq'] at hS
            simp only [nameOf, List.mem_singleton] at hS
            simp only
            rw [if_neg (by rintro ⟨_, h3, _⟩; exact hS h3)]
          | _ => rfl
  · rw [if_neg hc]
    exact hnew

theorem bounds_eq {len cap : Nat} {lo hi : Option AV} {l u : Nat} (hlo : lo = none ∧ l = 0 ∨ ∃ k, lo = some (.int k l)) (hhi : hi = none ∧ u = len ∨ ∃ k, hi = some (.int k u)) (h1 : l ≤ u) (h2 : u ≤ cap) : bounds len cap lo hi none = some (l, u, cap) := by
  unfold bounds
  rcases hlo with ⟨rfl, rfl⟩ | ⟨_, rfl⟩ <;> rcases hhi with ⟨rfl, rfl⟩ | ⟨_, rfl⟩ <;> simp [bound]
  · simp [h2]
  · simp [h1]
  · simp [Int.ofNat_le.2 h1, Int.ofNat_le.2 h2, h1, h2]

theorem bounds_eq3 {len cap : Nat} {lo : Option AV} {k k' : IntKind} {l u m : Nat} (hlo : lo = none ∧ l = 0 ∨ ∃ k, lo = some (.int k l)) (h1 : l ≤ u) (h2 : u ≤ m) (h3 : m ≤ cap) : bounds len cap lo (some (.int k u)) (some (.int k' m)) = some (l, u, m) := by
  unfold bounds
  rcases hlo with ⟨rfl, rfl⟩ | ⟨_, rfl⟩ <;> simp [bound, Int.ofNat_le.2 h1, Int.ofNat_le.2 h2, Int.ofNat_le.2 h3, h1, h2, h3]

theorem sliceV_eq {size len cap : Nat} {p : Nat × Nat} {lo hi : Option AV} {l u : Nat} (hlo : lo = none ∧ l = 0 ∨ ∃ k, lo = some (.int k l)) (hhi : hi = none ∧ u = len ∨ ∃ k, hi = some (.int k u)) (h1 : l ≤ u) (h2 : u ≤ cap) :
    sliceV size (.slice (some p) len cap size) lo hi none = some (.slice (some (p.1, p.2 + l * size)) (u - l) (cap - l) size) := by
  rw [sliceV_some, bounds_eq hlo hhi h1 h2]; rfl

/-! ### Slices of rows of one's own -/
section isl
variable {α : Type}

/-- The slice v holds the rows of L (each of es cells, elements of type e) in a block of family F. -/
structure IsSl (h : AH) (v : AV) (e es : Nat) (f : α → List AV) (L : List α) (F : Nat) : Prop where
  lt : F < h.next
  len : ∀ x, (f x).length = es
  flat : ∀ x, (f x).all flat = true
  is : (L = [] ∧ ∃ e', v = .slice none 0 0 e') ∨
    ∃ b o c row base sh pl, v = .slice (some (b, o)) L.length c es ∧ L.length ≤ c ∧ h.get b = .cells row e F base sh false pl ∧ h.cellsAt (b, o) (L.length * es) = some (L.flatMap f)

variable {h h' : AH} {v : AV} {e es : Nat} {f : α → List AV} {L : List α} {F : Nat} {S : List Nat}

theorem IsSl.keep (hs : IsSl h v e es f L F) (a : Keep h h' S) (hF : F ∉ S) : IsSl h' v e es f L F := by
  refine ⟨Nat.lt_of_lt_of_le hs.lt a.next, hs.len, hs.flat, ?_⟩
  rcases hs.is with h0 | ⟨b, o, c, row, base, sh, pl, h1, h2, h3, h4⟩
  · exact .inl h0
  · exact .inr ⟨b, o, c, row, base, sh, pl, h1, h2, a.cells h3 hs.lt hF, a.cellsAt h3 hs.lt hF h4⟩

/-- It is a slice, of as many elements. -/
theorem IsSl.slice (hs : IsSl h v e es f L F) : ∃ a c e', v = .slice a L.length c e' := by
  rcases hs.is with ⟨rfl, e', h0⟩ | ⟨b, o, c, row, base, sh, pl, h1, h2, h3, h4⟩
  · exact ⟨none, 0, e', by simpa using h0⟩
  · exact ⟨_, _, _, h1⟩

theorem IsSl.cells1 (hs : IsSl h v e es f L F) : v.cells = [v] ∧ Ax.flat v = true := by
  obtain ⟨a, c, e', rfl⟩ := hs.slice
  exact ⟨rfl, rfl⟩

theorem IsSl.lenV (hs : IsSl h v e es f L F) : lenSliceV v = some (.int .i64 L.length) := by
  obtain ⟨a, c, e', rfl⟩ := hs.slice
  rfl

/-- An element's place. -/
theorem IsSl.at (hs : IsSl h v e es f L F) {i : Nat} {x : α} (hx : L[i]? = some x) : ∃ b o, (∀ k, idxAddrV es v (.int k i) = some (.ptr (some (b, o + i * es)))) ∧ Rows h b o es f L := by
  have hi := (List.getElem?_eq_some_iff.1 hx).1
  rcases hs.is with ⟨rfl, e', h0⟩ | ⟨b, o, c, row, base, sh, pl, h1, h2, h3, h4⟩
  · simp at hi
  · refine ⟨b, o, fun k => ?_, hs.len, h4⟩
    subst h1
    simp only [idxAddrV_at]
    rw [if_pos ⟨by omega, by omega⟩]
    simp

theorem IsSl.taken (hs : IsSl h v e es f L F) : Ax.taken h es (fun n => n) v = some (L.length, L.flatMap f) := by
  rcases hs.is with ⟨rfl, e', h0⟩ | ⟨b, o, c, row, base, sh, pl, h1, h2, h3, h4⟩
  · subst h0; rfl
  · subst h1; simp [Ax.taken, h4]

/-- A new slice. -/
theorem IsSl.row (h : AH) (e : TypeId) (hf : ∀ x, (f x).length = es) (hfl : ∀ x, (f x).all Ax.flat = true) {cs : List AV} (hc : cs = L.flatMap f) (c : Nat) (hle : L.length ≤ c) (hcc : c = L.length) : IsSl (h.row cs e true) (.slice (some (h.next, 0)) L.length c es) e es f L h.next := by
  subst hc
  have hg := get_row_new h (L.flatMap f) e true h.next rfl
  refine ⟨Nat.lt_succ_self _, hf, hfl, .inr ⟨h.next, 0, c, _, _, _, _, rfl, hle, hg, ?_⟩⟩
  refine (cellsAt_iff hg).2 ⟨flatMap_len hf L, fun j v hj => ?_⟩
  rw [Nat.zero_add, List.getElem?_map, hj]; rfl

/-- An append of rows. -/
theorem IsSl.append (hs : IsSl h v e es f L F) {bytes : Nat} {x : AV} {M : List α} (ht : Ax.taken h es (fun n => n) x = some (M.length, M.flatMap f)) (hroom : (L.length + M.length) * bytes ≤ room ∧ L.length + M.length ≤ maxText) :
    ∃ v' h' F', appendV h e es bytes v x = some (v', h') ∧ IsSl h' v' e es f (L ++ M) F' ∧ Keep h h' [F] ∧ (F' = F ∨ F' = h.next) := by
  have hM := flatMap_len hs.len M
  have hMf := flatMap_flat hs.flat M
  by_cases h0 : M = []
  · subst h0
    simp only [List.append_nil]
    refine ⟨v, h, F, ?_, hs, Keep.refl _ _, .inl rfl⟩
    obtain ⟨a, c, e', rfl⟩ := hs.slice
    simp [appendV_slice, ht, appendTo]
  have hpos : 0 < M.length := List.length_pos_iff.2 h0
  rcases hs.is with ⟨rfl, e', hv⟩ | ⟨b, o, c, row, base, sh, pl, hv, h2, h3, h4⟩
  · subst hv
    simp only [List.length_nil, Nat.zero_add] at hroom
    refine ⟨_, _, h.next, by simp only [appendV_slice, ht, Option.bind, appendTo, if_neg (show ¬ M.length = 0 by omega), Nat.zero_add, if_pos hroom, hMf, if_true]; exact rfl, ?_, Keep.row _ _ _ _ _, .inr rfl⟩
    simp only [List.nil_append]
    exact IsSl.row h e hs.len hs.flat rfl _ (Nat.le_refl _) rfl
  · subst hv
    obtain ⟨b', o', c', row', base', sh', pl', h', a1, a2, a3, a4, a5⟩ := append_cells hs.lt h3 h4 (flatMap_flat hs.flat L) (M.flatMap f) hpos hM hMf (bytes := bytes) hroom h2
    refine ⟨_, h', F, by simp only [appendV_slice, ht, Option.bind, a1]; exact rfl, ⟨Nat.lt_of_lt_of_le hs.lt a5.next, hs.len, hs.flat, .inr ⟨b', o', c', row', base', sh', pl', by simp, by simpa using a2, a3, ?_⟩⟩, a5, .inl rfl⟩
    rw [List.length_append, a4, List.flatMap_append]

/-- A part of a slice. -/
theorem IsSl.sub (hs : IsSl h v e es f L F) (lo hi : Nat) (h1 : lo ≤ hi) (h2 : hi ≤ L.length) :
    ∀ mx : Option AV, (mx = none ∨ mx = some (.int .i64 L.length)) → ∀ lov hiv : Option AV, (lov = some (.int .i64 lo) ∨ lov = none ∧ lo = 0) → (hiv = some (.int .i64 hi) ∨ hiv = none ∧ hi = L.length ∧ mx = none) →
    ∃ v', sliceV es v lov hiv mx = some v' ∧ IsSl h v' e es f ((L.drop lo).take (hi - lo)) F := by
  intro mx hmx lov hiv hlo hhi
  rcases hs.is with ⟨rfl, e', hv⟩ | ⟨b, o, c, row, base, sh, pl, hv, k2, k3, k4⟩
  · simp only [List.length_nil, Nat.le_zero] at h2
    subst h2
    have : lo = 0 := by omega
    subst this
    subst hv
    refine ⟨.slice none 0 0 e', ?_, hs.lt, hs.len, hs.flat, .inl ⟨by simp, e', rfl⟩⟩
    rcases hmx with rfl | rfl <;> rcases hlo with rfl | ⟨rfl, _⟩ <;> rcases hhi with rfl | ⟨rfl, _, h⟩ <;> first | (cases h; done) | simp [bounds, bound]
  · subst hv
    have hb : bounds L.length c lov hiv mx = some (lo, hi, if mx = none then c else L.length) := by
      unfold bounds
      rcases hmx with rfl | rfl <;> rcases hlo with rfl | ⟨rfl, h5⟩ <;> rcases hhi with rfl | ⟨rfl, h6, h⟩ <;> first | (cases h; done) | skip
      all_goals simp [bound]
      all_goals try subst h5
      all_goals try subst h6
      all_goals simp [h1, h2, k2, Nat.le_trans h2 k2, Int.ofNat_le.2 h2, Int.ofNat_le.2 k2, Int.ofNat_le.2 (Nat.le_trans h2 k2)]
    have hll : ((L.drop lo).take (hi - lo)).length = hi - lo := by simp; omega
    refine ⟨_, by simp only [sliceV_some, hb, Option.map]; exact rfl, hs.lt, hs.len, hs.flat, .inr ⟨b, o + lo * es, _, row, base, sh, pl, by rw [hll], ?_, k3, ?_⟩⟩
    · rw [hll]; split <;> omega
    · rw [hll, cellsAt_sub k4 (lo * es) ((hi - lo) * es) (by rw [← Nat.add_mul]; exact Nat.mul_le_mul_right es (by omega)), flatMap_drop hs.len, flatMap_take hs.len]

/-- A slice that came in: its rows can be read. -/
structure IsIn (h : AH) (v : AV) (es : Nat) (f : α → List AV) (L : List α) (F : Nat) : Prop where
  lt : F < h.next
  len : ∀ x, (f x).length = es
  slice : ∃ a c e', v = .slice a L.length c e'
  is : L = [] ∨ ∃ b o c row e base sh ro pl, v = .slice (some (b, o)) L.length c es ∧ h.get b = .cells row e F base sh ro pl ∧ h.cellsAt (b, o) (L.length * es) = some (L.flatMap f)

theorem IsIn.keep (hs : IsIn h v es f L F) (a : Keep h h' S) (hF : F ∉ S) : IsIn h' v es f L F := by
  refine ⟨Nat.lt_of_lt_of_le hs.lt a.next, hs.len, hs.slice, ?_⟩
  rcases hs.is with h0 | ⟨b, o, c, row, e, base, sh, ro, pl, h1, h3, h4⟩
  · exact .inl h0
  · exact .inr ⟨b, o, c, row, e, base, sh, ro, pl, h1, a.cells h3 hs.lt hF, a.cellsAt h3 hs.lt hF h4⟩

theorem IsIn.lenV (hs : IsIn h v es f L F) : lenSliceV v = some (.int .i64 L.length) := by
  obtain ⟨a, c, e', rfl⟩ := hs.slice
  rfl

theorem IsIn.at (hs : IsIn h v es f L F) {i : Nat} {x : α} (hx : L[i]? = some x) : ∃ b o, (∀ k, idxAddrV es v (.int k i) = some (.ptr (some (b, o + i * es)))) ∧ Rows h b o es f L := by
  have hi := (List.getElem?_eq_some_iff.1 hx).1
  rcases hs.is with rfl | ⟨b, o, c, row, e, base, sh, ro, pl, h1, h3, h4⟩
  · simp at hi
  · refine ⟨b, o, fun k => ?_, hs.len, h4⟩
    subst h1
    simp only [idxAddrV_at]
    rw [if_pos ⟨by omega, by omega⟩]
    simp

theorem set_row {i : Nat} (hi : i < L.length) (hf : ∀ x, (f x).length = es) (y : α) : (L.set i y).flatMap f = (L.flatMap f).take (i * es) ++ f y ++ (L.flatMap f).drop ((i + 1) * es) := by
  rw [flatMap_take hf, flatMap_drop hf, List.set_eq_take_append_cons_drop, if_pos hi, List.flatMap_append, List.flatMap_cons, List.append_assoc]

/-- An element changed. -/
theorem IsSl.store (hs : IsSl h v e es f L F) {i : Nat} (hi : i < L.length) (y : α) : ∃ b o h', (∀ k, idxAddrV es v (.int k i) = some (.ptr (some (b, o + i * es)))) ∧ h.storeAt (b, o + i * es) (f y) = some h' ∧ IsSl h' v e es f (L.set i y) F ∧ Keep h h' [F] ∧ h'.next = h.next := by
  rcases hs.is with ⟨rfl, e', hv⟩ | ⟨b, o, c, row, base, sh, pl, hv, k2, k3, k4⟩
  · simp at hi
  · subst hv
    have hle : i * es + es ≤ L.length * es := by have := Nat.mul_le_mul_right es (show i + 1 ≤ L.length by omega); rwa [Nat.succ_mul] at this
    obtain ⟨h', row', s1, s2, s3, s4, s5⟩ := store_cells k3 k4 (i * es) (f y) (by rw [hs.len]; exact hle) (hs.flat y)
    refine ⟨b, o, h', fun k => ?_, s1, ⟨by rw [s4]; exact hs.lt, hs.len, hs.flat, .inr ⟨b, o, c, row', base, sh, pl, by simp, by simpa using k2, s2, ?_⟩⟩, s5, s4⟩
    · simp only [idxAddrV_at]
      rw [if_pos ⟨by omega, by omega⟩]
      simp
    · rw [List.length_set, s3, set_row hi hs.len, hs.len, Nat.succ_mul]

/-- A slice's block lies below. -/
theorem IsSl.one (h : AH) (e : TypeId) (hf : ∀ x, (f x).length = es) (hfl : ∀ x, (f x).all Ax.flat = true) (x : α) : IsSl (h.row (f x) e true) (.slice (some (h.next, 0)) 1 1 es) e es f [x] h.next :=
  IsSl.row (L := [x]) h e hf hfl (by simp) 1 (by simp) rfl

theorem IsSl.mono (hs : IsSl h v e es f L F) {L' : List α} (hl : L = L') : IsSl h v e es f L' F := hl ▸ hs
end isl
end Go.Proofs.YtjihmonajekomaaGreatDoor.Ax
