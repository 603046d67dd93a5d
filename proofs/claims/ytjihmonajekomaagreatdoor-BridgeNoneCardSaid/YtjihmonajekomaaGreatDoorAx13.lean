/- Operations that change memory: new blocks, stores. Conditions: as each theorem states. -/
import Derived.Test.YtjihmonajekomaaGreatDoorAx12
namespace Go.Proofs.YtjihmonajekomaaGreatDoor.Ax
open Go Go.RowKit
set_option linter.unusedVariables false

/-- What an operation hands over. -/
def Out (φ : Emb) (v : AV) : Next → Prop
  | .value u => VR φ v u
  | .skip => v = .undef
  | _ => False

section
variable {P : Program} {ifs : List TypeId} {φ : Emb} {w0 w : World} {h h' : AH} {env : List AV} {ρ : Operand → Value}

def Strong (P : Program) (ifs : List TypeId) (φ : Emb) (w0 w : World) (h' : AH) (v : AV) (s : Sem Next) : Prop :=
  ∃ φ' w' n, s.run P w = .ok n w' ∧ Out φ' v n ∧ Rel P ifs φ' w0 h' w' ∧ Stp φ φ' w w'

theorem cells_vr {a : AV} {v : Value} (h : VR φ a v) : VRs φ a.cells v.cells.toList := by
  have one : ∀ {a : AV} {v : Value}, VR φ a v → VRs φ [a] [v] := fun h => VRs.cons h VRs.nil
  cases a with
  | agg cs => obtain ⟨cs', rfl, h2⟩ := vr_agg h; exact h2
  | bool b => have := vr_bool h; subst this; exact one h
  | int k n => have := vr_int h; subst this; exact one h
  | str s => obtain ⟨t, rfl, _⟩ := vr_str h; exact one h
  | ptr a =>
    cases a with
    | none => have : v = .pointer none := by simpa only [VR] using h
              subst this; exact one h
    | some a => obtain ⟨_, _, _, _, rfl⟩ := vr_ptr h; exact one h
  | slice a n c es =>
    cases a with
    | none => obtain ⟨_, _, rfl⟩ := vr_sliceNil h; exact one h
    | some a => obtain ⟨_, _, _, _, _, _, rfl, _⟩ := vr_slice h; exact one h
  | map r =>
    cases r with
    | none => have := vr_mapNil h; subst this; exact one h
    | some r => obtain ⟨_, _, _, rfl⟩ := vr_map h; exact one h
  | func fn fs cs => obtain ⟨_, _, _, rfl⟩ := vr_func h; exact one h
  | nilFunc => have : v = .nilFunc := by simpa only [VR] using h
               subst this; exact one h
  | iface t u => obtain ⟨_, rfl, _⟩ := vr_iface h; exact one h
  | nilIface => have := vr_nilIface h; subst this; exact one h
  | tuple vs => obtain ⟨vs', rfl, _⟩ := vr_tuple h; exact one h

/-- A NEW ROW. -/
theorem Rel.row (hr : Rel P ifs φ w0 h w) {vs : List AV} {us : Array Value} (hv : VRs φ vs us.toList) (e : TypeId) {fr : Nat × Nat} {pl : Bool} (hfr : ∀ j, j < us.size → ¬ (fr.1 ≤ j ∧ j < fr.2)) (hpl : pl = true → fr = (0, 0)) (hext : vs.length ≤ us.size) :
    Rel P ifs (upd φ h.next (w.heap.size, 0, us.size)) w0 (h.row vs e pl) (w.alloc (.cells us e fr)) ∧ Stp φ (upd φ h.next (w.heap.size, 0, us.size)) w (w.alloc (.cells us e fr)) := by
  refine hr.push _ _ us.size ?_
  refine ⟨us, fr, rfl, rfl, by simpa using hext, fun _ => hfr, fun hp => ⟨hpl hp, fun _ => rfl⟩, fun j v hj => ?_⟩
  obtain ⟨u, hu, hvr⟩ := hv.get (somes_get hj)
  exact ⟨u, by simpa using hu, VR.ext (ext_upd hr.none_next) _ _ hvr⟩

/-- A NEW ROW, of which the first cells are known. -/
theorem Rel.rowPart (hr : Rel P ifs φ w0 h w) {vs : List AV} {us : Array Value} {l : List Value} (hv : VRs φ vs l) (hl : ∀ (j : Nat) (v : Value), l[j]? = some v → us[j]? = some v) (e : TypeId) {fr : Nat × Nat} {pl : Bool} (hfr : ∀ j, j < us.size → ¬ (fr.1 ≤ j ∧ j < fr.2)) (hpl : pl = true → fr = (0, 0)) (hext : vs.length ≤ us.size) :
    Rel P ifs (upd φ h.next (w.heap.size, 0, us.size)) w0 (h.row vs e pl) (w.alloc (.cells us e fr)) ∧ Stp φ (upd φ h.next (w.heap.size, 0, us.size)) w (w.alloc (.cells us e fr)) := by
  refine hr.push _ _ us.size ?_
  refine ⟨us, fr, rfl, rfl, by simpa using hext, fun _ => hfr, fun hp => ⟨hpl hp, fun _ => rfl⟩, fun j v hj => ?_⟩
  obtain ⟨u, hu, hvr⟩ := hv.get (somes_get hj)
  exact ⟨u, by simpa using hl _ _ hu, VR.ext (ext_upd hr.none_next) _ _ hvr⟩

theorem vr_newPtr (φ : Emb) (i b N : Nat) : VR (upd φ i (b, 0, N)) (.ptr (some (i, 0))) (.pointer (some ⟨b, 0, none⟩)) := by
  simp only [VR]; exact ⟨b, 0, N, upd_same _ _ _, rfl⟩

theorem vr_newSlice (φ : Emb) (i b n c cc es N : Nat) (h1 : n ≤ c) (h2 : c ≤ cc) (h3 : cc * es ≤ N) : VR (upd φ i (b, 0, N)) (.slice (some (i, 0)) n c es) (.slice (some ⟨b, 0, none⟩) n cc) := by
  simp only [VR]; exact ⟨b, 0, N, cc, _, upd_same _ _ _, rfl, h1, h2, .inr ⟨rfl, by simpa using h3⟩⟩

theorem copies_vr {zs : List AV} {z : Array Value} (h : VRs φ zs z.toList) : ∀ (n : Nat), VRs φ (copies zs n) ((Array.range (n * z.size)).map (z[· % z.size]!)).toList := by
  intro n
  have hl : ∀ (n : Nat), (copies zs n).length = n * z.size := by
    intro n
    induction n with
    | zero => simp [copies]
    | succ n ih => simp only [copies, List.length_append, ih, h.len, Array.length_toList, Nat.succ_mul]; omega
  have hg : ∀ (n j : Nat) (a : AV), (copies zs n)[j]? = some a → zs[j % z.size]? = some a := by
    intro n
    induction n with
    | zero => intro j a h; simp [copies] at h
    | succ n ih =>
      intro j a hj
      simp only [copies] at hj
      have hzl : zs.length = z.size := by simpa using h.len
      by_cases hlt : j < zs.length
      · rw [List.getElem?_append_left hlt] at hj
        rw [Nat.mod_eq_of_lt (by omega)]; exact hj
      · rw [List.getElem?_append_right (by omega)] at hj
        have := ih _ _ hj
        rw [hzl, ← Nat.mod_eq_sub_mod (by omega)] at this
        exact this
  refine VRs.iff.2 ⟨by simp [hl], fun j a v ha hv => ?_⟩
  have h1 := hg n j a ha
  have hjn : j < n * z.size := by rw [← hl n]; exact (List.getElem?_eq_some_iff.1 ha).1
  obtain ⟨u, hu, hvr⟩ := h.get h1
  have hu' : z[j % z.size]? = some u := by simpa using hu
  have : v = u := by
    simp [hjn] at hv
    rw [← hv, getElem!_def, hu']
  rw [this]; exact hvr

theorem copies_flat {zs : List AV} (h : ∀ a ∈ zs, flat a = true) : ∀ n, ∀ a ∈ copies zs n, flat a = true
  | 0, a, ha => by simp [copies] at ha
  | n + 1, a, ha => by
    simp only [copies, List.mem_append] at ha
    rcases ha with ha | ha
    · exact h a ha
    · exact copies_flat h n a ha

theorem run_tinfo' {t : TypeId} {i : TypeInfo} (w : World) (h : P.info? t = some i) : (typeInfo t).run P w = .ok i w := run_tinfo w h

theorem alloc_sound (hr : Rel P ifs φ w0 h w) {e : TypeId} {z : List AV} (hz : zeroCellsOf P e = some z) : Strong P ifs φ w0 w (h.row z e true) (.ptr (some (h.next, 0))) (do pure (Next.value (← Instr.alloc e true (.tuple #[])))) := by
  obtain ⟨i, zv, h1, h2, h3, h4⟩ := zeroCells_spec hz φ
  obtain ⟨g1, g2⟩ := hr.row h3 e (fr := (0, 0)) (pl := true) (fun j _ => by omega) (fun _ => rfl) (by simpa using Nat.le_of_eq h3.len)
  exact ⟨_, _, .value (.pointer (some ⟨w.heap.size, 0, none⟩)), by simp [Instr.alloc, run_zeroV w h1 h2, newVar, newRow], vr_newPtr _ _ _ _, g1, g2⟩

theorem box_sound (hr : Rel P ifs φ w0 h w) {e : TypeId} {a : AV} {v : Value} (hv : VR φ a v) : Strong P ifs φ w0 w (h.row a.cells e true) (.ptr (some (h.next, 0))) (do pure (Next.value (← Instr.box e v))) := by
  have h3 := cells_vr hv
  obtain ⟨g1, g2⟩ := hr.row h3 e (fr := (0, 0)) (pl := true) (fun j _ => by omega) (fun _ => rfl) (by simpa using Nat.le_of_eq h3.len)
  exact ⟨_, _, .value (.pointer (some ⟨w.heap.size, 0, none⟩)), by simp [Instr.box, newVar, newRow], vr_newPtr _ _ _ _, g1, g2⟩

theorem buildSlice_sound (hr : Rel P ifs φ w0 h w) {t e : TypeId} (ht : P.underlying t = some (.slice e)) {z : List AV} {s : Nat} (hz : zeroCellsOf P e = some z) (hs : szOf P e = some s) (hzs : z.length = s) (hs1 : 1 ≤ s) {len : Nat} (hlen : len * s ≤ 1000000) {ps : List (Nat × Value)} {aps : List (Nat × Nat × AV)}
    (hp : Parts φ (fun i => some (i * s, s)) ps aps) {cs : List AV} (hf : fillIn (copies z len) aps = some cs) :
    Strong P ifs φ w0 w (h.row cs e true) (.slice (some (h.next, 0)) len len z.length) (do pure (Next.value (← Instr.buildSlice t len ps.toArray))) := by
  obtain ⟨i, zv, h1, h2, h3, h4⟩ := zeroCells_spec hz φ
  have hzl : zv.cells.size = s := by have := h3.len; simp at this; omega
  have hbase : VRs φ (copies z len) ((Array.range (len * s)).map ((if len * s = 0 then (#[] : Array Value) else zv.cells)[· % (if len * s = 0 then (#[] : Array Value) else zv.cells).size]!)).toList := by
    by_cases h0 : len * s = 0
    · have : len = 0 := by rcases Nat.mul_eq_zero.1 h0 with h | h <;> omega
      subst this
      simp [copies, VRs]
    · rw [if_neg h0]
      have := copies_vr h3 len
      rw [hzl] at this
      rw [hzl]; exact this
  obtain ⟨cs', g1, g2⟩ := fill_sound hp hbase hf
  have hcl : cs.length = len * s := by
    have : ∀ (aps : List (Nat × Nat × AV)) (c r : List AV), fillIn c aps = some r → r.length = c.length := by
      intro aps
      induction aps with
      | nil => intro c r h; simp [fillIn] at h; rw [h]
      | cons p aps ih =>
        intro c r h
        obtain ⟨off, sz, v⟩ := p
        simp only [fillIn] at h
        split at h
        · rename_i hc; rw [ih _ _ h]; simp; omega
        · cases h
    rw [this _ _ _ hf, hbase.len]; simp
  have hsz : cs'.size = len * s := by have := g2.len; simp at this; omega
  obtain ⟨k1, k2⟩ := hr.row g2 e (fr := (0, 0)) (pl := true) (fun j _ => by omega) (fun _ => rfl) (by simpa using Nat.le_of_eq g2.len)
  refine ⟨_, _, .value (.slice (some ⟨w.heap.size, 0, none⟩) len len), ?_, ?_, k1, k2⟩
  · have h24 : ¬ (16777216 < len * s) := by omega
    by_cases h0 : len * s = 0
    · rw [if_pos h0] at g1
      simp [Instr.buildSlice, run_und w ht, run_size w hs, h0, newRow] at g1 ⊢
      rw [g1]; simp
    · rw [if_neg h0] at g1
      simp [Instr.buildSlice, run_und w ht, run_size w hs, h24, h0, run_zeroV w h1 h2, newRow] at g1 ⊢
      rw [g1]; simp
  · exact vr_newSlice _ _ _ _ _ _ _ _ (Nat.le_refl _) (Nat.le_refl _) (by rw [hzs, hsz]; exact Nat.le_refl _)

theorem store_sound (hr : Rel P ifs φ w0 h w) {t : TypeId} {s : Nat} (hs : szOf P t = some s) {p : Nat × Nat} {p' : Value} (hp : VR φ (.ptr (some p)) p') {a : AV} {v : Value} (hv : VR φ a v) (hsz : a.cells.length = s) (hst : h.storeAt p a.cells = some h') :
    Strong P ifs φ w0 w h' .undef (do Instr.storeAt t p' v; pure Next.skip) := by
  obtain ⟨b, co, N, hφ, rfl⟩ := vr_ptr hp
  have h3 := cells_vr hv
  obtain ⟨h4, h5, h6, h7, h8⟩ := hr.store (i := p.1) (o := p.2) hφ hst h3
  have hvs : v.cells.size = s := by have := h3.len; simp at this; omega
  refine ⟨_, _, .skip, ?_, rfl, h7, h8⟩
  have := run_storeCells_cells (P := P) b (co + p.2) v.cells.toList 0 w (by simpa using h4) (by simpa using h5) h6
  simp only [Nat.add_zero] at this
  simp [Instr.storeAt, Instr.sureAddr, storeVar, run_size w hs, hvs, this]

theorem bytesRow_get (s : ByteArray) (cap : Nat) : ∀ (j : Nat) (v : Value), (s.data.toList.map fun b => Value.int .u8 b.toNat)[j]? = some v → (bytesRow s cap)[j]? = some v := by
  intro j v hj
  have hjl : j < s.data.size := by have := (List.getElem?_eq_some_iff.1 hj).1; simpa using this
  unfold bytesRow
  rw [Array.getElem?_append_left (by simpa using hjl)]
  simpa using hj

theorem toBytes_sound (hr : Rel P ifs φ w0 h w) {s d e : TypeId} (hs : P.underlying s = some .string) (hd : P.underlying d = some (.slice e)) (he : P.underlying e = some (.int .u8)) {l : List Nat} {v : Value} (hv : VR φ (.str l) v) :
    Strong P ifs φ w0 w (h.row (l.map byteAV) e false) (.slice (some (h.next, 0)) l.length l.length 1) (do pure (Next.value (← convert s d v))) := by
  obtain ⟨t, rfl, rfl⟩ := vr_str hv
  have hr' := hr.drew
  have hge := grownCap_ge w t.size 0 e
  have hsz : (bytesRow t (grownCap w t.size 0 e)).size = grownCap w t.size 0 e := by
    have : t.data.size = t.size := rfl
    simp [bytesRow]; omega
  have hvr : VRs φ ((t.data.toList.map UInt8.toNat).map byteAV) (t.data.toList.map fun b => Value.int .u8 b.toNat) := by
    refine VRs.iff.2 ⟨by simp, fun j a v ha hv => ?_⟩
    simp only [List.getElem?_map, Option.map_eq_some_iff] at ha hv
    obtain ⟨n, ⟨b, hb, rfl⟩, rfl⟩ := ha
    obtain ⟨b', hb', rfl⟩ := hv
    rw [hb] at hb'; simp at hb'; subst hb'
    simp [byteAV, VR]
  obtain ⟨k1, k2⟩ := hr'.rowPart hvr (bytesRow_get t (grownCap w t.size 0 e)) e (fr := ((bytesRow t (grownCap w t.size 0 e)).size, (bytesRow t (grownCap w t.size 0 e)).size + 1)) (pl := false) (fun j hj => by omega) (by simp)
    (by have : t.data.size = t.size := rfl
        simp [hsz]; omega)
  refine ⟨_, _, _, run_vwrap (run_bytes_of_string w s d e t hs hd he), ?_, k1, Stp.trans (Stp.drawn (w := w) (w' := w.drew) rfl) k2⟩
  have hlen : t.data.toList.length = t.size := by simp
  simp only [List.length_map, hlen]
  exact vr_newSlice _ _ _ _ _ _ _ _ (Nat.le_refl _) hge (by rw [hsz]; omega)

theorem mkMap_sound (hr : Rel P ifs φ w0 h w) (t : TypeId) : Strong P ifs φ w0 w (h.push (.map [] 0)) (.map (some h.next)) (do pure (Next.value (← Instr.makeMap t none))) := by
  obtain ⟨k1, k2⟩ := hr.push (.map [] 0) (.map #[] 0) 0 ⟨rfl, #[], rfl, rfl⟩
  exact ⟨_, _, _, by simp [Instr.makeMap]; rfl, by simp only [Out, VR]; exact ⟨_, 0, upd_same _ _ _, rfl⟩, k1, k2⟩

theorem mkSlice_sound (hr : Rel P ifs φ w0 h w) {t e : TypeId} (ht : P.underlying t = some (.slice e)) {i : TypeInfo} (hi : P.info? e = some i) {z : List AV} (hz : zeroCellsOf P e = some z) (hzl : z.length = i.size) (hs1 : 1 ≤ i.size) {l c : Int} {l' c' : Value} (hl : VR φ (.int .i64 l) l') (hc : VR φ (.int .i64 c) c')
    (hb : 0 ≤ l ∧ l ≤ c ∧ c * i.bytes ≤ room) (hc63 : c < 9223372036854775808) : Strong P ifs φ w0 w (h.row (copies z c.toNat) e true) (.slice (some (h.next, 0)) l.toNat c.toNat i.size) (do pure (Next.value (← Instr.makeSlice t l' c'))) := by
  obtain rfl := vr_int hl
  obtain rfl := vr_int hc
  obtain ⟨i', zv, h1, h2, h3, h4⟩ := zeroCells_spec hz φ
  rw [hi] at h1; simp at h1; subst h1
  have hzv : zv.cells.size = i.size := by have := h3.len; simp at this; omega
  have hwl : IntKind.i64.wrap l = l := by rw [IntKind.wrap_i64]; omega
  have hwc : IntKind.i64.wrap c = c := by rw [IntKind.wrap_i64]; omega
  have hbase : VRs φ (copies z c.toNat) ((Array.range (c.toNat * i.size)).map ((if c.toNat * i.size = 0 then (#[] : Array Value) else zv.cells)[· % (if c.toNat * i.size = 0 then (#[] : Array Value) else zv.cells).size]!)).toList := by
    by_cases h0 : c.toNat * i.size = 0
    · have : c.toNat = 0 := by rcases Nat.mul_eq_zero.1 h0 with h | h <;> omega
      rw [this]
      simp [copies, VRs]
    · rw [if_neg h0]
      have := copies_vr h3 c.toNat
      rw [hzv] at this
      rw [hzv]; exact this
  obtain ⟨k1, k2⟩ := hr.row hbase e (fr := (0, 0)) (pl := true) (fun j _ => by omega) (fun _ => rfl) (by simpa using Nat.le_of_eq hbase.len)
  refine ⟨_, _, .value (.slice (some ⟨w.heap.size, 0, none⟩) l.toNat c.toNat), ?_, ?_, k1, k2⟩
  · have g1 : ¬ (c < 0) := by omega
    have g2 : ¬ (281474976710656 < i.bytes * c) := by rw [Int.mul_comm]; have := hb.2.2; unfold room at this; omega
    have g3 : ¬ (l < 0) := by omega
    have g4 : ¬ (c < l) := by omega
    by_cases h0 : c.toNat * i.size = 0
    · simp [Instr.makeSlice, run_und w ht, asInt, asIntOf, run_tinfo w hi, run_size w (show szOf P e = some i.size by simp [szOf, hi]), hwl, hwc, g1, g2, g3, g4, h0, newRow]
    · simp [Instr.makeSlice, run_und w ht, asInt, asIntOf, run_tinfo w hi, run_size w (show szOf P e = some i.size by simp [szOf, hi]), hwl, hwc, g1, g2, g3, g4, h0, newRow, run_zeroV w hi h2]
  · exact vr_newSlice _ _ _ _ _ _ _ _ (by omega) (Nat.le_refl _) (by simp)
end
end Go.Proofs.YtjihmonajekomaaGreatDoor.Ax
