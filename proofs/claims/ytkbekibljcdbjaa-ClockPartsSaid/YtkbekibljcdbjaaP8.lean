/- slices.SortFunc with Tick's comparison: what it does to the evaluator's memory (over the library's contract). Conditions: as each theorem states. -/
import Derived.Test.YtkbekibljcdbjaaP7
import Derived.Test.YtkbekibljcdbjaaT2
import Derived.Shelf.SlSortCmp.NoneTotal
import Derived.Test.YtkbekibljcdbjaaSl
namespace Go.Proofs.Ytkbekibljcdbjaa.Ax
open Go Go.Sort
set_option linter.unusedVariables false
set_option linter.unusedSimpArgs false

theorem setCells_map (b : Nat) : ∀ (vs : List Value) (w : World) (off : Nat), w.setCells b off vs = mapBlock w b (fun c => setMany c off vs)
  | [], w, off => (mapBlock_id w b _ fun c e fr _ => rfl).symm
  | v :: r, w, off => by
    rw [World.setCells, setCell_eq, setCells_map b r, mapBlock_mapBlock]
    rfl

theorem putCells_many (enc : Int → Value) (off : Nat) (d : Array Int) (c : Array Value) : putCells enc off d c = setMany c off (d.toList.map enc) := by
  refine ext_get! (by simp [putCells]) fun t ht => ?_
  have ht' : t < c.size := by simpa [putCells] using ht
  rw [get_setMany _ _ _ t ht']
  have e : (putCells enc off d c)[t]! = if off ≤ t ∧ t < off + d.size then enc d[t - off]! else c[t] := by
    rw [getElem!_pos _ t ht]
    simp [putCells]
  rw [e]
  by_cases h1 : off ≤ t ∧ t < off + d.size
  · rw [if_pos h1, if_pos (by simpa using h1)]
    have h2 : t - off < d.size := by omega
    rw [getElem!_pos d _ h2, getElem!_pos _ _ (by simpa using h2)]
    simp
  · rw [if_neg h1, if_neg (by simpa using h1), getElem!_pos c t ht']

theorem putRow_cells (enc : Int → Value) (w : World) (b off : Nat) (d : Array Int) : putRow enc w b off d = w.setCells b off (d.toList.map enc) := by
  rw [setCells_map]
  unfold putRow
  congr 1
  funext c
  exact putCells_many enc off d c

def intC (x : Int) : List AV := [.int .i64 x]

theorem intC_flat (o : List Int) : o.flatMap intC = o.map (AV.int .i64) := by
  induction o with
  | nil => rfl
  | cons x o ih => rw [List.flatMap_cons, List.map_cons, ih]; rfl

theorem ints_vr (φ : Emb) : ∀ (o : List Int), VRs φ (o.map (AV.int .i64)) (o.map (Value.int .i64))
  | [] => VRs.nil
  | x :: o => VRs.cons (by simp [VR]) (ints_vr φ o)

theorem Rel.grown {P : Program} {ifs : List TypeId} {φ : Emb} {w0 : World} {h : AH} : ∀ (os : List Obj) {w : World}, Rel P ifs φ w0 h w → Rel P ifs φ w0 h (grow w os.toArray) ∧ Stp φ φ w (grow w os.toArray)
  | [], w, hr => by rw [show (([] : List Obj).toArray) = #[] from rfl, grow_empty]; exact ⟨hr, Stp.refl _ _⟩
  | o :: os, w, hr => by
    obtain ⟨h1, s1⟩ := hr.extra o
    obtain ⟨h2, s2⟩ := Rel.grown os h1
    rw [alloc_eq_grow, grow_grow] at h2 s2
    rw [alloc_eq_grow] at s1
    have e : (#[o] ++ os.toArray : Array Obj) = (o :: os).toArray := by simp
    rw [e] at h2 s2
    exact ⟨h2, s1.trans s2⟩

/-- The order of Tick's comparison. -/
def cfT (at_ : Int → Int) (x y : Int) : Int := orI (cmpI (at_ x) (at_ y)) (cmpI x y)
theorem ltT (at_ : Int → Int) (x y : Int) : ltOf (cfT at_) x y = decide (at_ x < at_ y ∨ at_ x = at_ y ∧ x < y) := by
  unfold ltOf cfT orI cmpI
  by_cases h1 : at_ x < at_ y
  · simp [h1]
  · by_cases h2 : at_ y < at_ x
    · have : at_ x ≠ at_ y := by omega
      simp [h1, h2, this]
    · have : at_ x = at_ y := by omega
      by_cases h3 : x < y
      · simp [this, h3]
      · by_cases h4 : y < x <;> simp [this, h3, h4]
theorem swoT (at_ : Int → Int) : SWO (ltOf (cfT at_)) where
  irrefl x := by rw [ltT]; simp
  trans x y z h1 h2 := by rw [ltT] at *; simp at *; omega
  ntrans x y z h1 h2 := by rw [ltT] at *; simp at *; omega
theorem totT (at_ : Int → Int) (x y : Int) (h1 : ltOf (cfT at_) x y = false) (h2 : ltOf (cfT at_) y x = false) : x = y := by
  rw [ltT] at *; simp at *; omega

/-- Sorted by time, then by number. -/
def srt (at_ : Int → Int) (o : List Int) : List Int := o.mergeSort fun x y => !(ltOf (cfT at_)) y x

theorem IsSl.any_rows {h : AH} {b o' e : Nat} {row : List (Option AV)} {base F : Nat} {sh pl : Bool} {o o2 : List Int} (hg : h.get b = .cells row e F base sh false pl) (hc : h.cellsAt (b, o') (o.length * 1) = some (o.flatMap intC)) (hlen : o2.length = o.length) :
    ∃ h' row', h.storeAt (b, o') (o2.map (AV.int .i64)) = some h' ∧ h'.get b = .cells row' e F base sh false pl ∧ h'.cellsAt (b, o') (o.length * 1) = some (o2.flatMap intC) ∧ h'.next = h.next ∧ Keep h h' [F] := by
  obtain ⟨h', row', s1, s2, s3, s4, s5⟩ := store_cells hg hc 0 (o2.map (AV.int .i64)) (by simp [hlen]) (by simp [flat])
  refine ⟨h', row', by simpa using s1, s2, ?_, s4, s5⟩
  rw [s3, intC_flat, intC_flat]
  simp [hlen]

theorem und101 : Try.prog.underlying 101 = some (.map 3 3) := by kernel_rfl
theorem key101 : keyTy Try.prog 101 = some .int := by kernel_rfl
theorem zero3 : zeroOf Try.prog 3 = some (.int .i64 0) := by kernel_rfl

/-- A map of ints, read. -/
theorem lookup_ME {ifs : List TypeId} {φ : Emb} {w0 w : World} {h : AH} (hr : Rel Try.prog ifs φ w0 h w) {m bm : Nat} {N : Nat} {A : ML} {c : Nat} (hφ : φ m = some (bm, 0, N)) (hm : h.get m = .map (ME A) c) (z : Int) :
    (Instr.lookup 101 (.map (some bm)) (.int .i64 z) false).run Try.prog w = .ok (.int .i64 ((mget A z).getD 0)) w := by
  have hev : evalWeak [.map (some m), .int .i64 z] h (.lookup .int (.int .i64 0) false (.tmp 0) (.tmp 1)) = some (.int .i64 ((mget A z).getD 0)) := by
    have := mfi_get z A 0
    simp only [evalWeak, AOpd.ev, List.getD_cons_zero, List.getD_cons_succ, hm, findKey_ME]
    cases e : mfi z A 0 with
    | none => rw [e] at this; cases e2 : mget A z with
      | none => rfl
      | some t => rw [e2] at this; cases this
    | some p => rw [e] at this; cases e2 : mget A z with
      | none => rw [e2] at this; cases this
      | some t => rw [e2] at this; simp at this; obtain ⟨i, v⟩ := p; simp at this; subst this; rfl
  obtain ⟨v', h1, h2⟩ := lookup_sound hr und101 key101 zero3 (env := [.map (some m), .int .i64 z]) (m := .tmp 0) (k := .tmp 1) (m' := .map (some bm)) (k' := .int .i64 z) (by simp only [AOpd.ev, List.getD_cons_zero, VR]; exact ⟨bm, N, hφ, rfl⟩) (by simp [AOpd.ev, VR]) hev
  rw [h1]
  simp only [VR] at h2
  rw [h2]

set_option maxHeartbeats 1000000 in
/-- slices.SortFunc with Tick's comparison. -/
theorem sort54 {h : AH} {v : AV} {o : List Int} {F pc m : Nat} {A : ML} {c : Nat} {Q : AV → AH → Prop} (hs : IsSl h v 3 1 intC o F) (hpc : h.get pc = .cells [some (.map (some m))] 101 pc 0 false false true) (hm : h.get m = .map (ME A) c)
    (hF : F ≠ pc) (hFm : F ≠ m) (hlen : o.length < 4611686018427387904)
    (q : ∀ h', IsSl h' v 3 1 intC (srt (fun z => (mget A z).getD 0) o) F → Keep h h' [F] → h'.next = h.next → Q (.tuple []) h') :
    NCall Try.prog [] (.fn 54) [v, .func (.func 55) [] [.ptr (some (pc, 0))]] h Q := by
  intro φ w0 w vs hvs hr
  have eg : ∀ args w, (callFunc 55 args).run Try.prog w = .ok (.enter 55 args) w := enters_of Try.func55 (by kernel_rfl) rfl
  have e54 : ∀ args w, (callFunc 54 args).run Try.prog w = .ok (.enter 54 args) w := enters_of Try.func54 (by kernel_rfl) rfl
  obtain ⟨l⟩ := vs
  simp only [VRs] at hvs
  obtain ⟨v1, l1, rfl, hv1, v2, l2, rfl, hv2, rfl⟩ := hvs
  refine .inl ⟨e54 _ _, ?_⟩
  simp only [VR] at hv2
  obtain ⟨fs', cs', rfl, hfs, hcs⟩ := hv2
  have hfs' : fs' = #[] := by obtain ⟨fl⟩ := fs'; simp only [VRs] at hfs; rw [hfs]
  subst hfs'
  obtain ⟨cl⟩ := cs'
  simp only [VRs] at hcs
  obtain ⟨v3, l3, rfl, hv3, rfl⟩ := hcs
  obtain ⟨pb, pco, pN, hφp, rfl⟩ := vr_ptr hv3
  simp only [Nat.add_zero] at hφp ⊢
  -- the map's place
  obtain ⟨ob, k1, k2⟩ := hr.blk _ _ _ _ hφp
  rw [hpc] at k2
  obtain ⟨Cp, frp, rfl, _, _, _, _, hcell⟩ := k2
  obtain ⟨u, hu, hvu⟩ := hcell 0 _ rfl
  obtain ⟨bm, mN, hφm, rfl⟩ := vr_map hvu
  rcases hs.is with ⟨rfl, e', rfl⟩ | ⟨b, o', cc, row, base, sh, pl, rfl, hcc, hg, hc⟩
  · -- nothing
    obtain ⟨_, _, rfl⟩ := vr_sliceNil hv1
    refine Calls.mono (AnyF.slices_SortFunc_none { Try.sf6 with } none 0 _ w) fun e w' ⟨he, hw⟩ => ?_
    subst he hw
    exact ⟨.tuple [], h, .tuple #[], φ, q h (by simpa [srt] using hs) (Keep.refl _ _) rfl, rfl, by simp [VR, VRs], hr, Stp.refl _ _⟩
  · -- some
    obtain ⟨B, co, N, cap, pp, hφb, rfl, hle1, hle2, hwhere⟩ := vr_slice hv1
    rcases hwhere with rfl | ⟨rfl, _⟩
    · have h0 : o = [] := List.eq_nil_of_length_eq_zero (by omega)
      subst h0
      refine Calls.mono (AnyF.slices_SortFunc_none { Try.sf6 with } (some pp) 0 _ w) fun e w' ⟨he, hw⟩ => ?_
      subst he hw
      exact ⟨.tuple [], h, .tuple #[], φ, q h (by simpa [srt] using hs) (Keep.refl _ _) rfl, rfl, by simp [VR, VRs], hr, Stp.refl _ _⟩
    have hst : ∀ o2 : List Int, o2.length = o.length → _ := fun o2 h2 => IsSl.any_rows (o2 := o2) hg hc h2
    -- the row as it is
    obtain ⟨ob, j1, j2⟩ := hr.blk _ _ _ _ hφb
    rw [hg] at j2
    obtain ⟨C, fr, rfl, _, _, _, _, hcb⟩ := j2
    obtain ⟨hs1, _, hs2, _⟩ := hst o rfl
    have hstore := hr.store hφb hs2 (ints_vr φ o)
    have hH : Holds (Value.int .i64) w B (co + o') o.toArray := by
      intro j hj
      have hj' : j < o.length := by simpa using hj
      refine ⟨?_, hstore.2.1 j (by simpa using hj')⟩
      obtain ⟨_, g2⟩ := (cellsAt_iff hg).1 hc
      rw [intC_flat] at g2
      have g3 := g2 j (.int .i64 o[j]) (by simp [hj'])
      obtain ⟨u, hu, hvu⟩ := hcb _ _ g3
      have : u = .int .i64 o[j] := by simpa [VR] using hvu
      subst this
      simp only [World.cell?, j1]
      rw [getElem!_pos o.toArray j (by simpa using hj')]
      rw [← Nat.add_assoc] at hu
      simpa using hu
    have hblk : B < w.heap.size := (hr.dom _ _ _ _ hφb).2
    -- every world of the sort
    have all : ∀ (n : Nat) (os : Array Obj) (dk : Array Int), dk.size = o.length → ∃ h', Rel Try.prog [] φ w0 h' (sortWorld (Value.int .i64) w B (co + o') n dk os) ∧ Stp φ φ w (sortWorld (Value.int .i64) w B (co + o') n dk os) ∧
        IsSl h' (.slice (some (b, o')) o.length cc 1) 3 1 intC dk.toList F ∧ Keep h h' [F] ∧ h'.next = h.next := by
      intro n os dk hdk
      obtain ⟨h', row', s1, s2, s3, s4, s5⟩ := hst dk.toList (by simpa using hdk)
      have hr1 : Rel Try.prog [] φ w0 h (Go.Sort.ahead w n) := hr.of_heap rfl rfl rfl rfl
      obtain ⟨_, _, _, hr2, st2⟩ := hr1.store hφb s1 (ints_vr φ dk.toList)
      obtain ⟨hr3, st3⟩ := hr2.grown os.toList
      have ew : sortWorld (Value.int .i64) w B (co + o') n dk os = grow ((Go.Sort.ahead w n).setCells B (co + o') (dk.toList.map (Value.int .i64))) os.toList.toArray := by
        unfold sortWorld
        rw [putRow_cells]
      rw [← ew] at hr3 st3
      refine ⟨h', hr3, (Stp.drawn (w := w) (w' := Go.Sort.ahead w n) rfl).trans (st2.trans st3), ⟨by rw [s4]; exact hs.lt, hs.len, hs.flat, .inr ⟨b, o', cc, row', base, sh, pl, ?_, ?_, s2, ?_⟩⟩, s5, s4⟩
      · simp [hdk]
      · simpa [hdk] using hcc
      · simpa [hdk] using s3
    have hpl : pc < h.next := cells_lt hpc
    have hml : m < h.next := get_lt_next hm (by simp)
    have hcmp : CmpLays1 Try.prog 55 #[.pointer (some ⟨pb, pco, none⟩)] (Value.int .i64) (cfT fun z => (mget A z).getD 0) B (co + o') o.toArray.size w := by
      intro n os dk hdk x y
      obtain ⟨h', hr', _, _, hk, _⟩ := all n os dk (by simpa using hdk)
      have g1 : h'.get pc = _ := hk.cells hpc hpl (by simpa using fun e => hF e.symm)
      have g2 : h'.get m = .map (ME A) c := by rw [hk.old m (by rw [hm]; simp) (by rw [hm]; exact hml) (by rw [hm]; simpa [nameOf] using fun e => hFm e.symm), hm]
      refine cl55 pb pco bm x y _ _ ?_ (fun z => lookup_ME hr' hφm g2 z)
      obtain ⟨ob, k1, k2⟩ := hr'.blk _ _ _ _ hφp
      rw [g1] at k2
      obtain ⟨Cp, frp, rfl, _, _, _, _, hcell⟩ := k2
      obtain ⟨u, hu, hvu⟩ := hcell 0 _ rfl
      obtain ⟨bm', mN', hφm', rfl⟩ := vr_map hvu
      rw [hφm] at hφm'
      simp only [Option.some.injEq, Prod.mk.injEq] at hφm'
      obtain ⟨rfl, _, _⟩ := hφm'
      simp only [World.cell?, k1]
      simpa using hu
    have hcon := Any.slices_SortFunc_total Try.sf6 (Value.int .i64) (fun _ => rfl) (cfT fun z => (mget A z).getD 0) (swoT _) 55 #[.pointer (some ⟨pb, pco, none⟩)] B (co + o') cap o.toArray w eg hcmp hH hblk (by simpa using hlen) (totT _)
    refine Calls.mono (show Calls Try.prog 54 _ w _ from hcon) fun e w' ⟨he, n, os, hw⟩ => ?_
    subst he
    obtain ⟨h', hr', hst', hsl, hk, hn⟩ := all n os (srt (fun z => (mget A z).getD 0) o).toArray (by simp [srt, List.length_mergeSort])
    rw [show w' = _ from hw]
    exact ⟨.tuple [], h', .tuple #[], φ, q h' hsl hk hn, rfl, by simp [VR, VRs], hr', hst'⟩
end Go.Proofs.Ytkbekibljcdbjaa.Ax
