/- Builders and joined texts as summaries of the evaluator's: what they answer over its heap, proved sound out of what the model's calls answer. Conditions: as each theorem states. -/
import Derived.Test.YtjihmonajekomaaGreatDoorAx28
import Derived.Lib.Builder
import Derived.Lib.UnsafeStr
import Derived.Lib.Strings
import Derived.Lib.Join
namespace Go.Proofs.YtjihmonajekomaaGreatDoor.Ax
open Go Go.RowKit
set_option linter.unusedVariables false

/-- (*strings.Builder).copyCheck over the evaluator's heap; 'lies': in so long a row of this type a builder lies at this place. -/
def ccS (lies : TypeId → Nat → Nat → Bool) (args : List AV) (h : AH) : Option (AV × AH) :=
  match args with
  | [.ptr (some (r, o))] =>
    match h.get r with
    | .cells cs e f base false false true =>
      match cs[o]? with
      | some (some (.ptr none)) => if lies e cs.length o then (h.storeAt (r, o) [.ptr (some (r, o))]).map fun h' => (.tuple [], h') else none
      | some (some (.ptr (some a))) => if a = (r, o) then some (.tuple [], h) else none
      | _ => none
    | _ => none
  | _ => none

/-- Octets, each as it is. -/
def natsOf : List AV → Option (List Nat)
  | [] => some []
  | .int .u8 n :: r => if 0 ≤ n ∧ n < 256 then (natsOf r).map (n.toNat :: ·) else none
  | _ :: _ => none

/-- (*strings.Builder).String over the evaluator's heap; E8: the octets' type. -/
def strS (E8 : TypeId) (args : List AV) (h : AH) : Option (AV × AH) :=
  match args with
  | [.ptr (some (r, o))] =>
    match cell1 h r (o + 1) with
    | some (.slice none _ _ _) => some (.str [], h)
    | some (.slice (some a) len cap 1) =>
      if cap = 0 then none else
      if len = 0 then some (.str [], h) else
      match h.get a.1, h.cellsAt a len with
      | .cells _ e f _ _ false _, some cs => if e = E8 ∧ len < 4611686018427387904 then (natsOf cs).map fun s => (.str s, h.freezeFam f) else none
      | _, _ => none
    | _ => none
  | _ => none

def strsOf : List AV → Option (List (List Nat))
  | [] => some []
  | .str s :: r => (strsOf r).map (s :: ·)
  | _ :: _ => none
def joinL (sep : List Nat) : List (List Nat) → List Nat
  | [] => []
  | [x] => x
  | x :: y :: r => x ++ (sep ++ joinL sep (y :: r))
/-- strings.Join over the evaluator's heap. -/
def joinS (args : List AV) (h : AH) : Option (AV × AH) :=
  match args with
  | [.slice none _ _ _, .str sep] => some (.str [], h)
  | [.slice (some a) n c 1, .str sep] =>
    if c = 0 then none else
    (h.cellsAt a n).bind fun cs => (strsOf cs).bind fun l => if (joinL sep l).length ≤ room ∧ n ≤ room then some (.str (joinL sep l), h) else none
  | _ => none

section
variable {P : Program} {ifs : List TypeId} {φ : Emb} {w0 w : World} {h h' : AH} {f : FuncId} {args : List AV} {v : AV} {vs : Array Value}

theorem args_one {a : AV} (hvs : VRs φ [a] vs.toList) : ∃ u, vs = #[u] ∧ VR φ a u := by
  obtain ⟨l⟩ := vs
  simp only [VRs] at hvs
  obtain ⟨u, r, rfl, h1, rfl⟩ := hvs
  exact ⟨u, rfl, h1⟩
theorem args_two {a b : AV} (hvs : VRs φ [a, b] vs.toList) : ∃ u u', vs = #[u, u'] ∧ VR φ a u ∧ VR φ b u' := by
  obtain ⟨l⟩ := vs
  simp only [VRs] at hvs
  obtain ⟨u, r, rfl, h1, u', r', rfl, h2, rfl⟩ := hvs
  exact ⟨u, u', rfl, h1, h2⟩

theorem ccS_sound {T : TypeId} {lies : TypeId → Nat → Nat → Bool} (hlies : ∀ e l o, lies e l o = true → liesAt P P.depth e (l / P.cellsOf e) o T 1 = true) (hen : ∀ vs w, (callFunc f vs).run P w = .ok (.enter f vs) w)
    (h1 : ∀ (b o : Nat) (w : World) (e : TypeId) (cells : Nat), w.cell? ⟨b, o, none⟩ = some (.pointer none) → w.shape? b = some (e, cells) → o < cells → liesAt P P.depth e (cells / P.cellsOf e) o T 1 = true → w.frozen? ⟨b, o, none⟩ = false →
      Calls P f #[.pointer (some ⟨b, o, none⟩)] w fun e w' => e = .returned (.tuple #[]) ∧ w' = w.setCell ⟨b, o, none⟩ (.pointer (some ⟨b, o, none⟩)))
    (h2 : ∀ (b o : Nat) (w : World), w.cell? ⟨b, o, none⟩ = some (.pointer (some ⟨b, o, none⟩)) → Calls P f #[.pointer (some ⟨b, o, none⟩)] w fun e w' => e = .returned (.tuple #[]) ∧ w' = w)
    (hs : ccS lies args h = some (v, h')) (hvs : VRs φ args vs.toList) (hr : Rel P ifs φ w0 h w) : CallOk P ifs φ w0 w h' v f vs := by
  unfold ccS at hs
  split at hs
  case h_2 => cases hs
  rename_i r o
  obtain ⟨u, rfl, hu⟩ := args_one hvs
  obtain ⟨b, co, N, hφ, rfl⟩ := vr_ptr hu
  split at hs
  case h_2 => cases hs
  rename_i cs e fam base hget
  obtain ⟨ob, k1, k2⟩ := hr.blk _ _ _ _ hφ
  simp only at k2
  rw [hget] at k2
  obtain ⟨C, fr, rfl, hN, hco, hfz, hpl, hcell⟩ := k2
  obtain rfl : co = 0 := (hpl rfl).2 rfl
  simp only [Nat.zero_add] at hco hcell hu ⊢
  split at hs
  · rename_i hc
    obtain ⟨u, hu1, hu2⟩ := hcell _ _ hc
    simp only [VR] at hu2
    subst hu2
    have hol : o < cs.length := (List.getElem?_eq_some_iff.1 hc).1
    split at hs
    case isFalse => cases hs
    rename_i hl
    obtain ⟨h1', hst, e2⟩ := Option.map_eq_some_iff.1 hs
    simp only [Prod.mk.injEq] at e2
    obtain ⟨rfl, rfl⟩ := e2
    have hsh : w.shape? b = some (e, C.size) := by simp [World.shape?, k1]
    have hfz' : w.frozen? ⟨b, o, none⟩ = false := by
      have := hfz rfl o (by omega)
      simp [World.frozen?, k1]
      omega
    have hl' := liesAt_mono (hlies _ _ _ hl) (c' := C.size / P.cellsOf e) (Nat.div_le_div_right (by omega))
    obtain ⟨_, _, _, r1, r2⟩ := hr.store (us := [.pointer (some ⟨b, o, none⟩)]) hφ hst (VRs.cons hu VRs.nil)
    simp only [Nat.zero_add, World.setCells] at r1 r2
    refine .inl ⟨hen _ _, Calls.mono (h1 b o w e C.size (by simp [World.cell?, k1, hu1]) hsh (by omega) hl' hfz') fun e w' ⟨he, hw⟩ => ?_⟩
    subst hw
    exact ⟨_, φ, he, by simp only [VR]; exact ⟨#[], rfl, VRs.nil⟩, r1, r2⟩
  · rename_i a hc
    obtain ⟨u, hu1, hu2⟩ := hcell _ _ hc
    split at hs
    case isFalse => cases hs
    rename_i ha
    subst ha
    simp only [Option.some.injEq, Prod.mk.injEq] at hs
    obtain ⟨rfl, rfl⟩ := hs
    obtain ⟨b', co', N', hφ', rfl⟩ := vr_ptr hu2
    rw [hφ] at hφ'
    simp only [Option.some.injEq, Prod.mk.injEq] at hφ'
    obtain ⟨rfl, rfl, rfl⟩ := hφ'
    simp only [Nat.zero_add] at hu1
    refine .inl ⟨hen _ _, Calls.mono (h2 b o w (by simp [World.cell?, k1, hu1])) fun e w' ⟨he, hw⟩ => ?_⟩
    subst hw
    exact ⟨_, φ, he, by simp only [VR]; exact ⟨#[], rfl, VRs.nil⟩, hr, Stp.refl _ _⟩
  · cases hs

theorem natsOf_get : ∀ {cs : List AV} {s : List Nat}, natsOf cs = some s → s.length = cs.length ∧ ∀ (j x : Nat), s[j]? = some x → x < 256 ∧ cs[j]? = some (.int .u8 (x : Int))
  | [], s, h => by
    simp only [natsOf, Option.some.injEq] at h
    subst h
    exact ⟨rfl, fun j x hj => by simp at hj⟩
  | a :: r, s, h => by
    unfold natsOf at h
    split at h
    · rename_i e; cases e
    · rename_i n r' e
      simp only [List.cons.injEq] at e
      obtain ⟨rfl, rfl⟩ := e
      split at h
      case isFalse => cases h
      rename_i hn
      obtain ⟨t, ht, rfl⟩ := Option.map_eq_some_iff.1 h
      obtain ⟨h1, h2⟩ := natsOf_get ht
      refine ⟨by simp [h1], fun j x hj => ?_⟩
      cases j with
      | zero =>
        simp only [List.getElem?_cons_zero, Option.some.injEq] at hj ⊢
        subst hj
        exact ⟨by omega, by congr 1; omega⟩
      | succ j =>
        simp only [List.getElem?_cons_succ] at hj ⊢
        exact h2 j x hj
    · cases h

theorem liesAt_bytes_at {e : TypeId} (hc : P.cellsOf e = 1) (count off n : Nat) (hn : off + n ≤ count) : liesAt P P.depth e count off e n = true := by
  have hd : P.depth = (2 * (P.types.size + Made.depth) + 1) + 1 := rfl
  rw [hd]
  simp only [liesAt, Bool.or_eq_true]
  left
  rw [hd]
  simp [rowAt, hc, hn, sameLayout, Nat.mod_one]

/-- unsafe.String over a part of a row of bytes. -/
theorem run_unsafeString_at (w : World) (pt it ty e : TypeId) (hp : P.underlying pt = some (.pointer e)) (hc : P.cellsOf e = 1) (g o cells : Nat) (hsh : w.shape? g = some (e, cells)) (l : List UInt8) (h0 : l ≠ []) (hn : o + l.length ≤ cells) (h63 : l.length ≤ 9223372036854775807)
    (hcell : ∀ j x, l[j]? = some x → w.cell? ((⟨g, o, none⟩ : Addr).add j) = some (.int .u8 x.toNat)) :
    (Builtin.unsafeString_ #[pt, it] ty #[.pointer (some ⟨g, o, none⟩), .int .i64 l.length]).run P w = .ok (.string ⟨l.toArray⟩) (w.freeze ⟨g, o, none⟩ l.length) := by
  have hl : l.length ≠ 0 := by simpa using h0
  have hlb := Lib.run_loadBytes (P := P) w l ⟨g, o, none⟩ .empty hcell
  have hlies := liesAt_bytes_at (P := P) hc (cells / P.cellsOf e) o l.length (by rw [hc]; simpa using hn)
  have h63' : ¬ (9223372036854775807 : Int) < (l.length : Int) := by omega
  have hdef : Builtin.unsafeString_ #[pt, it] ty #[.pointer (some ⟨g, o, none⟩), .int .i64 l.length] =
      (do
        let n ← asInt (.int .i64 l.length)
        if n < 0 then runtimePanic (.error "unsafe.String: len out of range")
        if n > IntKind.i64.max then unsupported (.unsafePointer "String: a length above the largest int")
        if n = 0 then pure (.string .empty)
        else if ← variablesAt ⟨g, o, none⟩ (← elemOf pt) n.toNat then do
          let s ← loadBytes ⟨g, o, none⟩ .empty n.toNat
          freeze ⟨g, o, none⟩ n.toNat
          pure (.string s)
        else unsupported (.unsafePointer "String: not so many bytes at ptr")) := rfl
  rw [hdef]
  have hmax : IntKind.i64.max = 9223372036854775807 := rfl
  have hneg : ¬ (l.length : Int) < 0 := by omega
  simp [asInt, asIntOf, hmax, h63', hneg, hl, variablesAt, hsh, elemOf, run_underlying hp, hlies, hlb]

theorem strS_sound {E8 tS tP tI tT : TypeId} (hp : P.underlying tP = some (.pointer E8)) (hc8 : P.cellsOf E8 = 1) (hen : ∀ vs w, (callFunc f vs).run P w = .ok (.enter f vs) w)
    (hS : ∀ (b o : Nat) (w W' : World) (q : Option Addr) (n c : Nat) (p : Option Addr) (s : ByteArray), w.cell? ⟨b, o + 1, none⟩ = some (.slice q n c) → (Builtin.unsafeSliceData_ #[tS] tP #[.slice q n c]).run P w.drew = .ok (.pointer p) w.drew →
      (Builtin.unsafeString_ #[tP, tI] tT #[.pointer p, .int .i64 n]).run P w.drew = .ok (.string s) W' → Calls P f #[.pointer (some ⟨b, o, none⟩)] w fun e w' => e = .returned (.string s) ∧ w' = W')
    (hs : strS E8 args h = some (v, h')) (hvs : VRs φ args vs.toList) (hr : Rel P ifs φ w0 h w) : CallOk P ifs φ w0 w h' v f vs := by
  unfold strS at hs
  split at hs
  case h_2 => cases hs
  rename_i r o
  obtain ⟨u, rfl, hu⟩ := args_one hvs
  obtain ⟨b, co, N, hφ, rfl⟩ := vr_ptr hu
  have cell : ∀ x, cell1 h r (o + 1) = some x → ∃ y, w.cell? ⟨b, co + o + 1, none⟩ = some y ∧ VR φ x y := by
    intro x hx
    have hl : h.cellsAt (r, o + 1) 1 = some [x] := by
      have := loadV_cell h r (o + 1)
      rw [hx, loadV_ptr] at this
      split at this
      · rename_i y hy; simp only [Option.some.injEq] at this; rw [hy, this]
      · cases this
    obtain ⟨us, h1, h2, h3⟩ := hr.load hφ hl
    obtain ⟨y, r', rfl, hy, hr'⟩ := (by simpa only [VRs] using h1 : ∃ y r', us = y :: r' ∧ VR φ x y ∧ r' = [])
    refine ⟨y, ?_, hy⟩
    have := h3 0 y rfl
    simpa [Nat.add_assoc] using this
  split at hs
  · rename_i n c es hcl
    simp only [Option.some.injEq, Prod.mk.injEq] at hs
    obtain ⟨rfl, rfl⟩ := hs
    obtain ⟨y, hy, hyv⟩ := cell _ hcl
    obtain ⟨rfl, rfl, rfl⟩ := vr_sliceNil hyv
    refine .inl ⟨hen _ _, Calls.mono (hS b (co + o) w w.drew none 0 0 none .empty hy (Lib.run_unsafeSliceData_nil w.drew _ _ _ _) (Lib.run_unsafeString_none w.drew _ _ _ none)) fun e w' ⟨he, hw⟩ => ?_⟩
    subst hw
    exact ⟨_, φ, he, by simp only [VR]; exact ⟨_, rfl, rfl⟩, hr.drew, Stp.drawn rfl⟩
  · rename_i a len cap hcl
    split at hs
    · cases hs
    rename_i hcap
    obtain ⟨y, hy, hyv⟩ := cell _ hcl
    obtain ⟨b2, co2, N2, cc, p, hφ2, rfl, hle, hcc, hp2⟩ := vr_slice hyv
    have hcc0 : cc ≠ 0 := by omega
    obtain ⟨rfl, hroom⟩ := hp2.resolve_left hcc0
    split at hs
    · rename_i hlen
      subst hlen
      simp only [Option.some.injEq, Prod.mk.injEq] at hs
      obtain ⟨rfl, rfl⟩ := hs
      refine .inl ⟨hen _ _, Calls.mono (hS b (co + o) w w.drew _ 0 cc _ .empty hy (Lib.run_unsafeSliceData_row w.drew _ _ _ _ _ hcc0) (Lib.run_unsafeString_none w.drew _ _ _ _)) fun e w' ⟨he, hw⟩ => ?_⟩
      subst hw
      exact ⟨_, φ, he, by simp only [VR]; exact ⟨_, rfl, rfl⟩, hr.drew, Stp.drawn rfl⟩
    · rename_i hlen
      split at hs
      case h_2 => cases hs
      rename_i cs0 e fam base sh pl cs hget hcs
      split at hs
      case isFalse => cases hs
      rename_i hE
      obtain ⟨rfl, hbig⟩ := hE
      obtain ⟨s, hnat, e2⟩ := Option.map_eq_some_iff.1 hs
      simp only [Prod.mk.injEq] at e2
      obtain ⟨rfl, rfl⟩ := e2
      obtain ⟨hsl, hsg⟩ := natsOf_get hnat
      obtain ⟨us, g1, g2, g3⟩ := hr.load hφ2 hcs
      obtain ⟨ob, k1, k2⟩ := hr.blk _ _ _ _ hφ2
      rw [hget] at k2
      obtain ⟨C, fr, rfl, hN, hco, hfz, hpl, hcell⟩ := k2
      have hcl' := g1.len
      have hll : (s.map UInt8.ofNat).length = len := by rw [List.length_map, hsl, hcl', g2]
      have hcell : ∀ j x, (s.map UInt8.ofNat)[j]? = some x → w.drew.cell? ((⟨b2, co2 + a.2, none⟩ : Addr).add j) = some (.int .u8 x.toNat) := by
        intro j x hj
        rw [List.getElem?_map] at hj
        obtain ⟨n, hn, rfl⟩ := Option.map_eq_some_iff.1 hj
        obtain ⟨n1, n2⟩ := hsg j n hn
        obtain ⟨u, hu1, hu2⟩ := g1.get n2
        simp only [VR] at hu2
        subst hu2
        have := g3 j _ hu1
        have ha : ((⟨b2, co2 + a.2, none⟩ : Addr).add j) = ⟨b2, co2 + a.2 + j, none⟩ := by unfold Addr.add; split <;> simp_all
        rw [ha]
        rw [show w.drew.cell? ⟨b2, co2 + a.2 + j, none⟩ = w.cell? ⟨b2, co2 + a.2 + j, none⟩ from rfl, this]
        simp [Nat.mod_eq_of_lt n1]
      have hus := run_unsafeString_at (P := P) w.drew tP tI tT e hp hc8 b2 (co2 + a.2) C.size (by have : w.drew.heap[b2]? = some (.cells C e fr) := k1; simp [World.shape?, this]) (s.map UInt8.ofNat) (by intro h0; rw [h0] at hll; simp at hll; omega) (by rw [hll]; omega) (by rw [hll]; omega) hcell
      rw [hll] at hus
      refine .inl ⟨hen _ _, Calls.mono (hS b (co + o) w _ _ len cc _ _ hy (Lib.run_unsafeSliceData_row w.drew _ _ _ _ _ hcc0) hus) fun e w' ⟨he, hw⟩ => ?_⟩
      subst hw
      obtain ⟨r1, r2⟩ := (hr.drew).freeze hφ2 hget (co2 + a.2) len
      refine ⟨_, φ, he, ?_, r1, (Stp.drawn rfl : Stp φ φ w w.drew).trans r2⟩
      simp only [VR]
      refine ⟨_, rfl, ?_⟩
      simp only [List.map_map]
      conv => rhs; rw [← List.map_id s]
      refine List.map_congr_left fun n hn => ?_
      obtain ⟨j, hj⟩ := List.mem_iff_getElem?.1 hn
      simp [Nat.mod_eq_of_lt (hsg j n hj).1]
  · cases hs

theorem strs_vr : ∀ {cs : List AV} {l : List (List Nat)} {us : List Value}, strsOf cs = some l → VRs φ cs us → ∃ xs : List ByteArray, us = xs.map Value.string ∧ xs.map (fun t => t.data.toList.map UInt8.toNat) = l
  | [], l, us, h, hv => by
    simp only [strsOf, Option.some.injEq] at h
    simp only [VRs] at hv
    exact ⟨[], by rw [hv]; rfl, by rw [← h]; rfl⟩
  | a :: r, l, us, h, hv => by
    simp only [VRs] at hv
    obtain ⟨u, us', rfl, h1, h2⟩ := hv
    unfold strsOf at h
    split at h
    · rename_i e; cases e
    · rename_i s r' e
      simp only [List.cons.injEq] at e
      obtain ⟨rfl, rfl⟩ := e
      obtain ⟨t, ht, rfl⟩ := Option.map_eq_some_iff.1 h
      obtain ⟨xs, e1, e2⟩ := strs_vr ht h2
      simp only [VR] at h1
      obtain ⟨b, rfl, rfl⟩ := h1
      exact ⟨b :: xs, by rw [e1]; rfl, by rw [List.map_cons, e2]⟩
    · cases h

theorem joinL_eq (sep : List UInt8) : ∀ xs : List (List UInt8), joinL (sep.map UInt8.toNat) (xs.map (·.map UInt8.toNat)) = (Lib.join xs sep).map UInt8.toNat
  | [] => rfl
  | [x] => by simp [joinL, Lib.join_one]
  | x :: y :: r => by
    have ih := joinL_eq sep (y :: r)
    have e : Lib.join (x :: y :: r) sep = x ++ (sep ++ Lib.join (y :: r) sep) := by simp [Lib.join, List.intercalate]
    rw [e]
    simp only [List.map_cons, joinL, List.map_append] at ih ⊢
    rw [ih]

theorem joinS_sound (hen : ∀ vs w, (callFunc f vs).run P w = .ok (.enter f vs) w)
    (hJ0 : ∀ (a : Option Addr) (c : Nat) (sep : ByteArray) (w : World), Calls P f #[.slice a 0 c, .string sep] w fun e w' => e = .returned (.string ⟨#[]⟩) ∧ w' = w)
    (hJ : ∀ (bk o c : Nat) (xs : List ByteArray) (sep : ByteArray) (w : World), (∀ (j : Nat) x, xs[j]? = some x → w.cell? ⟨bk, o + j, none⟩ = some (.string x)) → bk < w.heap.size → xs.length ≤ 140737488355328 → xs.length ≤ c →
      (Lib.join (xs.map (·.data.toList)) sep.data.toList).length ≤ 140737488355328 →
      Calls P f #[.slice (some ⟨bk, o, none⟩) xs.length c, .string sep] w fun e w' => e = .returned (.string ⟨(Lib.join (xs.map (·.data.toList)) sep.data.toList).toArray⟩) ∧ Below w.heap.size w w')
    (hs : joinS args h = some (v, h')) (hvs : VRs φ args vs.toList) (hr : Rel P ifs φ w0 h w) : CallOk P ifs φ w0 w h' v f vs := by
  unfold joinS at hs
  split at hs
  · rename_i n c es sep
    simp only [Option.some.injEq, Prod.mk.injEq] at hs
    obtain ⟨rfl, rfl⟩ := hs
    obtain ⟨u, u', rfl, hu, hu'⟩ := args_two hvs
    obtain ⟨rfl, rfl, rfl⟩ := vr_sliceNil hu
    simp only [VR] at hu'
    obtain ⟨sb, rfl, rfl⟩ := hu'
    refine .inl ⟨hen _ _, Calls.mono (hJ0 none 0 sb w) fun e w' ⟨he, hw⟩ => ?_⟩
    subst hw
    exact ⟨_, φ, he, by simp only [VR]; exact ⟨_, rfl, rfl⟩, hr, Stp.refl _ _⟩
  · rename_i a n c sep
    split at hs
    · cases hs
    rename_i hc
    obtain ⟨cs, hcs, hs⟩ := Option.bind_eq_some_iff.1 hs
    obtain ⟨l, hl, hs⟩ := Option.bind_eq_some_iff.1 hs
    split at hs
    case isFalse => cases hs
    rename_i hroom
    simp only [Option.some.injEq, Prod.mk.injEq] at hs
    obtain ⟨rfl, rfl⟩ := hs
    obtain ⟨u, u', rfl, hu, hu'⟩ := args_two hvs
    obtain ⟨b, co, N, cc, p, hφ, rfl, hle, hcc, hp⟩ := vr_slice hu
    obtain ⟨rfl, _⟩ := hp.resolve_left (by omega)
    simp only [VR] at hu'
    obtain ⟨sb, rfl, rfl⟩ := hu'
    obtain ⟨us, g1, g2, g3⟩ := hr.load hφ hcs
    obtain ⟨xs, rfl, rfl⟩ := strs_vr hl g1
    rw [List.length_map] at g2
    subst g2
    have hjl : joinL (sb.data.toList.map UInt8.toNat) (xs.map fun t => t.data.toList.map UInt8.toNat) = (Lib.join (xs.map (·.data.toList)) sb.data.toList).map UInt8.toNat := by
      rw [← joinL_eq, List.map_map]; rfl
    rw [hjl] at hroom ⊢
    rw [List.length_map] at hroom
    have := hr.dom _ _ _ _ hφ
    refine .inl ⟨hen _ _, Calls.mono (hJ b (co + a.2) cc xs sb w (fun j x hx => ?_) this.2 hroom.2 (by omega) hroom.1) fun e w' ⟨he, hb⟩ => ?_⟩
    · exact g3 j _ (by rw [List.getElem?_map, hx]; rfl)
    · obtain ⟨r1, r2⟩ := hr.beyond hb
      exact ⟨_, φ, he, by simp only [VR]; exact ⟨_, rfl, rfl⟩, r1, r2⟩
  · cases hs
end
end Go.Proofs.YtjihmonajekomaaGreatDoor.Ax
