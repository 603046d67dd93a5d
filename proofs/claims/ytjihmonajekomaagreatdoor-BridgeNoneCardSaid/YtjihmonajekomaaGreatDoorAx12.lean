/- Every operation that only reads memory, the whole. Conditions: as each theorem states. -/
import Derived.Test.YtjihmonajekomaaGreatDoorAx11
import Derived.Laws.IdiomStrings
namespace Go.Proofs.YtjihmonajekomaaGreatDoor.Ax
open Go Go.RowKit
set_option linter.unusedVariables false

section
variable {P : Program} {ifs : List TypeId} {φ : Emb} {w0 w : World} {h : AH} {env : List AV} {ρ : Operand → Value}

theorem vr_mapNil {v : Value} (h : VR φ (.map none) v) : v = .map none := by simpa only [VR] using h
theorem vr_map {r : Nat} {v : Value} (h : VR φ (.map (some r)) v) : ∃ b N, φ r = some (b, 0, N) ∧ v = .map (some b) := by simpa only [VR] using h

theorem Rel.mapAt (hr : Rel P ifs φ w0 h w) {r b N : Nat} (hi : φ r = some (b, 0, N)) {es : List (AV × AV × Nat)} {clock : Nat} (hg : h.get r = .map es clock) :
    ∃ E, w.heap[b]? = some (.map E clock) ∧ MR φ es E.toList ∧ (Go.getObj b).run P w = .ok (.map E clock) w := by
  obtain ⟨o, h1, h2⟩ := hr.blk _ _ _ _ hi
  rw [hg] at h2
  obtain ⟨_, E, rfl, h3⟩ := h2
  exact ⟨E, h1, h3, hr.getObj hi h1 (by simp)⟩

/-- Values of a kind that is no number and no string are compared by 'equal'. -/
theorem binOp_eq {op : BinOp} {t : TypeId} {x y : AV} {x' y' : Value} {e : EqTy} {r : Bool} (hop : op = .eql ∨ op = .neq) (hq : e.eq h x y = some r) (hx : VR φ x x') (hn : e ≠ .int ∧ e ≠ .str) :
    binOp op t x' y' = (if op = .neq then (do pure (.bool (!(← Op.equal t x' y')))) else (do pure (.bool (← Op.equal t x' y')))) := by
  have hsh : (∃ b, x' = .bool b) ∨ (∃ a, x' = .pointer a) ∨ (∃ a n c, x' = .slice a n c) ∨ (∃ m, x' = .map m) ∨ (∃ f a b, x' = .func f a b) ∨ x' = .nilFunc ∨ (∃ u v, x' = .iface u v) ∨ x' = .nilIface ∨ (∃ cs, x' = .agg cs) := by
    cases e with
    | bool => simp only [EqTy.eq] at hq; unfold eqBool at hq; split at hq <;> simp at hq; exact .inl ⟨_, vr_bool hx⟩
    | int => exact absurd rfl hn.1
    | str => exact absurd rfl hn.2
    | ptr =>
      simp only [EqTy.eq] at hq; unfold eqPtr at hq
      split at hq
      case h_2 => cases hq
      rename_i a b
      refine .inr (.inl ?_)
      cases a with
      | none => exact ⟨none, by simpa only [VR] using hx⟩
      | some a => obtain ⟨_, _, _, _, e⟩ := vr_ptr hx; exact ⟨_, e⟩
    | slice =>
      simp only [EqTy.eq] at hq; unfold eqSlice at hq
      split at hq
      case h_2 => cases hq
      rename_i a _ _ _ _ _ _ _
      refine .inr (.inr (.inl ?_))
      cases a with
      | none => obtain ⟨_, _, e⟩ := vr_sliceNil hx; exact ⟨_, _, _, e⟩
      | some a => obtain ⟨_, _, _, _, _, _, e, _⟩ := vr_slice hx; exact ⟨_, _, _, e⟩
    | map =>
      simp only [EqTy.eq] at hq; unfold eqMap at hq
      split at hq
      case h_2 => cases hq
      rename_i a b
      refine .inr (.inr (.inr (.inl ?_)))
      cases a with
      | none => exact ⟨_, vr_mapNil hx⟩
      | some a => obtain ⟨_, _, _, e⟩ := vr_map hx; exact ⟨_, e⟩
    | func =>
      simp only [EqTy.eq] at hq; unfold eqFunc at hq
      split at hq
      · exact .inr (.inr (.inr (.inr (.inr (.inl (by simpa only [VR] using hx))))))
      · exact .inr (.inr (.inr (.inr (.inr (.inl (by simpa only [VR] using hx))))))
      · obtain ⟨_, _, _, e⟩ := vr_func hx; exact .inr (.inr (.inr (.inr (.inl ⟨_, _, _, e⟩))))
      · cases hq
    | iface =>
      simp only [EqTy.eq] at hq; unfold eqIface at hq
      split at hq
      · exact .inr (.inr (.inr (.inr (.inr (.inr (.inr (.inl (vr_nilIface hx))))))))
      · exact .inr (.inr (.inr (.inr (.inr (.inr (.inr (.inl (vr_nilIface hx))))))))
      · obtain ⟨_, e, _⟩ := vr_iface hx; exact .inr (.inr (.inr (.inr (.inr (.inr (.inl ⟨_, _, e⟩))))))
      · cases hq
    | struct fs =>
      simp only [EqTy.eq] at hq
      split at hq
      · rename_i h1 _
        obtain rfl := aggOf_some h1
        obtain ⟨_, e, _⟩ := vr_agg hx
        exact .inr (.inr (.inr (.inr (.inr (.inr (.inr (.inr ⟨_, e⟩)))))))
      · cases hq
  rcases hop with rfl | rfl <;> rcases hsh with ⟨_, rfl⟩ | ⟨_, rfl⟩ | ⟨_, _, _, rfl⟩ | ⟨_, rfl⟩ | ⟨_, _, _, rfl⟩ | rfl | ⟨_, _, rfl⟩ | rfl | ⟨_, rfl⟩ <;> simp [binOp]

theorem eq_run (hr : Rel P ifs φ w0 h w) {op : BinOp} {t : TypeId} {x y : AV} {x' y' : Value} {e : EqTy} {r : Bool} (hop : op = .eql ∨ op = .neq) (he : eqTyOf P 4 t = some e) (hq : e.eq h x y = some r) (hx : VR φ x x') (hy : VR φ y y') (hn : e ≠ .int ∧ e ≠ .str) :
    (binOp op t x' y').run P w = .ok (.bool (if op == .neq then !r else r)) w := by
  have h1 : (Op.equal t x' y').run P w = .ok r w := eq_sound hr 4 t e he Op.maxDepth (by decide) _ _ _ _ r hx hy hq
  rw [binOp_eq hop hq hx hn]
  rcases hop with rfl | rfl <;> simp [h1]

theorem eqGuard_lit {op : BinOp} {t : TypeId} {x y : Operand} (hc : isConstOp x = true ∨ isConstOp y = true) {a b : AV} {a' b' : Value} {r : Bool} (hq : eqIface a b = some r) (ha : VR φ a a') (hb : VR φ b b') (w : World) : (eqGuard op t x y a' b').run P w = .ok () w := by
  unfold eqIface at hq
  split at hq
  · obtain rfl := vr_nilIface ha
    obtain rfl := vr_nilIface hb
    rcases hc with hc | hc
    · cases x <;> simp [isConstOp] at hc
      cases op <;> simp [eqGuard]
    · cases y <;> simp [isConstOp] at hc
      cases x <;> cases op <;> simp [eqGuard]
  · obtain rfl := vr_nilIface ha
    obtain ⟨_, rfl, _⟩ := vr_iface hb
    exact eqGuard_plain op t x y _ _ (by simp) (by simp) w
  · obtain rfl := vr_nilIface hb
    obtain ⟨_, rfl, _⟩ := vr_iface ha
    exact eqGuard_plain op t x y _ _ (by simp) (by simp) w
  · cases hq

theorem eqGuard_struct {op : BinOp} {t : TypeId} {x y : Operand} (hg : P.eqGuardType P.depth t = false) {a' b' : Value} {cs : Array Value} (ha : a' = .agg cs) (w : World) : (eqGuard op t x y a' b').run P w = .ok () w := by
  subst ha
  cases b' <;> cases op <;> simp [eqGuard, hg]

theorem sliceArr_weak (hr : Rel P ifs φ w0 h w) {t e : TypeId} {n sz : Nat} (ht : P.underlying t = some (.array n e)) (hs : szOf P e = some sz) {a : Nat × Nat} {x' : Value} (hx : VR φ (.ptr (some a)) x') {cs : List (Option AV)} {ee f base : Nat} {sh ro pl : Bool} (hg : h.get a.1 = .cells cs ee f base sh ro pl)
    (hlen : a.2 + n * sz ≤ cs.length) {lo hi mx : Option AV} {lo' hi' mx' : Option Value} {l hh m : Nat} (hb : bounds n n lo hi mx = some (l, hh, m)) (hlo : OptVR φ lo lo') (hhi : OptVR φ hi hi') (hmx : OptVR φ mx mx') :
    ∃ v', (Instr.sliceAt t x' lo' hi' mx').run P w = .ok v' w ∧ VR φ (.slice (some (a.1, a.2 + l * sz)) (hh - l) (m - l) sz) v' := by
  obtain ⟨b, co, N, hφ, rfl⟩ := vr_ptr hx
  obtain ⟨o, k1, k2⟩ := hr.blk _ _ _ _ hφ
  rw [hg] at k2
  obtain ⟨C, fr, _, _, hco, _⟩ := k2
  obtain ⟨p, g1, g2, b1, b2, b3⟩ := sliceArr_sound (P := P) (b := b) (o := co + a.2) ht hs hb hlo hhi hmx w
  refine ⟨_, g1, ?_⟩
  simp only [VR]
  refine ⟨b, co, N, m - l, _, hφ, rfl, by omega, Nat.le_refl _, ?_⟩
  rcases g2 with e1 | rfl
  · exact .inl (by omega)
  · refine .inr ⟨by rw [Nat.add_assoc], ?_⟩
    have : (l + (m - l)) * sz ≤ n * sz := Nat.mul_le_mul_right _ (by omega)
    rw [Nat.add_mul] at this
    omega

def lkRest (kt et : TypeId) (k : Value) (ok : Bool) (E : Array MapEntry) : Sem Value := do
  Instr.checkKey E.isEmpty 10000 kt k
  let (v, ok') ← match ← Instr.findKey kt k E.toList with
    | some (_, v) => pure (v, true)
    | none => pure (← zeroValue et, false)
  pure (if ok then .tuple #[v, .bool ok'] else v)

theorem lookup_sound (hr : Rel P ifs φ w0 h w) {t kt et : TypeId} (ht : P.underlying t = some (.map kt et)) {ke : EqTy} (hk : keyTy P t = some ke) {z : AV} (hz : zeroOf P et = some z) {m k : AOpd} {m' k' : Value} (hm : VR φ (m.ev env) m') (hkv : VR φ (k.ev env) k') {ok : Bool} {v : AV}
    (hv : evalWeak env h (.lookup ke z ok m k) = some v) : ∃ v', (Instr.lookup t m' k' ok).run P w = .ok v' w ∧ VR φ v v' := by
  obtain ⟨zv, hz1, hz2⟩ := zeroOf_sound hz φ w
  have fin : ∀ {es : List (AV × AV × Nat)} {E : Array MapEntry} {r : Option (Nat × AV)}, MR φ es E.toList → findKeyIn h ke (k.ev env) es = some r → (Instr.lookup t m' k' ok).run P w = (lkRest kt et k' ok E).run P w →
      v = (match r with | some (_, u) => if ok then .tuple [u, .bool true] else u | none => if ok then .tuple [z, .bool false] else z) → ∃ v', (Instr.lookup t m' k' ok).run P w = .ok v' w ∧ VR φ v v' := by
    intro es E r hmr hf hread hveq
    obtain ⟨hck, r', g1, g2⟩ := findKey_sound hr ht hk hkv hmr hf
    rw [hread]
    unfold lkRest
    simp only [Sem.run_bind, Result.andThen_ok, hck, g1]
    subst hveq
    cases r with
    | none =>
      cases r' with
      | some _ => simp [FR] at g2
      | none =>
        refine ⟨if ok then .tuple #[zv, .bool false] else zv, by simp [hz1], ?_⟩
        cases ok
        · simpa using hz2
        · simp only [if_true, VR]; exact ⟨_, rfl, VRs.cons hz2 (VRs.cons (by simp [VR]) VRs.nil)⟩
    | some p =>
      cases r' with
      | none => simp [FR] at g2
      | some q =>
        refine ⟨if ok then .tuple #[q.2, .bool true] else q.2, by simp, ?_⟩
        cases ok
        · simpa using g2.2
        · simp only [if_true, VR]; exact ⟨_, rfl, VRs.cons g2.2 (VRs.cons (by simp [VR]) VRs.nil)⟩
  simp only [evalWeak] at hv
  split at hv
  · rename_i em
    rw [em] at hm
    obtain rfl := vr_mapNil hm
    split at hv <;> simp at hv
    rename_i hfit
    refine fin (es := []) (E := #[]) (r := none) rfl (by simp [findKeyIn, hfit, findIn]) (by unfold Instr.lookup; simp only [Sem.run_bind, run_und w ht, Result.andThen_ok, Sem.run_pure, lkRest]; rfl) hv.symm
  · rename_i r em
    rw [em] at hm
    obtain ⟨b, N, hφ, rfl⟩ := vr_map hm
    split at hv
    case h_2 => cases hv
    rename_i es cl hg
    obtain ⟨E, q1, q2, q3⟩ := hr.mapAt hφ hg
    split at hv
    · rename_i i u hf
      simp at hv
      exact fin q2 hf (by unfold Instr.lookup; simp only [Sem.run_bind, run_und w ht, q3, Result.andThen_ok, Sem.run_pure, lkRest]; rfl) hv.symm
    · rename_i hf
      simp at hv
      exact fin q2 hf (by unfold Instr.lookup; simp only [Sem.run_bind, run_und w ht, q3, Result.andThen_ok, Sem.run_pure, lkRest]; rfl) hv.symm
    · cases hv
  · cases hv

theorem ofBytes_sound (hr : Rel P ifs φ w0 h w) {s d e : TypeId} (hs : P.underlying s = some (.slice e)) (hd : P.underlying d = some .string) (he : P.underlying e = some (.int .u8)) {x : AOpd} {x' : Value} (hx : VR φ (x.ev env) x') {v : AV} (hv : evalWeak env h (.ofBytes x) = some v) :
    ∃ v', (convert s d x').run P w = .ok v' w ∧ VR φ v v' := by
  simp only [evalWeak] at hv
  split at hv
  · rename_i a b c ex
    rw [ex] at hx
    obtain ⟨_, _, rfl⟩ := vr_sliceNil hx
    simp at hv; subst hv
    refine ⟨.string .empty, by rw [run_convert_bytes_string w s d e _ _ _ hs he hd]; simp [Conv.bytesToString], ?_⟩
    simp only [VR]; exact ⟨_, rfl, rfl⟩
  · rename_i a len c ex
    rw [ex] at hx
    obtain ⟨b, co, N, cc, p, hφ, rfl, h1, h2, h3⟩ := vr_slice hx
    simp only [Option.bind_eq_some_iff, Option.map_eq_some_iff] at hv
    obtain ⟨cs, hc, bs, hb, rfl⟩ := hv
    obtain ⟨ns, rfl, rfl⟩ := bytesOf_spec hb
    have hln : ns.length = len := by
      unfold AH.cellsAt at hc
      split at hc
      · have := (takeSome_spec _ _ _ hc).1; simpa using this
      · cases hc
    have hload : ∀ p', (len = 0 ∨ p' = ⟨b, co + a.2, none⟩) → (loadCells p' len).run P w = .ok (ns.map (Value.int .u8)).toArray w := by
      intro p' hp'
      rcases hp' with h0 | rfl
      · subst h0
        have : ns = [] := List.length_eq_zero_iff.1 hln
        subst this
        exact run_loadCells_list w p' [] (by simp)
      · obtain ⟨us, g1, g2⟩ := load_many hr hφ hc
        have := vrs_ints g2
        rw [g1]; congr 1
        exact Array.ext' (by simpa using this)
    have hl := hload p (by rcases h3 with h3 | ⟨h3, _⟩; exact .inl (by omega); exact .inr h3)
    refine ⟨_, by rw [run_convert_bytes_string w s d e _ _ _ hs he hd]; exact run_bytesToString w p len cc ns hl, ?_⟩
    simp only [VR]
    refine ⟨_, rfl, ?_⟩
    have : ∀ (ns : List Int) (r : ByteArray), (ns.foldl (fun r n => r.push (UInt8.ofNat n.toNat)) r).data.toList.map UInt8.toNat = r.data.toList.map UInt8.toNat ++ ns.map fun n => n.toNat % 256 := by
      intro ns
      induction ns with
      | nil => simp
      | cons n ns ih => intro r; simp only [List.foldl_cons]; rw [ih]; simp [ByteArray.push]
    rw [this]; rfl
  · cases hv

theorem lenMap_sound (hr : Rel P ifs φ w0 h w) {t kt et : TypeId} (ht : P.underlying t = some (.map kt et)) {x : AOpd} {x' : Value} (hx : VR φ (x.ev env) x') {v : AV} (hv : evalWeak env h (.lenMap x) = some v) (u : TypeId) :
    ∃ v', (Builtin.len_ #[t] u #[x']).run P w = .ok v' w ∧ VR φ v v' := by
  simp only [evalWeak] at hv
  split at hv
  · rename_i ex
    rw [ex] at hx
    obtain rfl := vr_mapNil hx
    simp at hv; subst hv
    exact ⟨.int .i64 0, by simp [Builtin.len_, run_und w ht, goInt], by simp [VR]⟩
  · rename_i r ex
    rw [ex] at hx
    obtain ⟨b, N, hφ, rfl⟩ := vr_map hx
    split at hv <;> simp at hv
    rename_i es cl hg
    subst hv
    obtain ⟨E, q1, q2, q3⟩ := hr.mapAt hφ hg
    exact ⟨.int .i64 es.length, by simp [Builtin.len_, run_und w ht, q3, goInt, q2.len], by simp [VR]⟩
  · cases hv


theorem weak_sound (hr : Rel P ifs φ w0 h w) {o : Oper} {ao : AOp} (hc : cOp P ifs o = some ao) (ho : Opds φ env ρ) {v : AV} (hv : evalWeak env h ao = some v) :
    ∃ v', (execOp ρ o).run P w = .ok (.value v') w ∧ VR φ v v' := by
  obtain ⟨dst, op, ty, pos, after, guard⟩ := o
  cases op <;> simp only [cOp] at hc <;> simp only [execOp]
  case load t a =>
    split at hc <;> simp at hc
    rename_i s a' h1 h2
    subst hc
    have hx := ho a _ h2
    have : ∃ p u, ρ a = .pointer (some p) ∧ (loadVar t p).run P w = .ok u w ∧ VR φ v u := loadVar_sound hr h1 hx hv
    obtain ⟨p, u, e, g1, g2⟩ := this
    exact ⟨u, run_vwrap (by rw [e]; simp [Instr.loadAt, Instr.sureAddr, g1]), g2⟩
  case binOp op t x y yt =>
    split at hc
    case h_2 => cases hc
    rename_i x' y' h1 h2
    have hx := ho x _ h1
    have hy := ho y _ h2
    split at hc
    case isFalse => simp at hc; subst hc; simp [evalWeak] at hv
    rename_i hop
    have hop' : op = .eql ∨ op = .neq := by simpa using hop
    have fin : ∀ {e : EqTy}, eqTyOf P 4 t = some e → e ≠ .int ∧ e ≠ .str → (∀ r, e.eq h (x'.ev env) (y'.ev env) = some r → (eqGuard op t x y (ρ x) (ρ y)).run P w = .ok () w) → evalWeak env h (.eq (op == .neq) e x' y') = some v →
        ∃ v', ((do pure (Next.value (← (do eqGuard op t x y (ρ x) (ρ y); binOp op t (ρ x) (ρ y))))) : Sem Next).run P w = .ok (.value v') w ∧ VR φ v v' := by
      intro e he hn hg hv
      simp only [evalWeak, Option.map_eq_some_iff] at hv
      obtain ⟨r, hq, rfl⟩ := hv
      exact ⟨_, run_vwrap (by simp only [Sem.run_bind, hg r hq, Result.andThen_ok]; exact eq_run hr hop' he hq hx hy hn), by simp [VR]⟩
    have plain : ∀ {e : EqTy} {r : Bool}, e.eq h (x'.ev env) (y'.ev env) = some r → (e = .bool ∨ e = .ptr ∨ e = .slice ∨ e = .map ∨ e = .func) → (eqGuard op t x y (ρ x) (ρ y)).run P w = .ok () w := by
      intro e r hq he
      have : (∀ {c}, ρ x ≠ .agg c) ∧ ρ x ≠ .nilIface := by
        rcases he with rfl | rfl | rfl | rfl | rfl <;> simp only [EqTy.eq] at hq
        · unfold eqBool at hq; split at hq <;> simp at hq; rename_i e1 e2; rw [e1] at hx; have := vr_bool hx; rw [this]; simp
        · unfold eqPtr at hq; split at hq
          · rename_i a b e1 e2
            rw [e1] at hx
            cases a with
            | none => simp only [VR] at hx; rw [hx]; simp
            | some a => obtain ⟨_, _, _, _, e⟩ := vr_ptr hx; rw [e]; simp
          · cases hq
        · unfold eqSlice at hq; split at hq
          · rename_i a _ _ _ _ _ _ _ e1 e2
            rw [e1] at hx
            cases a with
            | none => obtain ⟨_, _, e⟩ := vr_sliceNil hx; rw [e]; simp
            | some a => obtain ⟨_, _, _, _, _, _, e, _⟩ := vr_slice hx; rw [e]; simp
          · cases hq
        · unfold eqMap at hq; split at hq
          · rename_i a b e1 e2
            rw [e1] at hx
            cases a with
            | none => rw [vr_mapNil hx]; simp
            | some a => obtain ⟨_, _, _, e⟩ := vr_map hx; rw [e]; simp
          · cases hq
        · unfold eqFunc at hq; split at hq
          · rename_i e1 e2; rw [e1] at hx; simp only [VR] at hx; rw [hx]; simp
          · rename_i e1 e2; rw [e1] at hx; simp only [VR] at hx; rw [hx]; simp
          · rename_i e1 e2; rw [e1] at hx; obtain ⟨_, _, _, e⟩ := vr_func hx; rw [e]; simp
          · cases hq
      exact eqGuard_plain op t x y _ _ (fun hh => this.2 hh.1) (fun hh => by obtain ⟨⟨c, hc⟩, _⟩ := hh; exact this.1 hc) w
    split at hc
    · simp at hc; subst hc; simp [evalWeak] at hv
    · simp at hc; subst hc; simp [evalWeak] at hv
    · rename_i hu
      simp at hc; subst hc
      exact fin (by simp [eqTyOf, hu]) (by simp) (fun r hq => plain hq (.inl rfl)) hv
    · rename_i ms hu
      split at hc
      case isFalse => cases hc
      rename_i hlit
      simp at hc; subst hc
      exact fin (by simp [eqTyOf, hu]) (by simp) (fun r hq => eqGuard_lit (by simpa using hlit) (by simpa only [EqTy.eq] using hq) hx hy w) hv
    · rename_i fs e hu he
      split at hc
      · cases hc
      rename_i hg
      simp at hc; subst hc
      have hst : ∃ l, e = .struct l := by
        unfold eqTyOf at he
        rw [hu] at he
        simp only at he
        split at he
        · cases he
        · obtain ⟨l, _, e⟩ := Option.map_eq_some_iff.1 he; exact ⟨l, e.symm⟩
      obtain ⟨l, rfl⟩ := hst
      refine fin he (by simp) (fun r hq => ?_) hv
      simp only [EqTy.eq] at hq
      split at hq
      · rename_i h1 _
        have := aggOf_some h1
        rw [this] at hx
        obtain ⟨cs, e, _⟩ := vr_agg hx
        exact eqGuard_struct (by simpa using hg) e w
      · cases hq
    · rename_i e he n1 n2 n3 n4 n5
      simp at hc; subst hc
      have hk : e = .bool ∨ e = .ptr ∨ e = .slice ∨ e = .map ∨ e = .func := by
        have he' := he
        unfold eqTyOf at he
        split at he
        · rename_i hu; exact absurd hu (by assumption)
        · rename_i k hu; exact absurd hu (by first | exact n1 _ | simp_all)
        · rename_i hu; simp_all
        · split at he <;> simp at he; subst he; simp
        · simp at he; subst he; simp
        · simp at he; subst he; simp
        · simp at he; subst he; simp
        · rename_i hu; simp_all
        · rename_i hu; simp_all
        · cases he
      refine fin he (by rcases hk with rfl | rfl | rfl | rfl | rfl <;> simp) (fun r hq => plain hq hk) hv
    · cases hc
  case convert s d x =>
    split at hc
    · simp at hc; subst hc; simp [evalWeak] at hv
    · simp at hc; subst hc; simp [evalWeak] at hv
    · split at hc <;> simp at hc; subst hc; simp [evalWeak] at hv
    · rename_i e x' h1 h2 h3
      split at hc
      case h_2 => cases hc
      rename_i h4
      simp at hc; subst hc
      obtain ⟨v', g1, g2⟩ := ofBytes_sound hr h1 h2 h4 (ho x _ h3) hv
      exact ⟨v', run_vwrap g1, g2⟩
    · cases hc
  case slice t x lo hi mx =>
    split at hc
    · simp at hc; subst hc; simp [evalWeak] at hv
    · obtain ⟨_, _, rfl⟩ := Option.map_eq_some_iff.1 hc; simp [evalWeak] at hv
    · rename_i n e x' lo' hi' mx' h1 h2 h3 h4 h5
      obtain ⟨sz, hs, rfl⟩ := Option.map_eq_some_iff.1 hc
      have hx := ho x _ h2
      simp only [evalWeak] at hv
      split at hv
      case h_2 => cases hv
      rename_i a ex
      rw [ex] at hx
      split at hv
      case h_2 => cases hv
      rename_i cs ee f base sh ro pl hg
      split at hv
      case isFalse => cases hv
      rename_i hlen
      simp only [Option.map_eq_some_iff] at hv
      obtain ⟨⟨l, hh, m⟩, hb, rfl⟩ := hv
      obtain ⟨v', g1, g2⟩ := sliceArr_weak hr h1 hs hx hg hlen hb (optVR_of ho h3) (optVR_of ho h4) (optVR_of ho h5)
      exact ⟨v', run_vwrap g1, g2⟩
    · cases hc
  case lookup t m k ok =>
    split at hc
    case h_2 => cases hc
    rename_i kt et h1
    split at hc <;> simp at hc
    rename_i ke z m' k' h2 h3 h4 h5
    subst hc
    obtain ⟨v', g1, g2⟩ := lookup_sound hr h1 h2 h3 (ho m _ h4) (ho k _ h5) hv
    exact ⟨v', run_vwrap g1, g2⟩
  case makeMap t r => cases r <;> simp at hc; subst hc; simp [evalWeak] at hv
  case call c =>
    split at hc
    · ((repeat' split at hc) <;> first | (cases hc; done) | (simp at hc; done) | (simp at hc; subst hc; simp [evalWeak] at hv; done) | (obtain ⟨_, _, rfl⟩ := Option.map_eq_some_iff.1 hc; simp [evalWeak] at hv; done))
    · ((repeat' split at hc) <;> first | (cases hc; done) | (simp at hc; done) | (simp at hc; subst hc; simp [evalWeak] at hv; done) | (obtain ⟨_, _, rfl⟩ := Option.map_eq_some_iff.1 hc; simp [evalWeak] at hv; done))
    · rename_i b hb
      simp only [resolve, hb, Sem.run_bind, Sem.run_pure, Result.andThen_ok, invoke]
      obtain ⟨cal, args, ats⟩ := c
      obtain ⟨args⟩ := args
      obtain ⟨ats⟩ := ats
      simp only at hb hc
      unfold cBuiltin at hc
      simp only at hc
      split at hc
      · rename_i t x
        split at hc
        · simp at hc; subst hc; simp [evalWeak] at hv
        · simp at hc; subst hc; simp [evalWeak] at hv
        · rename_i h1 h2
          simp at hc; subst hc
          obtain ⟨v', g1, g2⟩ := lenMap_sound hr h1 (ho x _ h2) hv ty
          exact ⟨v', run_vwrap (by simpa using g1), g2⟩
        · simp at hc; subst hc; simp [evalWeak] at hv
        · cases hc
      · ((repeat' split at hc) <;> first | (cases hc; done) | (simp at hc; done) | (simp at hc; subst hc; simp [evalWeak] at hv; done) | (obtain ⟨_, _, rfl⟩ := Option.map_eq_some_iff.1 hc; simp [evalWeak] at hv; done))
      · ((repeat' split at hc) <;> first | (cases hc; done) | (simp at hc; done) | (simp at hc; subst hc; simp [evalWeak] at hv; done) | (obtain ⟨_, _, rfl⟩ := Option.map_eq_some_iff.1 hc; simp [evalWeak] at hv; done))
      · ((repeat' split at hc) <;> first | (cases hc; done) | (simp at hc; done) | (simp at hc; subst hc; simp [evalWeak] at hv; done) | (obtain ⟨_, _, rfl⟩ := Option.map_eq_some_iff.1 hc; simp [evalWeak] at hv; done))
      · ((repeat' split at hc) <;> first | (cases hc; done) | (simp at hc; done) | (simp at hc; subst hc; simp [evalWeak] at hv; done) | (obtain ⟨_, _, rfl⟩ := Option.map_eq_some_iff.1 hc; simp [evalWeak] at hv; done))
      · ((repeat' split at hc) <;> first | (cases hc; done) | (simp at hc; done) | (simp at hc; subst hc; simp [evalWeak] at hv; done) | (obtain ⟨_, _, rfl⟩ := Option.map_eq_some_iff.1 hc; simp [evalWeak] at hv; done))
      · ((repeat' split at hc) <;> first | (cases hc; done) | (simp at hc; done) | (simp at hc; subst hc; simp [evalWeak] at hv; done) | (obtain ⟨_, _, rfl⟩ := Option.map_eq_some_iff.1 hc; simp [evalWeak] at hv; done))
      · cases hc
  all_goals ((repeat' split at hc) <;> first | (cases hc; done) | (simp at hc; done) | (simp at hc; subst hc; simp [evalWeak] at hv; done) | (obtain ⟨_, _, rfl⟩ := Option.map_eq_some_iff.1 hc; simp [evalWeak] at hv; done))
end
end Go.Proofs.YtjihmonajekomaaGreatDoor.Ax
