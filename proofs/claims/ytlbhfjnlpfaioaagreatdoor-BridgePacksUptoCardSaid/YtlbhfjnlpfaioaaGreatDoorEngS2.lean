/- The engine: operations that only compute. -/
import Derived.Test.YtlbhfjnlpfaioaaGreatDoorEngS1
import Derived.Laws.StructEq
import Derived.ChangeKeysEq
namespace Go.Eng
open Go
variable {P : Program}

theorem closed_same {ε : Env} {n : Nat} {v cv : Value} (h : closedD n v = true) (hr : Rep ε v cv) : cv = v := closedD_rep n v cv h hr

theorem cIndexAddr_ok {ε : Env} {t : TypeId} {x cx i ci v : Value} (h : cIndexAddr P t x i = some v) (hx : Rep ε x cx) (hi : Rep ε i ci) (w : World) :
    ∃ cv, (Instr.indexAt t cx ci).run P w = .ok cv w ∧ Rep ε v cv := by
  unfold cIndexAddr at h
  generalize hd : P.underlying t = od at h
  rcases od with _ | d
  · cases h
  cases d <;> try (cases h; done)
  case array len elem =>
    dsimp only at h
    generalize he : P.info? elem = oi at h
    rcases oi with _ | e
    · cases h
    · obtain ⟨b, off, rfl, h⟩ := pt_some (show pt x _ = some v from h)
      obtain ⟨k, n, rfl, h⟩ := nn_some h
      obtain ⟨h1, h⟩ := ifb_eq_some h
      simp at h; subst h
      rw [Nat.blt_eq] at h1
      obtain rfl := hi.int_inv
      obtain ⟨a, m, hm, rfl⟩ := hx.pt_inv
      have h0 : (0 : Int) ≤ Int.ofNat n ∧ Int.ofNat n < (len : Int) := ⟨Int.natCast_nonneg n, by simpa using h1⟩
      refine ⟨.pointer (some ⟨a.block, a.off + (off + n * e.size), none⟩), ?_, .ptr hm⟩
      simp [Instr.indexAt, asIntOf, run_underlying hd, Instr.sureAddr, run_sizeOf he, adda, Nat.add_assoc]
      simp at h0; omega
  case slice elem =>
    dsimp only at h
    generalize he : P.info? elem = oi at h
    rcases oi with _ | e
    · cases h
    · obtain ⟨b, off, len, cap, rfl, h⟩ := sl_some (show sl x _ = some v from h)
      obtain ⟨k, n, rfl, h⟩ := nn_some h
      obtain ⟨h1, h⟩ := ifb_eq_some h
      simp at h; subst h
      rw [Nat.blt_eq] at h1
      obtain rfl := hi.int_inv
      have h0 : (0 : Int) ≤ Int.ofNat n ∧ Int.ofNat n < (len : Int) := ⟨Int.natCast_nonneg n, by simpa using h1⟩
      have fin : ∀ (a : Addr) (m cap' : Nat), ε.m b = some (some a, m) → ∃ cv, (Instr.indexAt t (.slice (some ⟨a.block, a.off + off, none⟩) len cap') (.int k (Int.ofNat n))).run P w = .ok cv w ∧ Rep ε (.pointer (some ⟨b, off + n * e.size, none⟩)) cv := by
        intro a m cap' hm
        refine ⟨.pointer (some ⟨a.block, a.off + (off + n * e.size), none⟩), ?_, .ptr hm⟩
        simp [Instr.indexAt, asIntOf, run_underlying hd, run_sizeOf he, adda, Nat.add_assoc]
        simp at h0; omega
      cases hx with
      | slice hc hm => exact fin _ _ _ hm
      | gslice hm hk => exact fin _ _ _ hm
      | gsliceV hm => omega

theorem cFieldAddr_ok {ε : Env} {t : TypeId} {fi : Nat} {x cx v : Value} (h : cFieldAddr P t fi x = some v) (hx : Rep ε x cx) (w : World) :
    ∃ cv, (Instr.fieldAt t cx fi).run P w = .ok cv w ∧ Rep ε v cv := by
  unfold cFieldAddr at h
  generalize hd : P.underlying t = od at h
  rcases od with _ | d
  · cases h
  cases d <;> try (cases h; done)
  case struct fields =>
    dsimp only at h
    generalize hf : fields[fi]? = of at h
    rcases of with _ | f
    · cases h
    · dsimp only at h
      generalize hi : P.info? f.type = oi at h
      rcases oi with _ | i
      · cases h
      · dsimp only at h
        cases hz : Nat.beq i.size 0
        · rw [hz] at h
          obtain ⟨b, off, rfl, h⟩ := pt_some (show pt x _ = some v from h)
          obtain rfl := Option.some.inj h
          obtain ⟨a, m, hm, rfl⟩ := hx.pt_inv
          have hz' : i.size ≠ 0 := fun e => by rw [e] at hz; simp at hz
          refine ⟨.pointer (some ⟨a.block, a.off + (off + f.offset), none⟩), ?_, .ptr hm⟩
          simp [Instr.fieldAt, run_underlying hd, hf, Instr.sureAddr, fieldPlace, run_sizeOf hi, hz', adda, Nat.add_assoc]
        · rw [hz] at h; cases h

theorem cPart_ok {ε : Env} {t : TypeId} {c cc : List Value} {off : Nat} {v : Value} (h : cPart P t c off = some v) (hc : RepL ε c cc) (w : World) :
    ∃ cv, (part t ⟨cc⟩ off).run P w = .ok cv w ∧ Rep ε v cv := by
  unfold cPart at h
  generalize hd : P.underlying t = od at h
  generalize hi : P.info? t = oi at h
  cases od with
  | none => cases h
  | some d => cases oi with
  | none => cases h
  | some i =>
    replace h : ifb (isAggD d) (fun c off => ob (sub c off i.size) fun r => some (.agg ⟨r⟩)) (fun c off => nth off c) c off = some v := h
    cases hg : isAggD d
    · rw [hg] at h
      replace h : nth off c = some v := h
      rw [nth_eq] at h
      obtain ⟨cv, h1, h2⟩ := hc.get h
      refine ⟨cv, ?_, h2⟩
      simp [part, run_isAgg hd, hg, h1]
    · rw [hg] at h
      replace h : (ob (sub c off i.size) fun r => some (Value.agg ⟨r⟩)) = some v := h
      obtain ⟨r, h1, h2⟩ := ob_eq_some h
      obtain ⟨h3, rfl⟩ := sub_some h1
      simp at h2; subst h2
      refine ⟨.agg ⟨(cc.drop off).take i.size⟩, ?_, .agg ((hc.drop off).take i.size)⟩
      simp [part, run_isAgg hd, hg, run_sizeOf hi, List.extract_eq_take_drop]

theorem Rep.agg_inv {ε : Env} {c : Array Value} {cv : Value} (h : Rep ε (.agg c) cv) : ∃ cc, cv = .agg ⟨cc⟩ ∧ RepL ε c.toList cc := by
  cases h with
  | agg h => exact ⟨_, rfl, h⟩

theorem cField_ok {ε : Env} {t : TypeId} {fi : Nat} {x cx v : Value} (h : cField P t fi x = some v) (hx : Rep ε x cx) (w : World) :
    ∃ cv, (Instr.field t cx fi).run P w = .ok cv w ∧ Rep ε v cv := by
  unfold cField at h
  generalize hd : P.underlying t = od at h
  rcases od with _ | d
  · cases h
  cases d <;> try (cases h; done)
  case struct fields =>
    dsimp only at h
    generalize hf : fields[fi]? = of at h
    rcases of with _ | f
    · cases h
    · obtain ⟨c, rfl, h⟩ := ag_some (show ag x _ = some v from h)
      obtain ⟨cc, rfl, hc⟩ := hx.agg_inv
      obtain ⟨cv, h1, h2⟩ := cPart_ok h hc w
      refine ⟨cv, ?_, h2⟩
      simp [Instr.field, run_underlying hd, hf, asAgg, h1]

theorem cIndex_ok {ε : Env} {t : TypeId} {x cx i ci v : Value} (h : cIndex P t x i = some v) (hx : Rep ε x cx) (hi : Rep ε i ci) (w : World) :
    ∃ cv, (Instr.index t cx ci).run P w = .ok cv w ∧ Rep ε v cv := by
  unfold cIndex at h
  generalize hd : P.underlying t = od at h
  rcases od with _ | d
  · cases h
  cases d <;> try (cases h; done)
  case string =>
    obtain ⟨h1, h2⟩ := pk_some (show pk (ixStr P t x i) = some v from h)
    unfold ixStr at h1
    split at h1
    · cases hx
      obtain rfl := hi.int_inv
      exact ⟨v, peek_run h1 w, rep_closedD 1 v h2⟩
    · cases h1
  case array len elem =>
    dsimp only at h
    generalize he : P.info? elem = oi at h
    rcases oi with _ | e
    · cases h
    · obtain ⟨c, rfl, h⟩ := ag_some (show ag x _ = some v from h)
      obtain ⟨k, n, rfl, h⟩ := nn_some h
      obtain ⟨h1, h⟩ := ifb_eq_some h
      rw [Nat.blt_eq] at h1
      obtain rfl := hi.int_inv
      obtain ⟨cc, rfl, hc⟩ := hx.agg_inv
      obtain ⟨cv, h2, h3⟩ := cPart_ok h hc w
      refine ⟨cv, ?_, h3⟩
      have h0 : (0 : Int) ≤ (n : Int) ∧ (n : Int) < (len : Int) := ⟨Int.natCast_nonneg n, by omega⟩
      simp [Instr.index, asIntOf, run_underlying hd, h0, run_sizeOf he, h2]
      simp at h0; omega

/- whole numbers -/
theorem kM_eq (k : IntKind) : (kM k : Int) = 2 ^ k.bits := by cases k <;> rfl
theorem kH_le (k : IntKind) : kH k ≤ kM k := by cases k <;> decide
theorem wrap_lt (k : IntKind) {n : Nat} (h : n < kH k) : k.wrap n = n := by
  have hM : (n : Int) % (2 ^ k.bits : Int) = n := by
    rw [← kM_eq]
    exact Int.emod_eq_of_lt (by omega) (by have := kH_le k; omega)
  unfold IntKind.wrap
  rw [hM]
  cases k <;> simp [IntKind.signed, IntKind.bits, kH] at * <;> omega
theorem wrap_mod (k : IntKind) (n : Nat) : k.wrap n = k.wrap (n % kM k : Nat) := by
  unfold IntKind.wrap
  rw [← kM_eq]
  simp
theorem wrapN_ok {k : IntKind} {n : Nat} {v : Value} (h : wrapN k n = some v) : v = .int k (k.wrap n) := by
  unfold wrapN wrapM at h
  cases h1 : Nat.blt n (kH k)
  · rw [h1] at h
    obtain ⟨h2, h3⟩ := ifb_eq_some h
    rw [Nat.blt_eq] at h2
    simp only [Option.some.injEq] at h3; subst h3
    rw [wrap_mod]; exact congrArg (Value.int k) (wrap_lt k h2).symm
  · rw [h1] at h
    rw [Nat.blt_eq] at h1
    simp [ifb] at h; subst h
    rw [wrap_lt k h1]
theorem inR_ok {k : IntKind} {a b r : Nat} {v : Value} (h : inR k a b r = some v) : a < kH k ∧ b < kH k ∧ v = .int k (r : Int) := by
  obtain ⟨h1, h⟩ := ifb_eq_some h
  obtain ⟨h2, h⟩ := ifb_eq_some h
  rw [Nat.blt_eq] at h1 h2
  simp at h; subst h
  exact ⟨h1, h2, rfl⟩


theorem lt_bits (k : IntKind) {a : Nat} (h : a < kH k) : a < 2 ^ k.bits := by
  have h1 := kH_le k
  have h2 := kM_eq k
  have : (kM k : Int) = ((2 ^ k.bits : Nat) : Int) := by rw [h2]; simp
  omega
theorem ofInt_nat (k : IntKind) {a : Nat} (_h : a < kH k) : BitVec.ofInt k.bits (a : Int) = BitVec.ofNat k.bits a := by simp
theorem toNat_ofInt (k : IntKind) {a : Nat} (h : a < kH k) : (BitVec.ofInt k.bits (a : Int)).toNat = a := by
  rw [ofInt_nat k h, BitVec.toNat_ofNat, Nat.mod_eq_of_lt (lt_bits k h)]

theorem land_lt {k : IntKind} {a b : Nat} (ha : a < kH k) : a &&& b < kH k := Nat.lt_of_le_of_lt Nat.and_le_left ha
theorem kH_two (k : IntKind) : ∃ j, kH k = 2 ^ j := by
  cases k
  · exact ⟨7, rfl⟩
  · exact ⟨15, rfl⟩
  · exact ⟨31, rfl⟩
  · exact ⟨63, rfl⟩
  · exact ⟨8, rfl⟩
  · exact ⟨16, rfl⟩
  · exact ⟨32, rfl⟩
  · exact ⟨64, rfl⟩
theorem lor_lt {k : IntKind} {a b : Nat} (ha : a < kH k) (hb : b < kH k) : a ||| b < kH k := by
  obtain ⟨j, hj⟩ := kH_two k
  rw [hj] at ha hb ⊢; exact Nat.or_lt_two_pow ha hb
theorem lxor_lt {k : IntKind} {a b : Nat} (ha : a < kH k) (hb : b < kH k) : a ^^^ b < kH k := by
  obtain ⟨j, hj⟩ := kH_two k
  rw [hj] at ha hb ⊢; exact Nat.xor_lt_two_pow ha hb

theorem natBeq (a b : Nat) : ((a : Int) == (b : Int)) = Nat.beq a b := by
  rw [Bool.eq_iff_iff, Nat.beq_eq, beq_iff_eq]; omega
theorem natBle (a b : Nat) : decide ((a : Int) ≤ (b : Int)) = Nat.ble a b := by
  rw [Bool.eq_iff_iff, Nat.ble_eq, decide_eq_true_iff]; omega

theorem fastBin_ok {op : BinOp} {k : IntKind} {a b : Nat} {v : Value} (h : fastBin op k a b = some v) (t : TypeId) (w : World) :
    (binOp op t (.int k a) (.int k b)).run P w = .ok v w := by
  cases op <;> try (cases h; done)
  case add =>
    have := wrapN_ok (show wrapN k (a + b) = some v from h)
    simp [binOp, Op.intArith, this]
  case sub =>
    obtain ⟨h1, h⟩ := ifb_eq_some (show ifb (Nat.ble b a) (wrapN k (a - b)) none = some v from h)
    have h1 := Nat.le_of_ble_eq_true h1
    have := wrapN_ok h
    simp [binOp, Op.intArith, this, Int.ofNat_sub h1]
  case mul =>
    have := wrapN_ok (show wrapN k (a * b) = some v from h)
    simp [binOp, Op.intArith, this]
  case quo =>
    obtain ⟨h1, h⟩ := ifb_eq_some (show ifb (Nat.blt 0 b) (inR k a 0 (a / b)) none = some v from h)
    rw [Nat.blt_eq] at h1
    obtain ⟨h2, _, rfl⟩ := inR_ok h
    have h3 : k.wrap ((a / b : Nat) : Int) = ((a / b : Nat) : Int) := wrap_lt k (Nat.lt_of_le_of_lt (Nat.div_le_self _ _) h2)
    have h4 : (a : Int).tdiv (b : Int) = ((a / b : Nat) : Int) := by simp
    have h5 : ¬ ((b : Int) = 0) := by omega
    simp only [binOp, ne_eq, not_true_eq_false, if_false, Op.intDiv, h5, h4, h3]
    rfl
  case rem =>
    obtain ⟨h1, h⟩ := ifb_eq_some (show ifb (Nat.blt 0 b) (inR k a 0 (a % b)) none = some v from h)
    rw [Nat.blt_eq] at h1
    obtain ⟨h2, _, rfl⟩ := inR_ok h
    have h3 : k.wrap ((a % b : Nat) : Int) = ((a % b : Nat) : Int) := wrap_lt k (Nat.lt_of_le_of_lt (Nat.mod_le _ _) h2)
    have h4 : (a : Int).tmod (b : Int) = ((a % b : Nat) : Int) := by rw [Int.tmod_eq_emod_of_nonneg (by omega)]; simp
    have h5 : ¬ ((b : Int) = 0) := by omega
    simp only [binOp, ne_eq, not_true_eq_false, if_false, Op.intDiv, h5, h4]
    rfl
  case and =>
    obtain ⟨h1, h2, rfl⟩ := inR_ok (show inR k a b (a &&& b) = some v from h)
    have h3 : k.wrap ((a &&& b : Nat) : Int) = ((a &&& b : Nat) : Int) := wrap_lt k (land_lt h1)
    simp only [binOp, ne_eq, not_true_eq_false, if_false, Op.intBits, BitVec.toNat_and, toNat_ofInt k h1, toNat_ofInt k h2, h3]
    rfl
  case or =>
    obtain ⟨h1, h2, rfl⟩ := inR_ok (show inR k a b (a ||| b) = some v from h)
    have h3 : k.wrap ((a ||| b : Nat) : Int) = ((a ||| b : Nat) : Int) := wrap_lt k (lor_lt h1 h2)
    simp only [binOp, ne_eq, not_true_eq_false, if_false, Op.intBits, BitVec.toNat_or, toNat_ofInt k h1, toNat_ofInt k h2, h3]
    rfl
  case xor =>
    obtain ⟨h1, h2, rfl⟩ := inR_ok (show inR k a b (a ^^^ b) = some v from h)
    have h3 : k.wrap ((a ^^^ b : Nat) : Int) = ((a ^^^ b : Nat) : Int) := wrap_lt k (lxor_lt h1 h2)
    simp only [binOp, ne_eq, not_true_eq_false, if_false, Op.intBits, BitVec.toNat_xor, toNat_ofInt k h1, toNat_ofInt k h2, h3]
    rfl
  case eql =>
    have : v = .bool (Nat.beq a b) := by cases h; rfl
    subst this
    have e : ((a : Int) == (b : Int)) = Nat.beq a b := natBeq a b
    simp [binOp, Op.intCmp, e]
  case neq =>
    have : v = .bool (!(Nat.beq a b)) := by cases h; rfl
    subst this
    have e : ((a : Int) == (b : Int)) = Nat.beq a b := natBeq a b
    simp [binOp, Op.intCmp, bne, e]
  case lss =>
    have : v = .bool (Nat.blt a b) := by cases h; rfl
    subst this
    have e : decide ((a : Int) < (b : Int)) = Nat.blt a b := by
      rw [Bool.eq_iff_iff, Nat.blt_eq]; simp
    simp only [binOp, ne_eq, not_true_eq_false, if_false, Op.intCmp, e]
    rfl
  case leq =>
    have : v = .bool (Nat.ble a b) := by cases h; rfl
    subst this
    have e : decide ((a : Int) ≤ (b : Int)) = Nat.ble a b := natBle a b
    simp only [binOp, ne_eq, not_true_eq_false, if_false, Op.intCmp, e]
    rfl
  case gtr =>
    have : v = .bool (Nat.blt b a) := by cases h; rfl
    subst this
    have e : decide ((a : Int) > (b : Int)) = Nat.blt b a := by
      rw [Bool.eq_iff_iff, Nat.blt_eq]; simp
    simp only [binOp, ne_eq, not_true_eq_false, if_false, Op.intCmp, e]
    rfl
  case geq =>
    have : v = .bool (Nat.ble b a) := by cases h; rfl
    subst this
    have e : decide ((a : Int) ≥ (b : Int)) = Nat.ble b a := natBle b a
    simp only [binOp, ne_eq, not_true_eq_false, if_false, Op.intCmp, e]
    rfl

theorem fastShift_ok {op : BinOp} {k k' : IntKind} {a b : Nat} {v : Value} (h : fastShift op k a b = some v) (t : TypeId) (w : World) :
    (binOp op t (.int k a) (.int k' b)).run P w = .ok v w := by
  cases op <;> try (cases h; done)
  case shl =>
    obtain ⟨h1, h⟩ := ifb_eq_some (show ifb (Nat.blt b 64) (wrapN k (Nat.shiftLeft a b)) none = some v from h)
    rw [Nat.blt_eq] at h1
    have := wrapN_ok h
    subst this
    have hb : ¬ ((b : Int) < 0) := by omega
    have e : k.wrap ((a : Int) * 2 ^ (min b k.bits)) = k.wrap ((Nat.shiftLeft a b : Nat) : Int) := by
      have hs : Nat.shiftLeft a b = a * 2 ^ b := Nat.shiftLeft_eq a b
      rw [hs]
      by_cases hk : b ≤ k.bits
      · rw [Nat.min_eq_left hk]; simp
      · rw [Nat.min_eq_right (by omega)]
        have z1 : ((a : Int) * 2 ^ k.bits) % (2 ^ k.bits : Int) = 0 := by simp
        have z2 : (((a * 2 ^ b : Nat) : Int)) % (2 ^ k.bits : Int) = 0 := by
          obtain ⟨d, hd⟩ : ∃ d, b = k.bits + d := ⟨b - k.bits, by omega⟩
          rw [hd, Nat.pow_add, ← Nat.mul_assoc, Nat.mul_right_comm]
          simp
        unfold IntKind.wrap
        rw [z1, z2]
    simp [binOp, Op.shift, hb]
    simpa using e
  case shr =>
    obtain ⟨h1, h⟩ := ifb_eq_some (show ifb (Nat.blt b 64) (inR k a 0 (Nat.shiftRight a b)) none = some v from h)
    rw [Nat.blt_eq] at h1
    obtain ⟨h2, _, rfl⟩ := inR_ok h
    have hb : ¬ ((b : Int) < 0) := by omega
    have e : (a : Int).fdiv (2 ^ (min b k.bits)) = ((Nat.shiftRight a b : Nat) : Int) := by
      have hs : Nat.shiftRight a b = a / 2 ^ b := Nat.shiftRight_eq_div_pow a b
      rw [hs, Int.fdiv_eq_ediv_of_nonneg _ (by have : (0 : Int) < 2 ^ (min b k.bits) := Int.pow_pos (by omega); omega)]
      by_cases hk : b ≤ k.bits
      · rw [Nat.min_eq_left hk]; simp
      · rw [Nat.min_eq_right (by omega)]
        have hlt := lt_bits k h2
        have e1 : a / 2 ^ k.bits = 0 := Nat.div_eq_of_lt hlt
        have e2 : a / 2 ^ b = 0 := Nat.div_eq_of_lt (Nat.lt_of_lt_of_le hlt (Nat.pow_le_pow_right (by omega) (by omega)))
        rw [e2]
        have : ((a : Int) / ((2 ^ k.bits : Nat) : Int)) = ((a / 2 ^ k.bits : Nat) : Int) := by simp
        rw [e1] at this
        simpa using this
    simp [binOp, Op.shift, hb]
    simpa using e

theorem binFast_ok {op : BinOp} {k k' : IntKind} {a b : Nat} {v : Value} (h : binFast op k a k' b = some v) (t : TypeId) (w : World) :
    (binOp op t (.int k a) (.int k' b)).run P w = .ok v w := by
  unfold binFast at h
  cases hs : isShift op
  · rw [hs] at h
    obtain ⟨h1, h2⟩ := ifb_eq_some (show ifb (decide (k = k')) (fastBin op k a b) none = some v from h)
    have := of_decide_eq_true h1
    subst this
    exact fastBin_ok h2 t w
  · rw [hs] at h
    exact fastShift_ok (show fastShift op k a b = some v from h) t w

/- == of closed values -/
theorem eqInt_ok {t : TypeId} {x y : Value} {b : Bool} {k0 : IntKind} (hd : P.underlying t = some (.int k0)) (h : eqInt x y = some b) (n : Nat) (w : World) : (Op.equalIn (n + 1) t x y).run P w = .ok b w := by
  unfold eqInt at h
  split at h
  · rename_i k a k' b'
    obtain ⟨h1, h2⟩ := ifb_eq_some h
    have := of_decide_eq_true h1
    subst this
    obtain rfl := Option.some.inj h2
    rw [run_equalIn_int w n t k k0 _ _ hd]
    exact congrArg (fun b => Result.ok b w) (natBeq a b')
  · obtain ⟨h1, h2⟩ := ifb_eq_some h
    have := of_decide_eq_true h1
    subst this
    obtain rfl := Option.some.inj h2
    exact run_equalIn_int w n t _ k0 _ _ hd
  · cases h
theorem eqBool_ok {t : TypeId} {x y : Value} {b : Bool} (hd : P.underlying t = some .bool) (h : eqBool x y = some b) (n : Nat) (w : World) : (Op.equalIn (n + 1) t x y).run P w = .ok b w := by
  unfold eqBool at h
  split at h
  · obtain rfl := Option.some.inj h
    simp [Op.equalIn, run_underlying hd]
  · cases h
theorem eqStr_ok {t : TypeId} {x y : Value} {b : Bool} (hd : P.underlying t = some .string) (h : eqStr x y = some b) (n : Nat) (w : World) : (Op.equalIn (n + 1) t x y).run P w = .ok b w := by
  unfold eqStr at h
  split at h
  · obtain rfl := Option.some.inj h
    simp [Op.equalIn, run_underlying hd]
  · cases h

theorem cPart_same {t : TypeId} {c : List Value} {off : Nat} {v : Value} (h : cPart P t c off = some v) (w : World) : (part t ⟨c⟩ off).run P w = .ok v w := by
  unfold cPart at h
  generalize hd : P.underlying t = od at h
  generalize hi : P.info? t = oi at h
  cases od with
  | none => cases h
  | some d => cases oi with
  | none => cases h
  | some i =>
    replace h : ifb (isAggD d) (fun c off => ob (sub c off i.size) fun r => some (.agg ⟨r⟩)) (fun c off => nth off c) c off = some v := h
    cases hg : isAggD d
    · rw [hg] at h
      replace h : nth off c = some v := h
      rw [nth_eq] at h
      simp [part, run_isAgg hd, hg, h]
    · rw [hg] at h
      obtain ⟨r, h1, h2⟩ := ob_eq_some (show (ob (sub c off i.size) fun r => some (Value.agg ⟨r⟩)) = some v from h)
      obtain ⟨h3, rfl⟩ := sub_some h1
      obtain rfl := Option.some.inj h2
      simp [part, run_isAgg hd, hg, run_sizeOf hi, List.extract_eq_take_drop]

theorem eqStruct_ok {eq : TypeId → Value → Value → Option Bool} {n : Nat} (ih : ∀ t x y b, eq t x y = some b → ∀ w, (Op.equalIn n t x y).run P w = .ok b w) :
    ∀ (l : List Field) (xs ys : List Value) (b : Bool), eqStruct P eq l xs ys = some b → ∀ w, (Op.eqFields n ⟨xs⟩ ⟨ys⟩ l).run P w = .ok b w
  | [], _, _, b, h, w => by obtain rfl := Option.some.inj (show some true = some b from h); rfl
  | f :: l, xs, ys, b, h, w => by
    replace h : eqFields (eq f.type) (f.name == "_") (fun c => cPart P f.type c f.offset) (eqStruct P eq l) xs ys = some b := h
    unfold eqFields at h
    cases hs : f.name == "_"
    · rw [hs] at h
      obtain ⟨u, h1, h⟩ := ob_eq_some (show ob _ _ = some b from h)
      obtain ⟨v, h2, h⟩ := ob_eq_some h
      obtain ⟨r, h3, h⟩ := ob_eq_some h
      have hne : f.name ≠ "_" := by simpa using hs
      simp only [Op.eqFields, if_pos hne, Sem.run_bind, cPart_same h1, cPart_same h2, Result.andThen_ok, ih _ _ _ _ h3]
      cases r
      · obtain rfl := Option.some.inj (show some false = some b from h)
        rfl
      · exact eqStruct_ok ih l xs ys b h w
    · rw [hs] at h
      have hne : f.name = "_" := by simpa using hs
      simp only [Op.eqFields, hne, ne_eq, not_true_eq_false, if_false]
      exact eqStruct_ok ih l xs ys b h w

theorem eqElems_ok {eq : Value → Value → Option Bool} {n : Nat} {elem : TypeId} {i : TypeInfo} (hi : P.info? elem = some i) (ih : ∀ x y b, eq x y = some b → ∀ w, (Op.equalIn n elem x y).run P w = .ok b w) :
    ∀ (m s : Nat) (xs ys : List Value) (b : Bool), (P.underlying elem).isSome = true → (∀ d, P.underlying elem = some d → isAggD d = false) → eqElems eq i.size m s xs ys = some b → ∀ w, (Op.eqItems n elem (P.cellsOf elem) ⟨xs⟩ ⟨ys⟩ (List.range' s m)).run P w = .ok b w
  | 0, s, xs, ys, b, _, _, h, w => by obtain rfl := Option.some.inj (show some true = some b from h); rfl
  | m + 1, s, xs, ys, b, hsome, hag, h, w => by
    obtain ⟨u, h1, h⟩ := ob_eq_some (show ob (ifb (Nat.beq i.size 1) (nth s xs) none) _ = some b from h)
    obtain ⟨v, h2, h⟩ := ob_eq_some h
    obtain ⟨r, h3, h⟩ := ob_eq_some h
    obtain ⟨z, h1⟩ := ifb_eq_some h1
    obtain ⟨_, h2⟩ := ifb_eq_some h2
    have z := Nat.eq_of_beq_eq_true z
    have hc : P.cellsOf elem = 1 := by simp [Program.cellsOf, hi, z]
    rw [nth_eq] at h1 h2
    obtain ⟨d, hd⟩ := Option.isSome_iff_exists.1 hsome
    have hg := hag d hd
    have p1 : ∀ w, (part elem ⟨xs⟩ (s * P.cellsOf elem)).run P w = .ok u w := fun w => by simp [part, run_isAgg hd, hg, hc, h1]
    have p2 : ∀ w, (part elem ⟨ys⟩ (s * P.cellsOf elem)).run P w = .ok v w := fun w => by simp [part, run_isAgg hd, hg, hc, h2]
    simp only [List.range'_succ, Op.eqItems, Sem.run_bind, p1, p2, Result.andThen_ok, ih _ _ _ h3]
    cases r
    · obtain rfl := Option.some.inj (show some false = some b from h)
      rfl
    · exact eqElems_ok hi ih m (s + 1) xs ys b hsome hag h w

theorem fieldsOf_eq {t : TypeId} {fs : Array Field} (h : P.underlying t = some (.struct fs)) : P.fieldsOf t = fs := by simp [Program.fieldsOf, h]

theorem cEq_ok : ∀ (d : Nat) (t : TypeId) (x y : Value) (b : Bool), cEq P d t x y = some b → ∀ m w, (Op.equalIn (d + m) t x y).run P w = .ok b w
  | 0, _, _, _, _, h, _, _ => by cases h
  | d + 1, t, x, y, b, h, m, w => by
    have ih := cEq_ok d
    rw [show d + 1 + m = (d + m) + 1 by omega]
    replace h : (match P.underlying t with
    | some .bool => eqBool
    | some (.int _) => eqInt
    | some .string => eqStr
    | some (.struct fields) => ifb (P.stoodInHeld t) (fun _ _ => none) (fun x y => ag x fun xs => ag y fun ys => eqStruct P (cEq P d) fields.toList xs ys)
    | some (.array len elem) => match P.info? elem, P.underlying elem with
      | some i, some d' => ifb (isAggD d') (fun _ _ => none) (fun x y => ag x fun xs => ag y fun ys => eqElems (cEq P d elem) i.size len 0 xs ys)
      | _, _ => fun _ _ => none
    | _ => fun _ _ => none) x y = some b := h
    generalize hd : P.underlying t = od at h
    rcases od with _ | dd
    · cases h
    cases dd <;> try (cases h; done)
    case bool => exact eqBool_ok hd h _ w
    case int k => exact eqInt_ok hd h _ w
    case string => exact eqStr_ok hd h _ w
    case struct fields =>
      dsimp only at h
      cases hs : P.stoodInHeld t
      · rw [hs, ifb_false] at h
        obtain ⟨xs, rfl, h2⟩ := ag_some h
        obtain ⟨ys, rfl, h3⟩ := ag_some h2
        rw [run_equalIn_struct w (d + m) t xs ys (by rw [fieldsOf_eq hd]; exact hd) hs, fieldsOf_eq hd]
        exact eqStruct_ok (fun t x y b h w => ih t x y b h m w) fields.toList xs.toList ys.toList b h3 w
      · rw [hs] at h; cases h
    case array len elem =>
      dsimp only at h
      generalize hi : P.info? elem = oi at h
      generalize he : P.underlying elem = oe at h
      rcases oi with _ | i
      · cases h
      rcases oe with _ | de
      · cases h
      dsimp only at h
      cases hg : isAggD de
      · rw [hg, ifb_false] at h
        obtain ⟨xs, rfl, h2⟩ := ag_some h
        obtain ⟨ys, rfl, h3⟩ := ag_some h2
        rw [run_equalIn_array w (d + m) xs ys hd hi, List.range_eq_range']
        exact eqElems_ok hi (fun x y b h w => ih elem x y b h m w) len 0 xs.toList ys.toList b (by rw [he]; rfl) (fun d' hd' => by rw [he] at hd'; simp at hd'; rw [← hd']; exact hg) h3 w
      · rw [hg] at h; cases h

theorem Rep.slice_some {ε : Env} {b off len cap : Nat} {cv : Value} (h : Rep ε (.slice (some ⟨b, off, none⟩) len cap) cv) :
    (∃ a c, ε.m b = some (some a, c) ∧ ((cap < BIG ∧ cv = .slice (some ⟨a.block, a.off + off, none⟩) len cap) ∨ ∃ k, cap = BIG + k ∧ k ≤ c ∧ cv = .slice (some ⟨a.block, a.off + off, none⟩) len (c - k))) ∨
    (ε.m b = some (none, 0) ∧ len = 0 ∧ cap = BIG + 0 ∧ cv = .slice none 0 0) := by
  cases h with
  | slice hc h => exact .inl ⟨_, _, h, .inl ⟨hc, rfl⟩⟩
  | gslice h hk => exact .inl ⟨_, _, h, .inr ⟨_, rfl, hk, rfl⟩⟩
  | gsliceV h => exact .inr ⟨h, rfl, rfl, rfl⟩

theorem nilEq_ok {ε : Env} {t : TypeId} {x y cx cy : Value} {b : Bool} (hx : Rep ε x cx) (hy : Rep ε y cy) (h : nilEq x y = some b) (ht : isNilType (P.underlying t) x = true) (n : Nat) (w : World) :
    (Op.equalIn (n + 1) t cx cy).run P w = .ok b w := by
  generalize hd : P.underlying t = od at ht
  unfold nilEq at h
  split at h <;> (try (obtain rfl := Option.some.inj h))
  case h_1 => cases hx; cases hy; cases od with
    | none => cases ht
    | some d => cases d <;> simp [isNilType] at ht; simp [Op.equalIn, run_underlying hd]
  case h_2 => cases hy; cases hx; cases od with
    | none => cases ht
    | some d => cases d <;> simp [isNilType] at ht; simp [Op.equalIn, run_underlying hd]
  case h_3 => cases hx; cases hy; cases od with
    | none => cases ht
    | some d => cases d <;> simp [isNilType] at ht; simp [Op.equalIn, run_underlying hd]
  case h_4 => cases hx; cases hy; cases od with
    | none => cases ht
    | some d => cases d <;> simp [isNilType] at ht; simp [Op.equalIn, run_underlying hd]
  case h_5 b' off spot len cap =>
    cases hy
    have hc : (Nat.blt cap BIG || Nat.blt 0 len) = true := by
      cases hq : (Nat.blt cap BIG || Nat.blt 0 len)
      · rw [hq] at h; cases h
      · rfl
    rw [hc] at h
    obtain rfl := Option.some.inj (show some false = some b from h)
    have hne : ∃ a' l c, cx = .slice (some a') l c := by
      rcases hx.slice_some with ⟨a, c, _, ⟨_, rfl⟩ | ⟨k, _, _, rfl⟩⟩ | ⟨_, rfl, rfl, rfl⟩
      · exact ⟨_, _, _, rfl⟩
      · exact ⟨_, _, _, rfl⟩
      · exact absurd hc (by decide)
    obtain ⟨a', l, c, rfl⟩ := hne
    cases od with
    | none => cases ht
    | some d => cases d <;> simp [isNilType] at ht; simp [Op.equalIn, run_underlying hd]
  case h_6 => cases hx; cases hy; cases od with
    | none => cases ht
    | some d => cases d <;> simp [isNilType] at ht; simp [Op.equalIn, run_underlying hd]
  case h_7 => cases hx; cases hy; cases od with
    | none => cases ht
    | some d => cases d <;> simp [isNilType] at ht; simp [Op.equalIn, run_underlying hd]
  case h_8 => cases hx; cases hy; cases od with
    | none => cases ht
    | some d => cases d <;> simp [isNilType] at ht; simp [Op.equalIn, run_underlying hd]
  case h_9 => cases hx; cases hy; cases od with
    | none => cases ht
    | some d => cases d <;> simp [isNilType] at ht; simp [Op.equalIn, run_underlying hd]
  case h_10 => cases hx; cases hy; cases od with
    | none => cases ht
    | some d => cases d <;> simp [isNilType] at ht; simp [Op.equalIn, run_underlying hd]
  case h_11 => cases hx; cases hy; cases od with
    | none => cases ht
    | some d => cases d <;> simp [isNilType] at ht; simp [Op.equalIn, run_underlying hd]
  case h_12 => cases hx; cases hy; cases od with
    | none => cases ht
    | some d => cases d <;> simp [isNilType] at ht; simp [Op.equalIn, run_underlying hd]
  case h_13 => cases h

theorem eqGuard_other {op : BinOp} {t : TypeId} {xo yo : Operand} {a b : Value} (h : ∀ xs ys, ¬ (a = .agg xs ∧ b = .agg ys)) (hc : (isC xo || isC yo) = true) (w : World) : (eqGuard op t xo yo a b).run P w = .ok () w := by
  cases a with
  | nilIface => cases b with
    | nilIface => cases op <;> cases xo <;> cases yo <;> first | rfl | cases hc
    | _ => cases op <;> rfl
  | agg xs => cases b with
    | agg ys => exact absurd ⟨rfl, rfl⟩ (h xs ys)
    | _ => cases op <;> rfl
  | _ => cases op <;> rfl

theorem otherEq_ok {ε : Env} {c : Bool} {t : TypeId} {x y cx cy : Value} {b : Bool} (hx : Rep ε x cx) (hy : Rep ε y cy) (h : otherEq P c t x y = some b) (xo yo : Operand) (hc : c = (isC xo || isC yo)) (op : BinOp) (w : World) :
    (Op.equal t cx cy).run P w = .ok b w ∧ (eqGuard op t xo yo cx cy).run P w = .ok () w := by
  unfold otherEq at h
  split at h
  · rename_i xs ys
    cases hg : P.eqGuardType P.depth t
    · rw [hg, ifb_false] at h
      obtain ⟨h1, h2⟩ := ifb_eq_some h
      simp only [Bool.and_eq_true] at h1
      obtain rfl := closed_same h1.1 hx
      obtain rfl := closed_same h1.2 hy
      exact ⟨cEq_ok 20 t _ _ b h2 9980 w, run_eqGuard_agg w op t xo yo xs ys hg⟩
    · rw [hg] at h; cases h
  · rename_i hno
    obtain ⟨h1, h2⟩ := ifb_eq_some h
    simp only [Bool.and_eq_true] at h1
    refine ⟨nilEq_ok hx hy h2 h1.1 9999 w, eqGuard_other ?_ (by rw [← hc]; exact h1.2) w⟩
    rintro xs ys ⟨rfl, rfl⟩
    have o1 := hx.oneCell
    have o2 := hy.oneCell
    cases x <;> simp [oneV] at o1
    · cases y <;> simp [oneV] at o2
      · exact hno _ _ rfl rfl
      · simp [nilEq] at h2
    · simp [nilEq] at h2

def eqKind : Value → Bool
  | .agg _ | .pointer _ | .slice _ _ _ | .nilIface | .iface _ _ | .map _ | .nilFunc | .func _ _ _ => true
  | _ => false
theorem otherEq_kind {c : Bool} {t : TypeId} {x y : Value} {b : Bool} (h : otherEq P c t x y = some b) : eqKind x = true := by
  unfold otherEq at h
  split at h
  · rfl
  · obtain ⟨_, h2⟩ := ifb_eq_some h
    unfold nilEq at h2
    split at h2 <;> first | rfl | cases h2
theorem Rep.eqKind {ε : Env} {x cx : Value} (hx : Rep ε x cx) (h : Eng.eqKind x = true) : Eng.eqKind cx = true := by
  cases hx <;> first | rfl | cases h
theorem binOp_eql_of {t : TypeId} {x y : Value} (h : eqKind x = true) : binOp .eql t x y = (do let b ← Op.equal t x y; Pure.pure (Value.bool b)) := by
  cases x <;> (try (cases h; done)) <;> cases y <;> rfl
theorem binOp_neq_of {t : TypeId} {x y : Value} (h : eqKind x = true) : binOp .neq t x y = (do let b ← Op.equal t x y; Pure.pure (Value.bool (!b))) := by
  cases x <;> (try (cases h; done)) <;> cases y <;> rfl

theorem fast_closed {op : BinOp} {k k' : IntKind} {a b : Nat} {v : Value} (h : binFast op k a k' b = some v) : closedD 1 v = true := by
  unfold binFast at h
  cases hs : isShift op
  · rw [hs, ifb_false] at h
    obtain ⟨_, h⟩ := ifb_eq_some h
    cases op <;> (try (cases h; done)) <;> first
      | (cases h; rfl)
      | (obtain ⟨_, h⟩ := ifb_eq_some h; rw [wrapN_ok h]; rfl)
      | (obtain ⟨_, h⟩ := ifb_eq_some h; obtain ⟨_, _, rfl⟩ := inR_ok h; rfl)
      | (rw [wrapN_ok (show wrapN _ _ = some v from h)]; rfl)
      | (obtain ⟨_, _, rfl⟩ := inR_ok (show inR _ _ _ _ = some v from h); rfl)
  · rw [hs, ifb_true] at h
    cases op <;> (try (cases h; done)) <;> first
      | (obtain ⟨_, h⟩ := ifb_eq_some h; rw [wrapN_ok h]; rfl)
      | (obtain ⟨_, h⟩ := ifb_eq_some h; obtain ⟨_, _, rfl⟩ := inR_ok h; rfl)

theorem cBin_ok {ε : Env} {c : Bool} {op : BinOp} {t : TypeId} {x y cx cy v : Value} (hx : Rep ε x cx) (hy : Rep ε y cy) (h : cBin P c op t x y = some v) (xo yo : Operand) (hc : c = (isC xo || isC yo)) (w : World) :
    (eqGuard op t xo yo cx cy).run P w = .ok () w ∧ ∃ cv, (binOp op t cx cy).run P w = .ok cv w ∧ Rep ε v cv := by
  unfold cBin cBinWith at h
  split at h
  · rename_i k a k' b
    cases hx; cases hy
    rcases orElseV_some h with h | h
    · exact ⟨by cases op <;> rfl, v, binFast_ok h t w, rep_closedD 1 v (fast_closed h)⟩
    · obtain ⟨h1, h2⟩ := pk_some h
      exact ⟨by cases op <;> rfl, v, peek_run h1 w, rep_closedD 1 v h2⟩
  · cases hx; cases hy
    obtain ⟨h1, h2⟩ := pk_some h
    exact ⟨by cases op <;> rfl, v, peek_run h1 w, rep_closedD 1 v h2⟩
  · cases hx; cases hy
    rcases orElseV_some h with h | h
    · obtain ⟨rfl, ⟨rfl, rfl⟩ | ⟨rfl, rfl⟩⟩ := strEq_some h
      · exact ⟨rfl, _, by simp [binOp, Op.stringOp], .bool _⟩
      · exact ⟨rfl, _, by simp [binOp, Op.stringOp], .bool _⟩
    · obtain ⟨h1, h2⟩ := pk_some h
      exact ⟨by cases op <;> rfl, v, peek_run h1 w, rep_closedD 1 v h2⟩
  · cases hx; cases hy
    obtain ⟨h1, h2⟩ := pk_some h
    exact ⟨by cases op <;> rfl, v, peek_run h1 w, rep_closedD 1 v h2⟩
  · rename_i n1 n2 n3 n4
    unfold cBinOther at h
    cases op <;> try (cases h; done)
    case eql =>
      obtain ⟨b, h1, h2⟩ := ob_eq_some h
      obtain rfl := Option.some.inj h2
      obtain ⟨e1, e2⟩ := otherEq_ok hx hy h1 xo yo hc .eql w
      refine ⟨e2, .bool b, ?_, .bool b⟩
      rw [binOp_eql_of (hx.eqKind (otherEq_kind h1))]; simp [e1]
    case neq =>
      obtain ⟨b, h1, h2⟩ := ob_eq_some h
      obtain rfl := Option.some.inj h2
      obtain ⟨e1, e2⟩ := otherEq_ok hx hy h1 xo yo hc .neq w
      refine ⟨e2, .bool (!b), ?_, .bool (!b)⟩
      rw [binOp_neq_of (hx.eqKind (otherEq_kind h1))]; simp [e1]

theorem oUn_ok {ε : Env} {op : UnOp} {x cx v : Value} (hx : Rep ε x cx) (h : oUn P op x = some v) (w : World) : ∃ cv, (Op.unary op cx).run P w = .ok cv w ∧ Rep ε v cv := by
  unfold oUn at h
  split at h
  · cases hx; obtain ⟨h1, h2⟩ := pk_some h; exact ⟨v, peek_run h1 w, rep_closedD 1 v h2⟩
  · cases hx; obtain ⟨h1, h2⟩ := pk_some h; exact ⟨v, peek_run h1 w, rep_closedD 1 v h2⟩
  · cases h

theorem cConv_ok {ε : Env} {s d : TypeId} {x cx v : Value} (hx : Rep ε x cx) (h : cConv P s d x = some v) (w : World) : ∃ cv, (convert s d cx).run P w = .ok cv w ∧ Rep ε v cv := by
  have slow : ∀ {y}, (∃ k n, x = .int k n ∧ y = convert s d (.int k n)) ∨ (∃ b, x = .string b ∧ y = convert s d (.string b)) → pk (peek P y) = some v → ∃ cv, (convert s d cx).run P w = .ok cv w ∧ Rep ε v cv := by
    intro y hy h
    obtain ⟨h1, h2⟩ := pk_some h
    rcases hy with ⟨k, n, rfl, rfl⟩ | ⟨b, rfl, rfl⟩
    · cases hx; exact ⟨v, peek_run h1 w, rep_closedD 1 v h2⟩
    · cases hx; exact ⟨v, peek_run h1 w, rep_closedD 1 v h2⟩
  have slow2 : convSlow P s d x = some v → ∃ cv, (convert s d cx).run P w = .ok cv w ∧ Rep ε v cv := by
    intro h
    unfold convSlow at h
    split at h
    · exact slow (.inl ⟨_, _, rfl, rfl⟩) h
    · exact slow (.inr ⟨_, rfl, rfl⟩) h
    · cases h
  unfold cConv at h
  generalize hs : P.underlying s = os at h
  generalize hd : P.underlying d = od at h
  rcases os with _ | ds
  · exact slow2 h
  rcases od with _ | dd
  · cases ds <;> exact slow2 h
  cases ds <;> (try exact slow2 h)
  cases dd <;> (try exact slow2 h)
  rename_i k0 k'
  replace h : convWith P s d k' x = some v := h
  unfold convWith at h
  split at h
  · rename_i k n
    rcases orElseV_some h with h | h
    · cases hx
      obtain rfl := wrapN_ok h
      exact ⟨_, by simp [convert, run_underlying hs, run_underlying hd, Conv.intToInt], .int _ _⟩
    · exact slow (.inl ⟨_, _, rfl, rfl⟩) h
  · exact slow (.inl ⟨_, _, rfl, rfl⟩) h
  · cases h

theorem cS2a_ok {ε : Env} {t : TypeId} {x cx v : Value} (hx : Rep ε x cx) (h : cS2a P t x = some v) (w : World) : ∃ cv, (Instr.arrayAt t cx).run P w = .ok cv w ∧ Rep ε v cv := by
  unfold cS2a at h
  generalize hd : P.underlying t = od at h
  rcases od with _ | d
  · cases h
  cases d <;> try (cases h; done)
  case array n e =>
    obtain ⟨b, off, len, cap, rfl, h⟩ := sl_some (show s2a n x = some v from h)
    obtain ⟨h1, h⟩ := ifb_eq_some h
    obtain rfl := Option.some.inj h
    simp only [Bool.and_eq_true, Nat.blt_eq] at h1
    have h2 := Nat.le_of_ble_eq_true h1.1
    have fin : ∀ (a : Addr) (m cap' : Nat), ε.m b = some (some a, m) → ∃ cv, (Instr.arrayAt t (.slice (some ⟨a.block, a.off + off, none⟩) len cap')).run P w = .ok cv w ∧ Rep ε (.pointer (some ⟨b, off, none⟩)) cv := by
      intro a m cap' hm
      refine ⟨_, ?_, .ptr hm⟩
      have : ¬ len < n := by omega
      simp [Instr.arrayAt, run_underlying hd, this]
    rcases hx.slice_some with ⟨a, c, hm, ⟨_, rfl⟩ | ⟨k, _, _, rfl⟩⟩ | ⟨_, rfl, rfl, rfl⟩
    · exact fin a _ _ hm
    · exact fin a _ _ hm
    · omega

theorem cIface_ok {ε : Env} {t : TypeId} {x cx v : Value} (hx : Rep ε x cx) (h : cIface P t x = some v) (w : World) : ∃ cv, (Instr.makeInterface t cx).run P w = .ok cv w ∧ Rep ε v cv := by
  unfold cIface at h
  generalize hd : P.underlying t = od at h
  rcases od with _ | d
  · cases h
  cases d <;> (first | (cases h; done) | (cases h; exact ⟨_, by simp [Instr.makeInterface, run_underlying hd], .iface hx⟩))

theorem nilC_ok {ε : Env} {x cx v : Value} (hx : Rep ε x cx) (h : nilC x = some v) : v = x ∧ ((∃ a, cx = .pointer (some a)) ∨ (∃ t y, cx = .iface t y) ∨ ∃ f a b, cx = .func (.func f) a b) := by
  unfold nilC at h
  split at h
  · cases h; cases hx; exact ⟨rfl, .inl ⟨_, rfl⟩⟩
  · cases h; cases hx; exact ⟨rfl, .inr (.inl ⟨_, _, rfl⟩)⟩
  · cases h; cases hx; exact ⟨rfl, .inr (.inr ⟨_, _, _, rfl⟩)⟩
  · cases h
end Go.Eng
