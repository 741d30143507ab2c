/- Prefixes: the plain law. -/
import Derived.Test.YtohhhodkmnpjpaaAmTop
import Derived.KernelRfl
namespace Go.Am
def vld (l : Int) : Bool := decide (l ≥ 0) && decide (l ≤ 32)
def mskI (l : Int) : Int := IntKind.u32.wrap (4294967295 * 2 ^ min (IntKind.i64.wrap (32 - l)).toNat IntKind.u32.bits)
def contB (ip l x : Int) : Bool := vld l && (IntKind.u32.wrap (BitVec.ofInt IntKind.u32.bits (IntKind.u32.wrap (BitVec.ofInt IntKind.u32.bits ip ^^^ BitVec.ofInt IntKind.u32.bits x).toNat) &&& BitVec.ofInt IntKind.u32.bits (mskI l)).toNat == 0)
def coverB (a b c d : Int) : Bool := vld b && vld d && decide (b ≤ d) && contB a b c
def clnI (ip l : Int) : Int := IntKind.u32.wrap (BitVec.ofInt IntKind.u32.bits ip &&& BitVec.ofInt IntKind.u32.bits (mskI l)).toNat

abbrev B32 (x : Int) : BitVec 32 := BitVec.ofInt 32 x
def mskB (l : Int) : BitVec 32 := B32 (mskI l)

theorem wrap_toNat (z : BitVec 32) : IntKind.u32.wrap (z.toNat : Int) = (z.toNat : Int) := by
  have h := z.isLt
  simp [IntKind.wrap, IntKind.bits, IntKind.signed]
  omega
theorem ofInt_toNat (z : BitVec 32) : BitVec.ofInt 32 (z.toNat : Int) = z := by
  simp
theorem B32_toNat (z : BitVec 32) : B32 (z.toNat : Int) = z := ofInt_toNat z

theorem vld_iff (l : Int) : vld l = true ↔ 0 ≤ l ∧ l ≤ 32 := by simp [vld]

theorem contB_eq (ip l x : Int) : contB ip l x = (vld l && ((B32 ip ^^^ B32 x) &&& mskB l == 0)) := by
  unfold contB mskB
  show (vld l && (IntKind.u32.wrap (((BitVec.ofInt 32 (IntKind.u32.wrap ((B32 ip ^^^ B32 x).toNat : Int))) &&& BitVec.ofInt 32 (mskI l)).toNat : Int) == 0)) = _
  rw [wrap_toNat (B32 ip ^^^ B32 x), ofInt_toNat, wrap_toNat]
  congr 1
  rw [Bool.eq_iff_iff]
  simp only [beq_iff_eq]
  constructor
  · intro h
    apply BitVec.eq_of_toNat_eq
    simpa using h
  · intro h
    rw [h]; rfl
theorem clnI_eq (ip l : Int) : clnI ip l = ((B32 ip &&& mskB l).toNat : Int) := by
  unfold clnI mskB
  exact wrap_toNat _
theorem B32_clnI (ip l : Int) : B32 (clnI ip l) = B32 ip &&& mskB l := by
  rw [clnI_eq]; exact ofInt_toNat _

theorem mask_table : ∀ i < 33, ∀ j < 33, i ≤ j → mskB (Int.ofNat i) &&& mskB (Int.ofNat j) = mskB (Int.ofNat i) := by
  decide +kernel
theorem mask_le {b d : Int} (hb : vld b = true) (hd : vld d = true) (h : b ≤ d) : mskB b &&& mskB d = mskB b := by
  rw [vld_iff] at hb hd
  have h1 := mask_table b.toNat (by omega) d.toNat (by omega) (by omega)
  have e1 : Int.ofNat b.toNat = b := by simp; omega
  have e2 : Int.ofNat d.toNat = d := by simp; omega
  rw [e1, e2] at h1
  exact h1
theorem vld32 : vld 32 = true := by decide

/-- Alike under a mask. -/
theorem alike_iff (x y m : BitVec 32) : ((x ^^^ y) &&& m == 0) = true ↔ x &&& m = y &&& m := by
  rw [beq_iff_eq]
  constructor
  · intro h
    apply BitVec.eq_of_getLsbD_eq
    intro i hi
    have := congrArg (fun z => BitVec.getLsbD z i) h
    simp at this
    simp
    cases hm : m.getLsbD i <;> simp_all
  · intro h
    apply BitVec.eq_of_getLsbD_eq
    intro i hi
    have := congrArg (fun z => BitVec.getLsbD z i) h
    simp at this
    simp
    cases hm : m.getLsbD i <;> simp_all
theorem contB_iff (ip l x : Int) : contB ip l x = true ↔ vld l = true ∧ B32 ip &&& mskB l = B32 x &&& mskB l := by
  rw [contB_eq, Bool.and_eq_true, alike_iff]
theorem coverB_iff (a b c d : Int) : coverB a b c d = true ↔ vld b = true ∧ vld d = true ∧ b ≤ d ∧ B32 a &&& mskB b = B32 c &&& mskB b := by
  unfold coverB
  simp only [Bool.and_eq_true, contB_iff, decide_eq_true_eq]
  constructor
  · rintro ⟨⟨⟨h1, h2⟩, h3⟩, _, h4⟩; exact ⟨h1, h2, h3, h4⟩
  · rintro ⟨h1, h2, h3, h4⟩; exact ⟨⟨⟨h1, h2⟩, h3⟩, h1, h4⟩
theorem mask_down {x y : BitVec 32} {b d : Int} (hb : vld b = true) (hd : vld d = true) (h : b ≤ d) (e : x &&& mskB d = y &&& mskB d) : x &&& mskB b = y &&& mskB b := by
  rw [← mask_le hb hd h, BitVec.and_comm (mskB b), ← BitVec.and_assoc, ← BitVec.and_assoc, e]

theorem bool_eq_of {a b : Bool} (h : a = true ↔ b = true) : a = b := by
  cases a <;> cases b <;> simp_all

theorem cover_refl (a b : Int) : coverB a b a b = vld b := bool_eq_of (by rw [coverB_iff]; constructor; exact fun h => h.1; exact fun h => ⟨h, h, Int.le_refl _, rfl⟩)
theorem cover_one (a b x : Int) : coverB a b x 32 = contB a b x := bool_eq_of (by
  rw [coverB_iff, contB_iff]
  constructor
  · exact fun h => ⟨h.1, h.2.2.2⟩
  · exact fun h => ⟨h.1, vld32, ((vld_iff b).1 h.1).2, h.2⟩)
theorem cover_trans {a b c d e f : Int} (h1 : coverB a b c d = true) (h2 : coverB c d e f = true) : coverB a b e f = true := by
  rw [coverB_iff] at *
  obtain ⟨p1, p2, p3, p4⟩ := h1
  obtain ⟨q1, q2, q3, q4⟩ := h2
  exact ⟨p1, q2, by omega, p4.trans (mask_down p1 p2 p3 q4)⟩
theorem cover_cont {a b c d x : Int} (h1 : coverB a b c d = true) (h2 : contB c d x = true) : contB a b x = true := by
  rw [contB_iff, coverB_iff] at *
  obtain ⟨p1, p2, p3, p4⟩ := h1
  exact ⟨p1, p4.trans (mask_down p1 p2 p3 h2.2)⟩
theorem cover_not {a b c d : Int} (h : vld b = false ∨ vld d = false) : coverB a b c d = false := by
  cases hc : coverB a b c d with
  | false => rfl
  | true =>
    rw [coverB_iff] at hc
    rcases h with h | h
    · rw [hc.1] at h; cases h
    · rw [hc.2.1] at h; cases h
theorem cover_both {a b c d : Int} (hb : vld b = true) (hd : vld d = true) : (coverB a b c d && coverB c d a b) = (clnI a b == clnI c d && b == d) := by
  apply bool_eq_of
  simp only [Bool.and_eq_true, coverB_iff, beq_iff_eq]
  constructor
  · rintro ⟨⟨p1, p2, p3, p4⟩, ⟨q1, q2, q3, q4⟩⟩
    have : b = d := by omega
    subst this
    exact ⟨by rw [clnI_eq, clnI_eq, p4], rfl⟩
  · rintro ⟨h1, rfl⟩
    rw [clnI_eq, clnI_eq] at h1
    have h2 : B32 a &&& mskB b = B32 c &&& mskB b := BitVec.eq_of_toNat_eq (Int.ofNat_inj.1 h1)
    exact ⟨⟨hb, hb, Int.le_refl _, h2⟩, ⟨hb, hb, Int.le_refl _, h2.symm⟩⟩
theorem cln_twice (a b : Int) : clnI (clnI a b) b = clnI a b := by
  rw [clnI_eq, clnI_eq a b, B32_toNat, BitVec.and_assoc, BitVec.and_self]
theorem cover_cln {a b : Int} (hb : vld b = true) : coverB (clnI a b) b a b = true ∧ coverB a b (clnI a b) b = true := by
  rw [coverB_iff, coverB_iff, B32_clnI, BitVec.and_assoc, BitVec.and_self]
  exact ⟨⟨hb, hb, Int.le_refl _, rfl⟩, ⟨hb, hb, Int.le_refl _, rfl⟩⟩
end Go.Am
