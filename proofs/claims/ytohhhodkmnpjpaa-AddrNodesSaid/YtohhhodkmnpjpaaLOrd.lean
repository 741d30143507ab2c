/- Comparisons: the plain law. -/
import Derived.Test.YtohhhodkmnpjpaaLCovW
namespace Go.Proofs.Ytohhhodkmnpjpaa
open Go.Am
def cmpI (a b : Int) : Int := bif decide (a < b) then -1 else bif decide (a > b) then 1 else 0
def cmpE : List Int → List Int → Int
  | a :: l, b :: m => bif cmpI a b != 0 then cmpI a b else cmpE l m
  | _, _ => 0
def cmp_u32 : CSumm
  | [.int .u32 a, .int .u32 b], [] => .ret (.int .i64 (cmpI a b)) []
  | _, _ => .fail
def cmp_i64 : CSumm
  | [.int .i64 a, .int .i64 b], [] => .ret (.int .i64 (cmpI a b)) []
  | _, _ => .fail
def cmp_u8 : CSumm
  | [.int .u8 a, .int .u8 b], [] => .ret (.int .i64 (cmpI a b)) []
  | _, _ => .fail
def or_s : CSumm
  | [.sl 0 1 0 2], [(0, .cells 3 [.int .i64 a, .int .i64 b])] => .ret (.int .i64 (bif a != 0 then a else b)) []
  | _, _ => .fail
def cmpP_s : CSumm
  | [.agg [.int .u32 a, .int .i64 b], .agg [.int .u32 c, .int .i64 d]], [] => .ret (.int .i64 (cmpE [a, b] [c, d])) []
  | _, _ => .fail
def cmpE_s : CSumm
  | [.agg [.int .u8 a0, .int .u8 a1, .int .u8 a2, .int .u8 a3, .int .u8 a4, .int .u8 a5, .int .u8 a6, .int .u8 a7, .int .u8 a8, .int .u8 a9], .agg [.int .u8 b0, .int .u8 b1, .int .u8 b2, .int .u8 b3, .int .u8 b4, .int .u8 b5, .int .u8 b6, .int .u8 b7, .int .u8 b8, .int .u8 b9]], [] =>
    .ret (.int .i64 (cmpE [a0, a1, a2, a3, a4, a5, a6, a7, a8, a9] [b0, b1, b2, b3, b4, b5, b6, b7, b8, b9])) []
  | _, _ => .fail
abbrev κc := tbl [(32, cmp_u8)]
abbrev κp := tbl [(29, cmp_u32), (30, cmp_i64), (28, or_s)]
abbrev κo := tbl [(7, lives_s), (11, cmpP_s), (12, cmpE_s)]
end Go.Proofs.Ytohhhodkmnpjpaa
namespace Go.Proofs.Ytohhhodkmnpjpaa
open Go.Am
theorem cmpI_cases (a b : Int) : (a < b ∧ cmpI a b = -1) ∨ (a = b ∧ cmpI a b = 0) ∨ (b < a ∧ cmpI a b = 1) := by
  unfold cmpI
  rcases Int.lt_trichotomy a b with h | h | h
  · exact .inl ⟨h, by simp [h]⟩
  · exact .inr (.inl ⟨h, by simp [h]⟩)
  · have h1 : ¬ a < b := by omega
    exact .inr (.inr ⟨h, by simp [h, h1]⟩)
theorem cmpE_cons (a b : Int) (l m : List Int) : cmpE (a :: l) (b :: m) = if cmpI a b = 0 then cmpE l m else cmpI a b := by
  simp only [cmpE]
  by_cases h : cmpI a b = 0
  · simp [h]
  · have e : (cmpI a b != 0) = true := by simpa using h
    rw [e, if_neg h]; rfl
theorem cmpE_range : ∀ (l m : List Int), -1 ≤ cmpE l m ∧ cmpE l m ≤ 1
  | [], _ => by simp [cmpE]
  | _ :: _, [] => by simp [cmpE]
  | a :: l, b :: m => by
    rw [cmpE_cons]
    have := cmpE_range l m
    rcases cmpI_cases a b with ⟨_, h⟩ | ⟨_, h⟩ | ⟨_, h⟩ <;> rw [h] <;> simp <;> omega
theorem cmpE_neg : ∀ (l m : List Int), cmpE m l = - cmpE l m
  | [], [] => by simp [cmpE]
  | [], _ :: _ => by simp [cmpE]
  | _ :: _, [] => by simp [cmpE]
  | a :: l, b :: m => by
    rw [cmpE_cons, cmpE_cons, cmpE_neg l m]
    rcases cmpI_cases a b with ⟨h1, h⟩ | ⟨h1, h⟩ | ⟨h1, h⟩ <;> rcases cmpI_cases b a with ⟨h2, h'⟩ | ⟨h2, h'⟩ | ⟨h2, h'⟩ <;> rw [h, h'] <;> simp <;> omega
theorem cmpE_zero : ∀ (l m : List Int), l.length = m.length → (cmpE l m = 0 ↔ l = m)
  | [], [], _ => by simp [cmpE]
  | [], _ :: _, h => by simp at h
  | _ :: _, [], h => by simp at h
  | a :: l, b :: m, h => by
    rw [cmpE_cons]
    have ih := cmpE_zero l m (by simpa using h)
    rcases cmpI_cases a b with ⟨h1, e⟩ | ⟨h1, e⟩ | ⟨h1, e⟩ <;> rw [e] <;> simp
    · intro h2; omega
    · rw [ih]; simp [h1]
    · intro h2; omega
theorem cmpE_trans : ∀ (l m n : List Int), l.length = m.length → m.length = n.length → cmpE l m ≤ 0 → cmpE m n ≤ 0 → cmpE l n ≤ 0
  | [], _, _, _, _, _, _ => by simp [cmpE]
  | _ :: _, [], _, h, _, _, _ => by simp at h
  | _ :: _, _ :: _, [], _, h, _, _ => by simp at h
  | a :: l, b :: m, c :: n, h1, h2, h3, h4 => by
    rw [cmpE_cons] at h3 h4 ⊢
    have ih := cmpE_trans l m n (by simpa using h1) (by simpa using h2)
    rcases cmpI_cases a b with ⟨k1, e1⟩ | ⟨k1, e1⟩ | ⟨k1, e1⟩ <;> rcases cmpI_cases b c with ⟨k2, e2⟩ | ⟨k2, e2⟩ | ⟨k2, e2⟩ <;> rcases cmpI_cases a c with ⟨k3, e3⟩ | ⟨k3, e3⟩ | ⟨k3, e3⟩ <;>
      rw [e1] at h3 <;> rw [e2] at h4 <;> rw [e3] <;> simp at h3 h4 ⊢ <;> first | omega | exact ih h3 h4
theorem wrap_neg (l m : List Int) : IntKind.i64.wrap (0 - cmpE m l) = cmpE l m := by
  rw [cmpE_neg l m]
  have := cmpE_range l m
  simp [IntKind.wrap, IntKind.bits, IntKind.signed]
  omega
end Go.Proofs.Ytohhhodkmnpjpaa
