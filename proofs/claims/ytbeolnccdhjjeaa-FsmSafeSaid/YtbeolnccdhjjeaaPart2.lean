/- Sessions: the step, as the reference computes it. -/
import Derived.Test.YtbeolnccdhjjeaaPart1
namespace Go.Proofs.Ytbeolnccdhjjeaa
open Go.Am
set_option maxRecDepth 100000
noncomputable abbrev κr := tbl [(14, valid_yes), (31, hold_s)]
noncomputable abbrev refB : CSumm := bodyC Try.prog (openT Try.prog κr 300 5) (fun g => inl κr g && hasBody Try.prog g) true 300 Try.f17
def refW (s : Ses) (k : Int) (m : Msg) (now : Int) : CTree :=
  bif s.ok then
    bif decide (now < 0) then stepT s [] else bif decide (now > 1099511627776) then stepT s [] else stepG cond .fail s k m now stepT
  else .fail
section
variable {R : Type} (ite : Bool → R → R → R)
def msgG (s : Ses) (m : Msg) (now : Int) (κ : Ses → List Act → R) : R :=
  ite (m.kind == 3) (leaveG ite s [plain 3] 3 now κ) <|
  bif s.ph == 2 then
    ite (m.kind == 1)
      (ite (m.mas != s.asn) (failG ite s 2 2 4 now κ) <|
      ite (m.mid != s.pe) (failG ite s 2 3 4 now κ) <|
      ite (!holdB m.mh) (failG ite s 2 6 4 now κ) <|
      setHoldG ite { s with oas := m.mas, oh := m.mh, oid := m.mid, ors := m.mrs, ord := m.mrd, hold := bif decide (m.mh < s.ho) then m.mh else s.ho, ph := 3 } now (fun s => setAliveG ite s now (fun s => κ s [send { msg0 with kind := 4 }])))
      (failG ite s 5 (w64 (s.ph - 1)) 4 now κ)
  else bif s.ph == 3 then
    ite (m.kind == 4) (setHoldG ite { s with ph := 4 } now (fun s => κ s [⟨4, { msg0 with kind := 1, mas := s.oas, mh := s.oh, mid := s.oid, mrs := s.ors, mrd := s.ord }, 0⟩]))
      (failG ite s 5 (w64 (s.ph - 1)) 4 now κ)
  else
    ite (m.kind == 4) (setHoldG ite s now (fun s => κ s [])) <|
    ite (bif m.kind == 2 then true else m.kind == 5) (setHoldG ite s now (fun s => κ s [⟨6, m, 0⟩]))
      (failG ite s 5 (w64 (s.ph - 1)) 4 now κ)
end
def refV (s : Ses) (m : Msg) (now : Int) : CTree :=
  bif s.ok then
    bif decide (now < 0) then stepT s [] else bif decide (now > 1099511627776) then stepT s [] else msgG cond s m now stepT
  else .fail
theorem ref_0_1 (asn id pe ho re rs : Int) (pas rsd : Bool) (oas oh oid ors : Int) (ord : Bool) (hold ex al ret : Int) (m : Msg) (now : Int) : refB [Ses.v ⟨0, asn, id, pe, ho, re, rs, pas, rsd, oas, oh, oid, ors, ord, hold, ex, al, ret⟩, evV 1 m, .int .i64 now] [] = refW ⟨0, asn, id, pe, ho, re, rs, pas, rsd, oas, oh, oid, ors, ord, hold, ex, al, ret⟩ 1 m now := by kernel_rfl
theorem ref_0_2 (asn id pe ho re rs : Int) (pas rsd : Bool) (oas oh oid ors : Int) (ord : Bool) (hold ex al ret : Int) (m : Msg) (now : Int) : refB [Ses.v ⟨0, asn, id, pe, ho, re, rs, pas, rsd, oas, oh, oid, ors, ord, hold, ex, al, ret⟩, evV 2 m, .int .i64 now] [] = refW ⟨0, asn, id, pe, ho, re, rs, pas, rsd, oas, oh, oid, ors, ord, hold, ex, al, ret⟩ 2 m now := by kernel_rfl
theorem ref_0_3 (asn id pe ho re rs : Int) (pas rsd : Bool) (oas oh oid ors : Int) (ord : Bool) (hold ex al ret : Int) (m : Msg) (now : Int) : refB [Ses.v ⟨0, asn, id, pe, ho, re, rs, pas, rsd, oas, oh, oid, ors, ord, hold, ex, al, ret⟩, evV 3 m, .int .i64 now] [] = refW ⟨0, asn, id, pe, ho, re, rs, pas, rsd, oas, oh, oid, ors, ord, hold, ex, al, ret⟩ 3 m now := by kernel_rfl
theorem ref_0_4 (asn id pe ho re rs : Int) (pas rsd : Bool) (oas oh oid ors : Int) (ord : Bool) (hold ex al ret : Int) (m : Msg) (now : Int) : refB [Ses.v ⟨0, asn, id, pe, ho, re, rs, pas, rsd, oas, oh, oid, ors, ord, hold, ex, al, ret⟩, evV 4 m, .int .i64 now] [] = refW ⟨0, asn, id, pe, ho, re, rs, pas, rsd, oas, oh, oid, ors, ord, hold, ex, al, ret⟩ 4 m now := by kernel_rfl
theorem ref_0_5 (asn id pe ho re rs : Int) (pas rsd : Bool) (oas oh oid ors : Int) (ord : Bool) (hold ex al ret : Int) (m : Msg) (now : Int) : refB [Ses.v ⟨0, asn, id, pe, ho, re, rs, pas, rsd, oas, oh, oid, ors, ord, hold, ex, al, ret⟩, evV 5 m, .int .i64 now] [] = refW ⟨0, asn, id, pe, ho, re, rs, pas, rsd, oas, oh, oid, ors, ord, hold, ex, al, ret⟩ 5 m now := by kernel_rfl
theorem ref_0_6 (asn id pe ho re rs : Int) (pas rsd : Bool) (oas oh oid ors : Int) (ord : Bool) (hold ex al ret : Int) (m : Msg) (now : Int) : refB [Ses.v ⟨0, asn, id, pe, ho, re, rs, pas, rsd, oas, oh, oid, ors, ord, hold, ex, al, ret⟩, evV 6 m, .int .i64 now] [] = refW ⟨0, asn, id, pe, ho, re, rs, pas, rsd, oas, oh, oid, ors, ord, hold, ex, al, ret⟩ 6 m now := by kernel_rfl
theorem ref_0_7 (asn id pe ho re rs : Int) (pas rsd : Bool) (oas oh oid ors : Int) (ord : Bool) (hold ex al ret : Int) (m : Msg) (now : Int) : refB [Ses.v ⟨0, asn, id, pe, ho, re, rs, pas, rsd, oas, oh, oid, ors, ord, hold, ex, al, ret⟩, evV 7 m, .int .i64 now] [] = refW ⟨0, asn, id, pe, ho, re, rs, pas, rsd, oas, oh, oid, ors, ord, hold, ex, al, ret⟩ 7 m now := by kernel_rfl
theorem ref_0_0 (asn id pe ho re rs : Int) (pas rsd : Bool) (oas oh oid ors : Int) (ord : Bool) (hold ex al ret : Int) (m : Msg) (now : Int) : refB [Ses.v ⟨0, asn, id, pe, ho, re, rs, pas, rsd, oas, oh, oid, ors, ord, hold, ex, al, ret⟩, evV 0 m, .int .i64 now] [] = refW ⟨0, asn, id, pe, ho, re, rs, pas, rsd, oas, oh, oid, ors, ord, hold, ex, al, ret⟩ 0 m now := by kernel_rfl
theorem ref_0_big (j : Nat) (asn id pe ho re rs : Int) (pas rsd : Bool) (oas oh oid ors : Int) (ord : Bool) (hold ex al ret : Int) (m : Msg) (now : Int) : refB [Ses.v ⟨0, asn, id, pe, ho, re, rs, pas, rsd, oas, oh, oid, ors, ord, hold, ex, al, ret⟩, evV (Int.ofNat (j + 8)) m, .int .i64 now] [] = refW ⟨0, asn, id, pe, ho, re, rs, pas, rsd, oas, oh, oid, ors, ord, hold, ex, al, ret⟩ (Int.ofNat (j + 8)) m now := by kernel_rfl
theorem ref_0_neg (j : Nat) (asn id pe ho re rs : Int) (pas rsd : Bool) (oas oh oid ors : Int) (ord : Bool) (hold ex al ret : Int) (m : Msg) (now : Int) : refB [Ses.v ⟨0, asn, id, pe, ho, re, rs, pas, rsd, oas, oh, oid, ors, ord, hold, ex, al, ret⟩, evV (Int.negSucc j) m, .int .i64 now] [] = refW ⟨0, asn, id, pe, ho, re, rs, pas, rsd, oas, oh, oid, ors, ord, hold, ex, al, ret⟩ (Int.negSucc j) m now := by kernel_rfl
theorem ref_1_1 (asn id pe ho re rs : Int) (pas rsd : Bool) (oas oh oid ors : Int) (ord : Bool) (hold ex al ret : Int) (m : Msg) (now : Int) : refB [Ses.v ⟨1, asn, id, pe, ho, re, rs, pas, rsd, oas, oh, oid, ors, ord, hold, ex, al, ret⟩, evV 1 m, .int .i64 now] [] = refW ⟨1, asn, id, pe, ho, re, rs, pas, rsd, oas, oh, oid, ors, ord, hold, ex, al, ret⟩ 1 m now := by kernel_rfl
theorem ref_1_2 (asn id pe ho re rs : Int) (pas rsd : Bool) (oas oh oid ors : Int) (ord : Bool) (hold ex al ret : Int) (m : Msg) (now : Int) : refB [Ses.v ⟨1, asn, id, pe, ho, re, rs, pas, rsd, oas, oh, oid, ors, ord, hold, ex, al, ret⟩, evV 2 m, .int .i64 now] [] = refW ⟨1, asn, id, pe, ho, re, rs, pas, rsd, oas, oh, oid, ors, ord, hold, ex, al, ret⟩ 2 m now := by kernel_rfl
theorem ref_1_3 (asn id pe ho re rs : Int) (pas rsd : Bool) (oas oh oid ors : Int) (ord : Bool) (hold ex al ret : Int) (m : Msg) (now : Int) : refB [Ses.v ⟨1, asn, id, pe, ho, re, rs, pas, rsd, oas, oh, oid, ors, ord, hold, ex, al, ret⟩, evV 3 m, .int .i64 now] [] = refW ⟨1, asn, id, pe, ho, re, rs, pas, rsd, oas, oh, oid, ors, ord, hold, ex, al, ret⟩ 3 m now := by kernel_rfl
theorem ref_1_4 (asn id pe ho re rs : Int) (pas rsd : Bool) (oas oh oid ors : Int) (ord : Bool) (hold ex al ret : Int) (m : Msg) (now : Int) : refB [Ses.v ⟨1, asn, id, pe, ho, re, rs, pas, rsd, oas, oh, oid, ors, ord, hold, ex, al, ret⟩, evV 4 m, .int .i64 now] [] = refW ⟨1, asn, id, pe, ho, re, rs, pas, rsd, oas, oh, oid, ors, ord, hold, ex, al, ret⟩ 4 m now := by kernel_rfl
theorem ref_1_5 (asn id pe ho re rs : Int) (pas rsd : Bool) (oas oh oid ors : Int) (ord : Bool) (hold ex al ret : Int) (m : Msg) (now : Int) : refB [Ses.v ⟨1, asn, id, pe, ho, re, rs, pas, rsd, oas, oh, oid, ors, ord, hold, ex, al, ret⟩, evV 5 m, .int .i64 now] [] = refW ⟨1, asn, id, pe, ho, re, rs, pas, rsd, oas, oh, oid, ors, ord, hold, ex, al, ret⟩ 5 m now := by kernel_rfl
theorem ref_1_6 (asn id pe ho re rs : Int) (pas rsd : Bool) (oas oh oid ors : Int) (ord : Bool) (hold ex al ret : Int) (m : Msg) (now : Int) : refB [Ses.v ⟨1, asn, id, pe, ho, re, rs, pas, rsd, oas, oh, oid, ors, ord, hold, ex, al, ret⟩, evV 6 m, .int .i64 now] [] = refW ⟨1, asn, id, pe, ho, re, rs, pas, rsd, oas, oh, oid, ors, ord, hold, ex, al, ret⟩ 6 m now := by kernel_rfl
theorem ref_1_7 (asn id pe ho re rs : Int) (pas rsd : Bool) (oas oh oid ors : Int) (ord : Bool) (hold ex al ret : Int) (m : Msg) (now : Int) : refB [Ses.v ⟨1, asn, id, pe, ho, re, rs, pas, rsd, oas, oh, oid, ors, ord, hold, ex, al, ret⟩, evV 7 m, .int .i64 now] [] = refW ⟨1, asn, id, pe, ho, re, rs, pas, rsd, oas, oh, oid, ors, ord, hold, ex, al, ret⟩ 7 m now := by kernel_rfl
theorem ref_1_0 (asn id pe ho re rs : Int) (pas rsd : Bool) (oas oh oid ors : Int) (ord : Bool) (hold ex al ret : Int) (m : Msg) (now : Int) : refB [Ses.v ⟨1, asn, id, pe, ho, re, rs, pas, rsd, oas, oh, oid, ors, ord, hold, ex, al, ret⟩, evV 0 m, .int .i64 now] [] = refW ⟨1, asn, id, pe, ho, re, rs, pas, rsd, oas, oh, oid, ors, ord, hold, ex, al, ret⟩ 0 m now := by kernel_rfl
theorem ref_1_big (j : Nat) (asn id pe ho re rs : Int) (pas rsd : Bool) (oas oh oid ors : Int) (ord : Bool) (hold ex al ret : Int) (m : Msg) (now : Int) : refB [Ses.v ⟨1, asn, id, pe, ho, re, rs, pas, rsd, oas, oh, oid, ors, ord, hold, ex, al, ret⟩, evV (Int.ofNat (j + 8)) m, .int .i64 now] [] = refW ⟨1, asn, id, pe, ho, re, rs, pas, rsd, oas, oh, oid, ors, ord, hold, ex, al, ret⟩ (Int.ofNat (j + 8)) m now := by kernel_rfl
theorem ref_1_neg (j : Nat) (asn id pe ho re rs : Int) (pas rsd : Bool) (oas oh oid ors : Int) (ord : Bool) (hold ex al ret : Int) (m : Msg) (now : Int) : refB [Ses.v ⟨1, asn, id, pe, ho, re, rs, pas, rsd, oas, oh, oid, ors, ord, hold, ex, al, ret⟩, evV (Int.negSucc j) m, .int .i64 now] [] = refW ⟨1, asn, id, pe, ho, re, rs, pas, rsd, oas, oh, oid, ors, ord, hold, ex, al, ret⟩ (Int.negSucc j) m now := by kernel_rfl
theorem ref_2_1 (asn id pe ho re rs : Int) (pas rsd : Bool) (oas oh oid ors : Int) (ord : Bool) (hold ex al ret : Int) (m : Msg) (now : Int) : refB [Ses.v ⟨2, asn, id, pe, ho, re, rs, pas, rsd, oas, oh, oid, ors, ord, hold, ex, al, ret⟩, evV 1 m, .int .i64 now] [] = refW ⟨2, asn, id, pe, ho, re, rs, pas, rsd, oas, oh, oid, ors, ord, hold, ex, al, ret⟩ 1 m now := by kernel_rfl
theorem ref_2_2 (asn id pe ho re rs : Int) (pas rsd : Bool) (oas oh oid ors : Int) (ord : Bool) (hold ex al ret : Int) (m : Msg) (now : Int) : refB [Ses.v ⟨2, asn, id, pe, ho, re, rs, pas, rsd, oas, oh, oid, ors, ord, hold, ex, al, ret⟩, evV 2 m, .int .i64 now] [] = refW ⟨2, asn, id, pe, ho, re, rs, pas, rsd, oas, oh, oid, ors, ord, hold, ex, al, ret⟩ 2 m now := by kernel_rfl
theorem ref_2_3 (asn id pe ho re rs : Int) (pas rsd : Bool) (oas oh oid ors : Int) (ord : Bool) (hold ex al ret : Int) (m : Msg) (now : Int) : refB [Ses.v ⟨2, asn, id, pe, ho, re, rs, pas, rsd, oas, oh, oid, ors, ord, hold, ex, al, ret⟩, evV 3 m, .int .i64 now] [] = refW ⟨2, asn, id, pe, ho, re, rs, pas, rsd, oas, oh, oid, ors, ord, hold, ex, al, ret⟩ 3 m now := by kernel_rfl
theorem ref_2_4 (asn id pe ho re rs : Int) (pas rsd : Bool) (oas oh oid ors : Int) (ord : Bool) (hold ex al ret : Int) (m : Msg) (now : Int) : refB [Ses.v ⟨2, asn, id, pe, ho, re, rs, pas, rsd, oas, oh, oid, ors, ord, hold, ex, al, ret⟩, evV 4 m, .int .i64 now] [] = refW ⟨2, asn, id, pe, ho, re, rs, pas, rsd, oas, oh, oid, ors, ord, hold, ex, al, ret⟩ 4 m now := by kernel_rfl
theorem ref_2_5 (asn id pe ho re rs : Int) (pas rsd : Bool) (oas oh oid ors : Int) (ord : Bool) (hold ex al ret : Int) (m : Msg) (now : Int) : refB [Ses.v ⟨2, asn, id, pe, ho, re, rs, pas, rsd, oas, oh, oid, ors, ord, hold, ex, al, ret⟩, evV 5 m, .int .i64 now] [] = refV ⟨2, asn, id, pe, ho, re, rs, pas, rsd, oas, oh, oid, ors, ord, hold, ex, al, ret⟩ m now := by kernel_rfl
theorem ref_2_6 (asn id pe ho re rs : Int) (pas rsd : Bool) (oas oh oid ors : Int) (ord : Bool) (hold ex al ret : Int) (m : Msg) (now : Int) : refB [Ses.v ⟨2, asn, id, pe, ho, re, rs, pas, rsd, oas, oh, oid, ors, ord, hold, ex, al, ret⟩, evV 6 m, .int .i64 now] [] = refW ⟨2, asn, id, pe, ho, re, rs, pas, rsd, oas, oh, oid, ors, ord, hold, ex, al, ret⟩ 6 m now := by kernel_rfl
theorem ref_2_7 (asn id pe ho re rs : Int) (pas rsd : Bool) (oas oh oid ors : Int) (ord : Bool) (hold ex al ret : Int) (m : Msg) (now : Int) : refB [Ses.v ⟨2, asn, id, pe, ho, re, rs, pas, rsd, oas, oh, oid, ors, ord, hold, ex, al, ret⟩, evV 7 m, .int .i64 now] [] = refW ⟨2, asn, id, pe, ho, re, rs, pas, rsd, oas, oh, oid, ors, ord, hold, ex, al, ret⟩ 7 m now := by kernel_rfl
theorem ref_2_0 (asn id pe ho re rs : Int) (pas rsd : Bool) (oas oh oid ors : Int) (ord : Bool) (hold ex al ret : Int) (m : Msg) (now : Int) : refB [Ses.v ⟨2, asn, id, pe, ho, re, rs, pas, rsd, oas, oh, oid, ors, ord, hold, ex, al, ret⟩, evV 0 m, .int .i64 now] [] = refW ⟨2, asn, id, pe, ho, re, rs, pas, rsd, oas, oh, oid, ors, ord, hold, ex, al, ret⟩ 0 m now := by kernel_rfl
theorem ref_2_big (j : Nat) (asn id pe ho re rs : Int) (pas rsd : Bool) (oas oh oid ors : Int) (ord : Bool) (hold ex al ret : Int) (m : Msg) (now : Int) : refB [Ses.v ⟨2, asn, id, pe, ho, re, rs, pas, rsd, oas, oh, oid, ors, ord, hold, ex, al, ret⟩, evV (Int.ofNat (j + 8)) m, .int .i64 now] [] = refW ⟨2, asn, id, pe, ho, re, rs, pas, rsd, oas, oh, oid, ors, ord, hold, ex, al, ret⟩ (Int.ofNat (j + 8)) m now := by kernel_rfl
theorem ref_2_neg (j : Nat) (asn id pe ho re rs : Int) (pas rsd : Bool) (oas oh oid ors : Int) (ord : Bool) (hold ex al ret : Int) (m : Msg) (now : Int) : refB [Ses.v ⟨2, asn, id, pe, ho, re, rs, pas, rsd, oas, oh, oid, ors, ord, hold, ex, al, ret⟩, evV (Int.negSucc j) m, .int .i64 now] [] = refW ⟨2, asn, id, pe, ho, re, rs, pas, rsd, oas, oh, oid, ors, ord, hold, ex, al, ret⟩ (Int.negSucc j) m now := by kernel_rfl
theorem ref_3_1 (asn id pe ho re rs : Int) (pas rsd : Bool) (oas oh oid ors : Int) (ord : Bool) (hold ex al ret : Int) (m : Msg) (now : Int) : refB [Ses.v ⟨3, asn, id, pe, ho, re, rs, pas, rsd, oas, oh, oid, ors, ord, hold, ex, al, ret⟩, evV 1 m, .int .i64 now] [] = refW ⟨3, asn, id, pe, ho, re, rs, pas, rsd, oas, oh, oid, ors, ord, hold, ex, al, ret⟩ 1 m now := by kernel_rfl
theorem ref_3_2 (asn id pe ho re rs : Int) (pas rsd : Bool) (oas oh oid ors : Int) (ord : Bool) (hold ex al ret : Int) (m : Msg) (now : Int) : refB [Ses.v ⟨3, asn, id, pe, ho, re, rs, pas, rsd, oas, oh, oid, ors, ord, hold, ex, al, ret⟩, evV 2 m, .int .i64 now] [] = refW ⟨3, asn, id, pe, ho, re, rs, pas, rsd, oas, oh, oid, ors, ord, hold, ex, al, ret⟩ 2 m now := by kernel_rfl
theorem ref_3_3 (asn id pe ho re rs : Int) (pas rsd : Bool) (oas oh oid ors : Int) (ord : Bool) (hold ex al ret : Int) (m : Msg) (now : Int) : refB [Ses.v ⟨3, asn, id, pe, ho, re, rs, pas, rsd, oas, oh, oid, ors, ord, hold, ex, al, ret⟩, evV 3 m, .int .i64 now] [] = refW ⟨3, asn, id, pe, ho, re, rs, pas, rsd, oas, oh, oid, ors, ord, hold, ex, al, ret⟩ 3 m now := by kernel_rfl
theorem ref_3_4 (asn id pe ho re rs : Int) (pas rsd : Bool) (oas oh oid ors : Int) (ord : Bool) (hold ex al ret : Int) (m : Msg) (now : Int) : refB [Ses.v ⟨3, asn, id, pe, ho, re, rs, pas, rsd, oas, oh, oid, ors, ord, hold, ex, al, ret⟩, evV 4 m, .int .i64 now] [] = refW ⟨3, asn, id, pe, ho, re, rs, pas, rsd, oas, oh, oid, ors, ord, hold, ex, al, ret⟩ 4 m now := by kernel_rfl
theorem ref_3_5 (asn id pe ho re rs : Int) (pas rsd : Bool) (oas oh oid ors : Int) (ord : Bool) (hold ex al ret : Int) (m : Msg) (now : Int) : refB [Ses.v ⟨3, asn, id, pe, ho, re, rs, pas, rsd, oas, oh, oid, ors, ord, hold, ex, al, ret⟩, evV 5 m, .int .i64 now] [] = refV ⟨3, asn, id, pe, ho, re, rs, pas, rsd, oas, oh, oid, ors, ord, hold, ex, al, ret⟩ m now := by kernel_rfl
theorem ref_3_6 (asn id pe ho re rs : Int) (pas rsd : Bool) (oas oh oid ors : Int) (ord : Bool) (hold ex al ret : Int) (m : Msg) (now : Int) : refB [Ses.v ⟨3, asn, id, pe, ho, re, rs, pas, rsd, oas, oh, oid, ors, ord, hold, ex, al, ret⟩, evV 6 m, .int .i64 now] [] = refW ⟨3, asn, id, pe, ho, re, rs, pas, rsd, oas, oh, oid, ors, ord, hold, ex, al, ret⟩ 6 m now := by kernel_rfl
theorem ref_3_7 (asn id pe ho re rs : Int) (pas rsd : Bool) (oas oh oid ors : Int) (ord : Bool) (hold ex al ret : Int) (m : Msg) (now : Int) : refB [Ses.v ⟨3, asn, id, pe, ho, re, rs, pas, rsd, oas, oh, oid, ors, ord, hold, ex, al, ret⟩, evV 7 m, .int .i64 now] [] = refW ⟨3, asn, id, pe, ho, re, rs, pas, rsd, oas, oh, oid, ors, ord, hold, ex, al, ret⟩ 7 m now := by kernel_rfl
theorem ref_3_0 (asn id pe ho re rs : Int) (pas rsd : Bool) (oas oh oid ors : Int) (ord : Bool) (hold ex al ret : Int) (m : Msg) (now : Int) : refB [Ses.v ⟨3, asn, id, pe, ho, re, rs, pas, rsd, oas, oh, oid, ors, ord, hold, ex, al, ret⟩, evV 0 m, .int .i64 now] [] = refW ⟨3, asn, id, pe, ho, re, rs, pas, rsd, oas, oh, oid, ors, ord, hold, ex, al, ret⟩ 0 m now := by kernel_rfl
theorem ref_3_big (j : Nat) (asn id pe ho re rs : Int) (pas rsd : Bool) (oas oh oid ors : Int) (ord : Bool) (hold ex al ret : Int) (m : Msg) (now : Int) : refB [Ses.v ⟨3, asn, id, pe, ho, re, rs, pas, rsd, oas, oh, oid, ors, ord, hold, ex, al, ret⟩, evV (Int.ofNat (j + 8)) m, .int .i64 now] [] = refW ⟨3, asn, id, pe, ho, re, rs, pas, rsd, oas, oh, oid, ors, ord, hold, ex, al, ret⟩ (Int.ofNat (j + 8)) m now := by kernel_rfl
theorem ref_3_neg (j : Nat) (asn id pe ho re rs : Int) (pas rsd : Bool) (oas oh oid ors : Int) (ord : Bool) (hold ex al ret : Int) (m : Msg) (now : Int) : refB [Ses.v ⟨3, asn, id, pe, ho, re, rs, pas, rsd, oas, oh, oid, ors, ord, hold, ex, al, ret⟩, evV (Int.negSucc j) m, .int .i64 now] [] = refW ⟨3, asn, id, pe, ho, re, rs, pas, rsd, oas, oh, oid, ors, ord, hold, ex, al, ret⟩ (Int.negSucc j) m now := by kernel_rfl
theorem ref_4_1 (asn id pe ho re rs : Int) (pas rsd : Bool) (oas oh oid ors : Int) (ord : Bool) (hold ex al ret : Int) (m : Msg) (now : Int) : refB [Ses.v ⟨4, asn, id, pe, ho, re, rs, pas, rsd, oas, oh, oid, ors, ord, hold, ex, al, ret⟩, evV 1 m, .int .i64 now] [] = refW ⟨4, asn, id, pe, ho, re, rs, pas, rsd, oas, oh, oid, ors, ord, hold, ex, al, ret⟩ 1 m now := by kernel_rfl
theorem ref_4_2 (asn id pe ho re rs : Int) (pas rsd : Bool) (oas oh oid ors : Int) (ord : Bool) (hold ex al ret : Int) (m : Msg) (now : Int) : refB [Ses.v ⟨4, asn, id, pe, ho, re, rs, pas, rsd, oas, oh, oid, ors, ord, hold, ex, al, ret⟩, evV 2 m, .int .i64 now] [] = refW ⟨4, asn, id, pe, ho, re, rs, pas, rsd, oas, oh, oid, ors, ord, hold, ex, al, ret⟩ 2 m now := by kernel_rfl
theorem ref_4_3 (asn id pe ho re rs : Int) (pas rsd : Bool) (oas oh oid ors : Int) (ord : Bool) (hold ex al ret : Int) (m : Msg) (now : Int) : refB [Ses.v ⟨4, asn, id, pe, ho, re, rs, pas, rsd, oas, oh, oid, ors, ord, hold, ex, al, ret⟩, evV 3 m, .int .i64 now] [] = refW ⟨4, asn, id, pe, ho, re, rs, pas, rsd, oas, oh, oid, ors, ord, hold, ex, al, ret⟩ 3 m now := by kernel_rfl
theorem ref_4_4 (asn id pe ho re rs : Int) (pas rsd : Bool) (oas oh oid ors : Int) (ord : Bool) (hold ex al ret : Int) (m : Msg) (now : Int) : refB [Ses.v ⟨4, asn, id, pe, ho, re, rs, pas, rsd, oas, oh, oid, ors, ord, hold, ex, al, ret⟩, evV 4 m, .int .i64 now] [] = refW ⟨4, asn, id, pe, ho, re, rs, pas, rsd, oas, oh, oid, ors, ord, hold, ex, al, ret⟩ 4 m now := by kernel_rfl
theorem ref_4_5 (asn id pe ho re rs : Int) (pas rsd : Bool) (oas oh oid ors : Int) (ord : Bool) (hold ex al ret : Int) (m : Msg) (now : Int) : refB [Ses.v ⟨4, asn, id, pe, ho, re, rs, pas, rsd, oas, oh, oid, ors, ord, hold, ex, al, ret⟩, evV 5 m, .int .i64 now] [] = refV ⟨4, asn, id, pe, ho, re, rs, pas, rsd, oas, oh, oid, ors, ord, hold, ex, al, ret⟩ m now := by kernel_rfl
theorem ref_4_6 (asn id pe ho re rs : Int) (pas rsd : Bool) (oas oh oid ors : Int) (ord : Bool) (hold ex al ret : Int) (m : Msg) (now : Int) : refB [Ses.v ⟨4, asn, id, pe, ho, re, rs, pas, rsd, oas, oh, oid, ors, ord, hold, ex, al, ret⟩, evV 6 m, .int .i64 now] [] = refW ⟨4, asn, id, pe, ho, re, rs, pas, rsd, oas, oh, oid, ors, ord, hold, ex, al, ret⟩ 6 m now := by kernel_rfl
theorem ref_4_7 (asn id pe ho re rs : Int) (pas rsd : Bool) (oas oh oid ors : Int) (ord : Bool) (hold ex al ret : Int) (m : Msg) (now : Int) : refB [Ses.v ⟨4, asn, id, pe, ho, re, rs, pas, rsd, oas, oh, oid, ors, ord, hold, ex, al, ret⟩, evV 7 m, .int .i64 now] [] = refW ⟨4, asn, id, pe, ho, re, rs, pas, rsd, oas, oh, oid, ors, ord, hold, ex, al, ret⟩ 7 m now := by kernel_rfl
theorem ref_4_0 (asn id pe ho re rs : Int) (pas rsd : Bool) (oas oh oid ors : Int) (ord : Bool) (hold ex al ret : Int) (m : Msg) (now : Int) : refB [Ses.v ⟨4, asn, id, pe, ho, re, rs, pas, rsd, oas, oh, oid, ors, ord, hold, ex, al, ret⟩, evV 0 m, .int .i64 now] [] = refW ⟨4, asn, id, pe, ho, re, rs, pas, rsd, oas, oh, oid, ors, ord, hold, ex, al, ret⟩ 0 m now := by kernel_rfl
theorem ref_4_big (j : Nat) (asn id pe ho re rs : Int) (pas rsd : Bool) (oas oh oid ors : Int) (ord : Bool) (hold ex al ret : Int) (m : Msg) (now : Int) : refB [Ses.v ⟨4, asn, id, pe, ho, re, rs, pas, rsd, oas, oh, oid, ors, ord, hold, ex, al, ret⟩, evV (Int.ofNat (j + 8)) m, .int .i64 now] [] = refW ⟨4, asn, id, pe, ho, re, rs, pas, rsd, oas, oh, oid, ors, ord, hold, ex, al, ret⟩ (Int.ofNat (j + 8)) m now := by kernel_rfl
theorem ref_4_neg (j : Nat) (asn id pe ho re rs : Int) (pas rsd : Bool) (oas oh oid ors : Int) (ord : Bool) (hold ex al ret : Int) (m : Msg) (now : Int) : refB [Ses.v ⟨4, asn, id, pe, ho, re, rs, pas, rsd, oas, oh, oid, ors, ord, hold, ex, al, ret⟩, evV (Int.negSucc j) m, .int .i64 now] [] = refW ⟨4, asn, id, pe, ho, re, rs, pas, rsd, oas, oh, oid, ors, ord, hold, ex, al, ret⟩ (Int.negSucc j) m now := by kernel_rfl
end Go.Proofs.Ytbeolnccdhjjeaa
/- Sessions: what is known of the reference's step. -/
namespace Go.Proofs.Ytbeolnccdhjjeaa
open Go.Am
set_option maxRecDepth 100000
theorem rhold_k : Known Try.prog 31 hold_s := known_of_bodyS noNumTry mixTry ok0 Try.func31 rfl (by
  intro args H v ups h
  unfold hold_s at h
  split at h
  · rename_i n
    have e : bodyS Try.prog (tbl []) Try.f31 [.int .i64 n] [] = .ret (.bool (holdB n)) [] := by kernel_rfl
    rw [e, ← h]
  · cases h)
theorem rtimer_k : Known Try.prog 32 timer_s := known_of_bodyS noNumTry mixTry ok0 Try.func32 rfl (by
  intro args H v ups h
  unfold timer_s at h
  split at h
  · rename_i n
    have e : bodyS Try.prog (tbl []) Try.f32 [.int .i64 n] [] = .ret (.bool (timerB n)) [] := by kernel_rfl
    rw [e, ← h]
  · cases h)
abbrev κrv := tbl [(31, hold_s), (32, timer_s)]
theorem okrv : KOk Try.prog κrv := tbl_cons rhold_k (tbl_cons rtimer_k ok0)
noncomputable abbrev rvalidO : CSumm := bodyC Try.prog (openT Try.prog κrv 300 5) (fun g => inl κrv g && hasBody Try.prog g) true 300 Try.f14
theorem rvalid_t (ph asn id pe ho re rs : Int) (pas rsd : Bool) (oas oh oid ors : Int) (ord : Bool) (hold ex al ret : Int) : rvalidO [Ses.v ⟨ph, asn, id, pe, ho, re, rs, pas, rsd, oas, oh, oid, ors, ord, hold, ex, al, ret⟩] [] =
    .ret (.bool (and2 (and2 (and2 (and2 (and2 (and2 (and2 (and2 (and2 (and2 (and2 (and2 (and2 (id != 0) (pe != 0)) (id != pe)) (holdB ho)) (decide (re ≥ 1))) (decide (re ≤ 65535))) (decide (rs ≥ 0))) (decide (rs ≤ 4095))) (decide (ph ≥ 0))) (decide (ph ≤ 4))) (holdB hold)) (timerB ex)) (timerB al)) (timerB ret))) [] := by kernel_rfl
theorem rvalid_k : Known Try.prog 14 valid_s := (openKnown okrv Try.func14 rfl).weak (by
  intro args H v ups h
  unfold valid_s at h
  split at h
  · rw [show bodyC Try.prog (openT Try.prog κrv 300 5) (fun g => inl κrv g && hasBody Try.prog g) true 300 Try.f14 = rvalidO from rfl, rvalid_t, ← h]
    simp only [and2_eq, Ses.ok, soundB]
  · cases h)
theorem rvalid_yes_k : Known Try.prog 14 valid_yes := rvalid_k.weak (by
  intro args H v ups h
  unfold valid_yes at h
  split at h
  · unfold valid_s
    simp only [crun] at h ⊢
    split at h
    · rename_i hh; rw [hh]; exact h
    · cases h
  · cases h)
theorem rvalid_no_k : Known Try.prog 14 valid_no := rvalid_k.weak (by
  intro args H v ups h
  unfold valid_no at h
  split at h
  · unfold valid_s
    simp only [crun] at h ⊢
    split at h
    · cases h
    · rename_i hh; rw [Bool.not_eq_true] at hh; rw [hh]; exact h
  · cases h)
theorem okr : KOk Try.prog κr := tbl_cons rvalid_yes_k (tbl_cons rhold_k ok0)
abbrev κr1 := tbl [(14, valid_no)]
theorem okr1 : KOk Try.prog κr1 := tbl_cons rvalid_no_k ok0
noncomputable abbrev refB1 : CSumm := bodyC Try.prog (openT Try.prog κr1 300 5) (fun g => inl κr1 g && hasBody Try.prog g) true 300 Try.f17
theorem ref_no1 (s : Ses) (k : Int) (m : Msg) (now : Int) : refB1 [s.v, evV k m, .int .i64 now] [] = bif s.ok then .fail else stepT s [] := by kernel_rfl
theorem refB_k : Known Try.prog 17 refB := openKnown okr Try.func17 rfl
theorem refB1_k : Known Try.prog 17 refB1 := openKnown okr1 Try.func17 rfl

theorem msgG_eq (s : Ses) (m : Msg) (now : Int) (hp : s.ph = 2 ∨ s.ph = 3 ∨ s.ph = 4) (hl : lightB m = true) : msgG cond s m now stepT = stepG cond .fail s 5 m now stepT := by
  simp only [lightB, Bool.and_eq_true] at hl
  unfold msgG stepG laterG
  simp only [hl, bne]
  rcases hp with h | h | h <;> rw [h] <;> cases h3 : (m.kind == 3) <;> cases h1 : (m.kind == 1) <;> cases h2 : (m.kind == 2) <;> cases h4 : (m.kind == 4) <;> cases h5 : (m.kind == 5) <;> first | rfl | (simp only [beq_iff_eq] at h1 h2 h3 h4 h5; omega)
theorem refWk (s : Ses) (k : Int) (m : Msg) (now : Int) (hs : s.ok = true) (hl : lightB m = true) : refB [s.v, evV k m, .int .i64 now] [] = refW s k m now := by
  obtain ⟨ph, asn, id, pe, ho, re, rs, pas, rsd, oas, oh, oid, ors, ord, hold, ex, al, ret⟩ := s
  have hp : ph = 0 ∨ ph = 1 ∨ ph = 2 ∨ ph = 3 ∨ ph = 4 := by
    simp only [Ses.ok, Bool.and_eq_true, decide_eq_true_eq] at hs
    omega
  have hk : k = 1 ∨ k = 2 ∨ k = 3 ∨ k = 4 ∨ k = 5 ∨ k = 6 ∨ k = 7 ∨ k = 0 ∨ (∃ j : Nat, k = Int.ofNat (j + 8)) ∨ ∃ j : Nat, k = Int.negSucc j := by
    cases k with
    | ofNat j =>
      match j with
      | 0 | 1 | 2 | 3 | 4 | 5 | 6 | 7 => simp
      | j + 8 => exact .inr (.inr (.inr (.inr (.inr (.inr (.inr (.inr (.inl ⟨j, rfl⟩))))))))
    | negSucc j => exact .inr (.inr (.inr (.inr (.inr (.inr (.inr (.inr (.inr ⟨j, rfl⟩))))))))
  rcases hp with rfl | rfl | rfl | rfl | rfl
  · rcases hk with rfl | rfl | rfl | rfl | rfl | rfl | rfl | rfl | ⟨j, rfl⟩ | ⟨j, rfl⟩
    · exact ref_0_1 ..
    · exact ref_0_2 ..
    · exact ref_0_3 ..
    · exact ref_0_4 ..
    · exact ref_0_5 ..
    · exact ref_0_6 ..
    · exact ref_0_7 ..
    · exact ref_0_0 ..
    · exact ref_0_big ..
    · exact ref_0_neg ..
  · rcases hk with rfl | rfl | rfl | rfl | rfl | rfl | rfl | rfl | ⟨j, rfl⟩ | ⟨j, rfl⟩
    · exact ref_1_1 ..
    · exact ref_1_2 ..
    · exact ref_1_3 ..
    · exact ref_1_4 ..
    · exact ref_1_5 ..
    · exact ref_1_6 ..
    · exact ref_1_7 ..
    · exact ref_1_0 ..
    · exact ref_1_big ..
    · exact ref_1_neg ..
  · rcases hk with rfl | rfl | rfl | rfl | rfl | rfl | rfl | rfl | ⟨j, rfl⟩ | ⟨j, rfl⟩
    · exact ref_2_1 ..
    · exact ref_2_2 ..
    · exact ref_2_3 ..
    · exact ref_2_4 ..
    · rw [ref_2_5]; unfold refV refW; rw [msgG_eq _ _ _ (.inl rfl) hl]
    · exact ref_2_6 ..
    · exact ref_2_7 ..
    · exact ref_2_0 ..
    · exact ref_2_big ..
    · exact ref_2_neg ..
  · rcases hk with rfl | rfl | rfl | rfl | rfl | rfl | rfl | rfl | ⟨j, rfl⟩ | ⟨j, rfl⟩
    · exact ref_3_1 ..
    · exact ref_3_2 ..
    · exact ref_3_3 ..
    · exact ref_3_4 ..
    · rw [ref_3_5]; unfold refV refW; rw [msgG_eq _ _ _ (.inr (.inl rfl)) hl]
    · exact ref_3_6 ..
    · exact ref_3_7 ..
    · exact ref_3_0 ..
    · exact ref_3_big ..
    · exact ref_3_neg ..
  · rcases hk with rfl | rfl | rfl | rfl | rfl | rfl | rfl | rfl | ⟨j, rfl⟩ | ⟨j, rfl⟩
    · exact ref_4_1 ..
    · exact ref_4_2 ..
    · exact ref_4_3 ..
    · exact ref_4_4 ..
    · rw [ref_4_5]; unfold refV refW; rw [msgG_eq _ _ _ (.inr (.inr rfl)) hl]
    · exact ref_4_6 ..
    · exact ref_4_7 ..
    · exact ref_4_0 ..
    · exact ref_4_big ..
    · exact ref_4_neg ..
/-- An event that is not known changes nothing. -/
theorem stepG_unknown (s : Ses) (k : Int) (m : Msg) (now : Int) (hk : knownB k = false) : stepG cond .fail s k m now stepT = stepT s [] := by
  simp only [knownB, Bool.or_eq_false_iff] at hk
  obtain ⟨⟨⟨⟨⟨⟨h1, h2⟩, h3⟩, h4⟩, h5⟩, h6⟩, h7⟩ := hk
  unfold stepG laterG
  simp only [h1, h2, h3, h4, h5, h6, h7, cond_false]
  cases s.ph == 0 <;> cases s.ph == 1 <;> cases s.ph == 2 <;> cases s.ph == 3 <;> rfl
theorem refW_eq (s : Ses) (k : Int) (m : Msg) (now : Int) (hs : s.ok = true) (hl : lightB m = true) : crun (refW s k m now) = crun (resT (stepP s k m now)) := by
  unfold refW
  rw [hs, cond_true]
  cases h1 : decide (now < 0) with
  | true =>
    have : goesB s k now = false := by
      simp only [decide_eq_true_eq] at h1
      unfold goesB
      rw [show decide (0 ≤ now) = false by simp; omega]
      simp
    rw [stepP_no this, crun_stepT]
    rfl
  | false =>
    cases h2 : decide (now > 1099511627776) with
    | true =>
      have : goesB s k now = false := by
        simp only [decide_eq_true_eq] at h2
        unfold goesB
        rw [show decide (now ≤ 1099511627776) = false by simp; omega]
        simp
      rw [stepP_no this, crun_stepT]
      rfl
    | false =>
      simp only [cond_false]
      simp only [decide_eq_false_iff_not] at h1 h2
      cases hk : knownB k with
      | false =>
        have : goesB s k now = false := by unfold goesB; rw [hk, Bool.and_false]
        rw [stepP_no this, crun_stepT, stepG_unknown _ _ _ _ hk]
      | true =>
        have hg : goesB s k now = true := by
          unfold goesB
          rw [hs, hk, show decide (0 ≤ now) = true by simp; omega, show decide (now ≤ 1099511627776) = true by simp; omega]
          rfl
        rw [← stepW_eq s k m now hl hg]
        unfold stepW
        rw [hs, hk, show decide (now < 0) = false by simp; omega, show decide (now > 1099511627776) = false by simp; omega]
        rfl
theorem ref_k : Known Try.prog 17 step_s := known_or refB1_k refB_k refB_k (by
  intro args H v ups h
  unfold step_s at h
  split at h
  · rename_i ph asn id pe ho re rs pas rsd oas oh oid ors ord hold ex al ret k kind mas mh mid mrs mrd code sub ori path nx hm med hp prf hor orr cl cm tk tl tr tg reach un now
    simp only [crun] at h
    split at h
    · rename_i hl
      cases hok : Ses.ok ⟨ph, asn, id, pe, ho, re, rs, pas, rsd, oas, oh, oid, ors, ord, hold, ex, al, ret⟩ with
      | true =>
        right; left
        rw [← refW_eq _ _ _ _ hok hl] at h
        rw [← h]
        exact congrArg crun (refWk ⟨ph, asn, id, pe, ho, re, rs, pas, rsd, oas, oh, oid, ors, ord, hold, ex, al, ret⟩ k ⟨kind, mas, mh, mid, mrs, mrd, code, sub, ori, path, nx, hm, med, hp, prf, hor, orr, cl, cm, tk, tl, tr, tg, reach, un⟩ now hok hl)
      | false =>
        left
        have hg : goesB ⟨ph, asn, id, pe, ho, re, rs, pas, rsd, oas, oh, oid, ors, ord, hold, ex, al, ret⟩ k now = false := by unfold goesB; rw [hok]; rfl
        rw [stepP_no hg, crun_stepT] at h
        have e1 := ref_no1 ⟨ph, asn, id, pe, ho, re, rs, pas, rsd, oas, oh, oid, ors, ord, hold, ex, al, ret⟩ k ⟨kind, mas, mh, mid, mrs, mrd, code, sub, ori, path, nx, hm, med, hp, prf, hor, orr, cl, cm, tk, tl, tr, tg, reach, un⟩ now
        rw [hok] at e1
        rw [← h]
        exact congrArg crun e1
    · cases h
  · cases h)
theorem refS_k : Known Try.prog 17 (stepC step_s) := ref_k.co _
end Go.Proofs.Ytbeolnccdhjjeaa
/- Sessions that are established: a tick, a KEEPALIVE. -/
namespace Go.Proofs.Ytbeolnccdhjjeaa
open Go.Am
set_option maxRecDepth 100000
theorem w64_id {n : Int} (h1 : -9223372036854775808 ≤ n) (h2 : n ≤ 9223372036854775807) : w64 n = n := by
  simp [IntKind.wrap, IntKind.bits, IntKind.signed]; omega
theorem holdB_iff (n : Int) : holdB n = true ↔ n = 0 ∨ (3 ≤ n ∧ n ≤ 65535) := by
  unfold holdB
  cases h : (n == 0) with
  | true => simp at h; simp [h]
  | false => simp at h; simp only [cond_false]; cases h2 : decide (n ≥ 3) <;> simp at h2 ⊢ <;> omega
theorem timerB_iff (n : Int) : timerB n = true ↔ n = -1 ∨ (0 ≤ n ∧ n ≤ 2199023255552) := by
  unfold timerB
  cases h : (n == -1) with
  | true => simp at h; simp [h]
  | false => simp at h; simp only [cond_false]; cases h2 : decide (n ≥ 0) <;> simp at h2 ⊢ <;> omega
theorem dueB_iff (t n : Int) : dueB t n = true ↔ t ≠ -1 ∧ t ≤ n := by
  unfold dueB
  cases h : (t != -1) <;> simp_all
theorem goes_cfg {ph h hold ex al ret oas oh oid k now : Int} : goesB (cfgS ph h hold ex al ret oas oh oid) k now = true ↔ holdB h = true ∧ 0 ≤ ph ∧ ph ≤ 4 ∧ holdB hold = true ∧ timerB ex = true ∧ timerB al = true ∧ timerB ret = true ∧ 0 ≤ now ∧ now ≤ 1099511627776 ∧ knownB k = true := by
  simp only [goesB, Ses.ok, soundB, Bool.and_eq_true, decide_eq_true_eq]
  constructor
  · rintro ⟨⟨⟨⟨⟨⟨⟨⟨⟨⟨⟨⟨⟨⟨⟨⟨_, _⟩, _⟩, h1⟩, _⟩, _⟩, _⟩, _⟩, h2⟩, h3⟩, h4⟩, h5⟩, h6⟩, h7⟩, h8⟩, h9⟩, h10⟩
    exact ⟨h1, h2, h3, h4, h5, h6, h7, h8, h9, h10⟩
  · rintro ⟨h1, h2, h3, h4, h5, h6, h7, h8, h9, h10⟩
    exact ⟨⟨⟨⟨⟨⟨⟨⟨⟨⟨⟨⟨⟨⟨⟨⟨by decide, by decide⟩, by decide⟩, h1⟩, by decide⟩, by decide⟩, by decide⟩, by decide⟩, h2⟩, h3⟩, h4⟩, h5⟩, h6⟩, h7⟩, h8⟩, h9⟩, h10⟩
/-- An established session. -/
abbrev est (h ex al : Int) : Ses := cfgS 4 h h ex al (-1) 65000 h 2
def exAt (h t : Int) : Int := bif h == 0 then -1 else t + h
def alAt (h t : Int) : Int := bif h == 0 then -1 else t + h.tdiv 3
def est_s : CSumm
  | [.int .i64 h], [] => .ite (holdB h) (.ret (Ses.v (est h (exAt h 8) (alAt h 7))) []) .fail
  | _, _ => .fail
theorem est_k : Known Try.prog 23 est_s := (openKnown oki Try.func23 rfl).weak (by
  intro args H v ups hr
  unfold est_s at hr
  split at hr
  · rename_i h
    rw [crun_ite] at hr
    cases hh : holdB h with
    | false => rw [hh] at hr; cases hr
    | true =>
      rw [hh, cond_true] at hr
      rw [← hr]
      refine (congrArg crun (est_t h)).trans ?_
      have hm : minI h h = h := by unfold minI; simp
      have hi := (holdB_iff h).1 hh
      have hd : h.tdiv 3 ≤ h ∧ 0 ≤ h.tdiv 3 := by
        have : 0 ≤ h := by omega
        rw [Int.tdiv_eq_ediv_of_nonneg this]; omega
      have w1 : w64 (h.tdiv 3) = h.tdiv 3 := w64_id (by omega) (by omega)
      have w2 : w64 (7 + h.tdiv 3) = 7 + h.tdiv 3 := w64_id (by omega) (by omega)
      have w3 : w64 (8 + h) = 8 + h := w64_id (by omega) (by omega)
      have w4 : w64 (7 + h) = 7 + h := w64_id (by omega) (by omega)
      rw [hm, hh, w1, w2, w3, w4]
      have t0 : timerB (-1) = true := by decide
      have g0 : goesB (cfgS 0 h 0 (-1) (-1) (-1) 0 0 0) 1 0 = true := goes_cfg.2 ⟨hh, by omega, by omega, by decide, t0, t0, t0, by omega, by omega, by decide⟩
      have g1 : goesB (cfgS 1 h 0 (-1) (-1) 5 0 0 0) 3 6 = true := goes_cfg.2 ⟨hh, by omega, by omega, by decide, t0, t0, by decide, by omega, by omega, by decide⟩
      have g2 : goesB (cfgS 2 h 0 36 (-1) (-1) 0 0 0) 5 7 = true := goes_cfg.2 ⟨hh, by omega, by omega, by decide, by decide, t0, t0, by omega, by omega, by decide⟩
      rw [g0, g1, g2]
      unfold exAt alAt
      cases hz : (h == 0) with
      | true =>
        have g3 : goesB (cfgS 3 h h (-1) (-1) (-1) 65000 h 2) 5 8 = true := goes_cfg.2 ⟨hh, by omega, by omega, hh, t0, t0, t0, by omega, by omega, by decide⟩
        rw [g3]
        rfl
      | false =>
        simp only [beq_eq_false_iff_ne] at hz
        have g3 : goesB (cfgS 3 h h (7 + h) (7 + h.tdiv 3) (-1) 65000 h 2) 5 8 = true := goes_cfg.2 ⟨hh, by omega, by omega, hh, (timerB_iff _).2 (by omega), (timerB_iff _).2 (by omega), t0, by omega, by omega, by decide⟩
        rw [g3]
        rfl
  · cases hr)

def pickI (x n : Int) : Int := bif decide (x.tmod n < 0) then w64 (x.tmod n + n) else x.tmod n
def pick_s : CSumm
  | [.int .i64 x, .int .i64 n], [] => .ite (n == 0) .fail (.ret (.int .i64 (pickI x n)) [])
  | _, _ => .fail
theorem pick_k : Known Try.prog 20 pick_s := known_of_bodyS noNumTry mixTry ok0 Try.func20 rfl (by
  intro args H v ups h
  unfold pick_s at h
  split at h
  · rename_i x n
    have e : bodyS Try.prog (tbl []) Try.f20 [.int .i64 x, .int .i64 n] [] = bif n == 0 then .fail else bif decide (x.tmod n < 0) then .ret (.int .i64 (w64 (x.tmod n + n))) [] else .ret (.int .i64 (x.tmod n)) [] := by kernel_rfl
    rw [e, ← h]
    unfold pickI
    rw [crun_ite]
    cases n == 0 <;> cases decide (x.tmod n < 0) <;> rfl
  · cases h)
theorem pick_range {x n : Int} (h1 : 0 < n) (h2 : n ≤ 1000000) : 0 ≤ pickI x n ∧ pickI x n < n := by
  have a := Int.tmod_lt_of_pos x h1
  have b : -n < x.tmod n := by
    have := Int.tmod_lt_of_pos (-x) h1
    rw [Int.neg_tmod] at this
    omega
  unfold pickI
  cases h : decide (x.tmod n < 0) with
  | true =>
    simp only [decide_eq_true_eq] at h
    rw [cond_true, w64_id (by omega) (by omega)]
    omega
  | false =>
    simp only [decide_eq_false_iff_not] at h
    rw [cond_false]
    omega
def lives_s : CSumm := constS (.bool true)
theorem lives_k : Known Try.prog 9 lives_s := known_closed noNumTry mixTry Try.func9 rfl (show callK (closedS Try.prog 300 12) 9 [] [] = some (.bool true, []) by kernel_rfl)
end Go.Proofs.Ytbeolnccdhjjeaa
/- Sessions: what a step leaves. -/
namespace Go.Proofs.Ytbeolnccdhjjeaa
open Go.Am
set_option maxRecDepth 100000
/-- What the actions of a step make of 'up': none where the law would say no. -/
def runActs (same : Msg → Bool) : Bool → List Act → Option Bool
  | up, [] => some up
  | up, a :: l =>
    if a.kind == 4 then (if up then none else runActs same true l)
    else if a.kind == 5 then (if !up || decide (a.reason < 1) || decide (a.reason > 5) then none else runActs same false l)
    else if a.kind == 6 then (if !up || !same a.m then none else runActs same up l)
    else runActs same up l
structure Post (s : Ses) (k : Int) (m : Msg) (now : Int) (p : Ses × List Act) : Prop where
  ok : p.1.ok = true
  cfg : p.1.asn = s.asn ∧ p.1.id = s.id ∧ p.1.pe = s.pe ∧ p.1.ho = s.ho ∧ p.1.re = s.re ∧ p.1.rs = s.rs ∧ p.1.pas = s.pas ∧ p.1.rsd = s.rsd
  run : ∀ same : Msg → Bool, same m = true → runActs same (s.ph == 4) p.2 = some (p.1.ph == 4)
  idle : s.ph = 0 → p.1.ph ≠ 0 → k = 1

theorem ok_iff (s : Ses) : s.ok = true ↔ soundB s.id s.pe s.ho s.re s.rs = true ∧ 0 ≤ s.ph ∧ s.ph ≤ 4 ∧ holdB s.hold = true ∧ timerB s.ex = true ∧ timerB s.al = true ∧ timerB s.ret = true := by
  simp only [Ses.ok, Bool.and_eq_true, decide_eq_true_eq, and_assoc, ge_iff_le]
theorem sound_re {s : Ses} (h : soundB s.id s.pe s.ho s.re s.rs = true) : 1 ≤ s.re ∧ s.re ≤ 65535 ∧ holdB s.ho = true := by
  simp only [soundB, Bool.and_eq_true, decide_eq_true_eq, and_assoc, ge_iff_le] at h
  exact ⟨h.2.2.2.2.1, h.2.2.2.2.2.1, h.2.2.2.1⟩
theorem timer_off : timerB (-1) = true := by decide
theorem timer_at {now d : Int} (h0 : 0 ≤ now) (h1 : now ≤ 1099511627776) (d0 : 0 ≤ d) (d1 : d ≤ 65535) : timerB (w64 (now + d)) = true := by
  rw [w64_id (by omega) (by omega)]
  exact (timerB_iff _).2 (by omega)
theorem third_at {h : Int} (hh : holdB h = true) : 0 ≤ w64 (h.tdiv 3) ∧ w64 (h.tdiv 3) ≤ 65535 := by
  have hi := (holdB_iff h).1 hh
  have hd : h.tdiv 3 = h / 3 := Int.tdiv_eq_ediv_of_nonneg (by omega)
  rw [w64_id (by omega) (by omega)]
  omega
theorem hold_range {h : Int} (hh : holdB h = true) : 0 ≤ h ∧ h ≤ 65535 := by
  have hi := (holdB_iff h).1 hh
  omega

section
variable {R : Type}
def retS (s : Ses) (now : Int) : Ses := { s with ret := bif s.pas then -1 else w64 (now + s.re) }
def exS (s : Ses) (now : Int) : Ses := { s with ex := bif s.hold == 0 then -1 else w64 (now + s.hold) }
def alS (s : Ses) (now : Int) : Ses := { s with al := bif s.hold == 0 then -1 else w64 (now + w64 (s.hold.tdiv 3)) }
def leaveS (s : Ses) (now : Int) : Ses := { s with ph := 1, oas := 0, oh := 0, oid := 0, ors := 0, ord := false, hold := 0, ex := -1, al := -1, ret := bif s.pas then -1 else w64 (now + s.re) }
def downL (s : Ses) (r : Int) : List Act := bif s.ph == 4 then [⟨5, msg0, r⟩] else []
theorem setRetryG_eq (s : Ses) (now : Int) (κ : Ses → R) : setRetryG cond s now κ = κ (retS s now) := by
  unfold setRetryG retS; cases s.pas <;> rfl
theorem setHoldG_eq (s : Ses) (now : Int) (κ : Ses → R) : setHoldG cond s now κ = κ (exS s now) := by
  unfold setHoldG exS; cases s.hold == 0 <;> rfl
theorem setAliveG_eq (s : Ses) (now : Int) (κ : Ses → R) : setAliveG cond s now κ = κ (alS s now) := by
  unfold setAliveG alS; cases s.hold == 0 <;> rfl
theorem leaveG_eq (s : Ses) (l : List Act) (r now : Int) (κ : Ses → List Act → R) : leaveG cond s l r now κ = κ (leaveS s now) (l ++ downL s r) := by
  unfold leaveG
  rw [setRetryG_eq, setRetryG_eq]
  unfold downL
  cases s.ph == 4 with
  | true => rfl
  | false => rw [cond_false, cond_false, List.append_nil]; rfl
theorem failG_eq (s : Ses) (code sub r now : Int) (κ : Ses → List Act → R) : failG cond s code sub r now κ = κ (leaveS s now) ([send { msg0 with kind := 3, code := code, sub := sub }, plain 3] ++ downL s r) := leaveG_eq ..
end
variable {s : Ses} {k : Int} {m : Msg} {now : Int}
theorem retS_ok (h : s.ok = true) (h0 : 0 ≤ now) (h1 : now ≤ 1099511627776) : (retS s now).ok = true := by
  rw [ok_iff] at h ⊢
  obtain ⟨a, b, c, d, e, f, g⟩ := h
  refine ⟨a, b, c, d, e, f, ?_⟩
  have := sound_re a
  unfold retS
  cases s.pas
  · exact timer_at h0 h1 (by omega) (by omega)
  · exact timer_off
theorem exS_ok (h : s.ok = true) (h0 : 0 ≤ now) (h1 : now ≤ 1099511627776) : (exS s now).ok = true := by
  rw [ok_iff] at h ⊢
  obtain ⟨a, b, c, d, e, f, g⟩ := h
  refine ⟨a, b, c, d, ?_, f, g⟩
  have := hold_range d
  unfold exS
  cases s.hold == 0
  · exact timer_at h0 h1 (by omega) (by omega)
  · exact timer_off
theorem alS_ok (h : s.ok = true) (h0 : 0 ≤ now) (h1 : now ≤ 1099511627776) : (alS s now).ok = true := by
  rw [ok_iff] at h ⊢
  obtain ⟨a, b, c, d, e, f, g⟩ := h
  refine ⟨a, b, c, d, e, ?_, g⟩
  have := third_at d
  unfold alS
  cases s.hold == 0
  · exact timer_at h0 h1 (by omega) (by omega)
  · exact timer_off
theorem leaveS_ok (h : s.ok = true) (h0 : 0 ≤ now) (h1 : now ≤ 1099511627776) : (leaveS s now).ok = true := by
  rw [ok_iff] at h ⊢
  obtain ⟨a, b, c, d, e, f, g⟩ := h
  refine ⟨a, by simp [leaveS], by simp [leaveS], by simp [leaveS]; decide, timer_off, timer_off, ?_⟩
  have := sound_re a
  unfold leaveS
  cases s.pas
  · exact timer_at h0 h1 (by omega) (by omega)
  · exact timer_off
theorem idleS_ok (h : s.ok = true) : (idleS s).ok = true := by
  rw [ok_iff] at h ⊢
  obtain ⟨a, b, c, d, e, f, g⟩ := h
  exact ⟨a, by simp [idleS], by simp [idleS], d, e, f, timer_off⟩
/-- Leaving: what is done by it. -/
theorem post_leave (h : s.ok = true) (h0 : 0 ≤ now) (h1 : now ≤ 1099511627776) (hp : s.ph ≠ 0) {r : Int} (hr : 1 ≤ r ∧ r ≤ 5) {l : List Act} (hl : ∀ same up, runActs same up l = some up) (hl2 : ∀ same up l', runActs same up (l ++ l') = runActs same up l') : Post s k m now (leaveS s now, l ++ downL s r) where
  ok := leaveS_ok h h0 h1
  cfg := ⟨rfl, rfl, rfl, rfl, rfl, rfl, rfl, rfl⟩
  run := by
    intro same hs
    rw [hl2]
    unfold downL
    cases hq : (s.ph == 4) with
    | false => rfl
    | true =>
      have a1 : decide (r < 1) = false := by simp; omega
      have a2 : decide (r > 5) = false := by simp; omega
      simp [runActs, a1, a2, leaveS]
  idle := fun h' => absurd h' hp
theorem post_idle {l : List Act} (h : Post s k m now (leaveS s now, l)) (hp : s.ph ≠ 0) : Post s k m now (idleS (leaveS s now), l) where
  ok := idleS_ok h.ok
  cfg := h.cfg
  run := fun same hs => by
    have := h.run same hs
    exact this
  idle := fun h' => absurd h' hp
theorem post_fail (h : s.ok = true) (h0 : 0 ≤ now) (h1 : now ≤ 1099511627776) (hp : s.ph ≠ 0) {code sub r : Int} (hr : 1 ≤ r ∧ r ≤ 5) : Post s k m now (leaveS s now, [send { msg0 with kind := 3, code := code, sub := sub }, plain 3] ++ downL s r) :=
  post_leave h h0 h1 hp hr (fun _ _ => rfl) (fun _ _ _ => rfl)
theorem post_same (h : s.ok = true) {l : List Act} (hl : ∀ same up, runActs same up l = some up) : Post s k m now (s, l) where
  ok := h
  cfg := ⟨rfl, rfl, rfl, rfl, rfl, rfl, rfl, rfl⟩
  run := fun same _ => hl same _
  idle := fun a b => absurd a b
theorem post_later {κl : Ses × List Act} (h : s.ok = true) (h0 : 0 ≤ now) (h1 : now ≤ 1099511627776) (hp : s.ph ≠ 0) (hlook : k = 5 → Post s k m now κl) : Post s k m now (laterG cond s k m now Prod.mk κl) := by
  unfold laterG
  simp only [leaveG_eq, failG_eq]
  cases hk2 : (k == 2) with
  | true => exact post_idle (post_fail h h0 h1 hp (by omega)) hp
  | false =>
  cases hk4 : (k == 4) with
  | true => exact post_leave h h0 h1 hp (by omega) (fun _ _ => rfl) (fun _ _ _ => rfl)
  | false =>
  cases hk7 : (k == 7) with
  | true =>
    simp only [cond_true, cond_false]
    cases dueB s.ex now with
    | true => exact post_fail h h0 h1 hp (by omega)
    | false =>
      simp only [cond_false]
      cases dueB s.al now with
      | true =>
        have ha : ({ s with al := w64 (now + w64 (s.hold.tdiv 3)) } : Ses).ok = true := by
          rw [ok_iff] at h ⊢
          obtain ⟨a, b, c, d, e, f, g⟩ := h
          have := third_at d
          exact ⟨a, b, c, d, e, timer_at h0 h1 (by omega) (by omega), g⟩
        exact ⟨ha, ⟨rfl, rfl, rfl, rfl, rfl, rfl, rfl, rfl⟩, fun _ _ => rfl, fun a b => absurd a b⟩
      | false => exact post_same h (fun _ _ => rfl)
  | false =>
  cases hk6 : (k == 6) with
  | true => exact post_fail h h0 h1 hp (by omega)
  | false =>
  cases hk5 : (k == 5) with
  | true =>
    simp only [cond_true, cond_false]
    cases (m.kind != 3) with
    | true => exact hlook (by simpa using hk5)
    | false => exact post_leave h h0 h1 hp (by omega) (fun _ _ => rfl) (fun _ _ _ => rfl)
  | false => exact post_same h (fun _ _ => rfl)
theorem post_step (hg : goesB s k now = true) (hl : lightB m = true) : Post s k m now (stepG cond (s, []) s k m now Prod.mk) := by
  simp only [goesB, Bool.and_eq_true, decide_eq_true_eq] at hg
  obtain ⟨⟨⟨h, h0⟩, h1⟩, -⟩ := hg
  simp only [lightB, Bool.and_eq_true] at hl
  have hok := (ok_iff s).1 h
  unfold stepG
  simp only [leaveG_eq, failG_eq, setRetryG_eq, setHoldG_eq, setAliveG_eq, hl, cond_true]
  cases hp0 : (s.ph == 0) with
  | true =>
    rw [beq_iff_eq] at hp0
    simp only [cond_true]
    cases hk1 : (k == 1) with
    | true =>
      rw [beq_iff_eq] at hk1
      have ho1 : ({ s with ph := 1 } : Ses).ok = true := by
        rw [ok_iff]; exact ⟨hok.1, by simp, by simp, hok.2.2.2⟩
      have hr : ∀ l : List Act, (∀ same up, runActs same up l = some up) → Post s k m now (retS { s with ph := 1 } now, l) := fun l hl' =>
        ⟨retS_ok ho1 h0 h1, ⟨rfl, rfl, rfl, rfl, rfl, rfl, rfl, rfl⟩, fun same _ => by rw [hl', hp0]; rfl, fun _ _ => hk1⟩
      cases (!s.pas) with
      | true => exact hr _ (fun _ _ => rfl)
      | false => exact hr _ (fun _ _ => rfl)
    | false =>
      cases (k == 3) with
      | true => exact post_same h (fun _ _ => rfl)
      | false => exact post_same h (fun _ _ => rfl)
  | false =>
  have hp : s.ph ≠ 0 := by simpa using hp0
  cases hp1 : (s.ph == 1) with
  | true =>
    rw [beq_iff_eq] at hp1
    simp only [cond_true, cond_false]
    cases (k == 2) with
    | true => exact post_idle (post_leave h h0 h1 hp (by omega) (fun _ _ => rfl) (fun _ _ _ => rfl)) hp
    | false =>
    cases (k == 3) with
    | true =>
      refine ⟨?_, ⟨rfl, rfl, rfl, rfl, rfl, rfl, rfl, rfl⟩, fun _ _ => by rw [hp1]; rfl, fun a b => absurd a hp⟩
      rw [ok_iff]
      exact ⟨hok.1, by simp, by simp, hok.2.2.2.1, timer_at h0 h1 (by omega) (by omega), hok.2.2.2.2.2.1, timer_off⟩
    | false =>
    cases (k == 4) with
    | true => exact post_leave h h0 h1 hp (by omega) (fun _ _ => rfl) (fun _ _ _ => rfl)
    | false =>
    cases (k == 7) with
    | true =>
      simp only [cond_true, cond_false]
      cases dueB s.ret now with
      | true => exact ⟨retS_ok h h0 h1, ⟨rfl, rfl, rfl, rfl, rfl, rfl, rfl, rfl⟩, fun _ _ => rfl, fun a b => absurd a hp⟩
      | false => exact post_same h (fun _ _ => rfl)
    | false => exact post_same h (fun _ _ => rfl)
  | false =>
  cases hp2 : (s.ph == 2) with
  | true =>
    rw [beq_iff_eq] at hp2
    simp only [cond_true, cond_false]
    refine post_later h h0 h1 hp (fun _ => ?_)
    cases (m.kind != 1) with
    | true => exact post_fail h h0 h1 hp (by omega)
    | false =>
    cases (m.mas != s.asn) with
    | true => exact post_fail h h0 h1 hp (by omega)
    | false =>
    cases (m.mid != s.pe) with
    | true => exact post_fail h h0 h1 hp (by omega)
    | false =>
    cases hmh : holdB m.mh with
    | false => exact post_fail h h0 h1 hp (by omega)
    | true =>
      simp only [cond_false, Bool.not_true]
      have hho := (sound_re hok.1).2.2
      have hmin : holdB (bif decide (m.mh < s.ho) then m.mh else s.ho) = true := by cases decide (m.mh < s.ho) <;> assumption
      have hn : ({ s with oas := m.mas, oh := m.mh, oid := m.mid, ors := m.mrs, ord := m.mrd, hold := bif decide (m.mh < s.ho) then m.mh else s.ho, ph := 3 } : Ses).ok = true := by
        rw [ok_iff]; exact ⟨hok.1, by simp, by simp, hmin, hok.2.2.2.2⟩
      exact ⟨alS_ok (exS_ok hn h0 h1) h0 h1, ⟨rfl, rfl, rfl, rfl, rfl, rfl, rfl, rfl⟩, fun _ _ => by rw [hp2]; rfl, fun a b => absurd a hp⟩
  | false =>
  cases hp3 : (s.ph == 3) with
  | true =>
    rw [beq_iff_eq] at hp3
    simp only [cond_true, cond_false]
    refine post_later h h0 h1 hp (fun _ => ?_)
    cases (m.kind != 4) with
    | true => exact post_fail h h0 h1 hp (by omega)
    | false =>
      have hn : ({ s with ph := 4 } : Ses).ok = true := by
        rw [ok_iff]; exact ⟨hok.1, by simp, by simp, hok.2.2.2⟩
      exact ⟨exS_ok hn h0 h1, ⟨rfl, rfl, rfl, rfl, rfl, rfl, rfl, rfl⟩, fun _ _ => by rw [hp3]; rfl, fun a b => absurd a hp⟩
  | false =>
    have hp4 : s.ph = 4 := by
      have a := hok.2.1; have b := hok.2.2.1
      simp only [beq_eq_false_iff_ne] at hp0 hp1 hp2 hp3
      omega
    simp only [cond_false]
    refine post_later h h0 h1 hp (fun _ => ?_)
    have hd : Post s k m now (exS s now, [⟨6, m, 0⟩]) := ⟨exS_ok h h0 h1, ⟨rfl, rfl, rfl, rfl, rfl, rfl, rfl, rfl⟩, fun same hs => by rw [hp4]; simp [runActs, hs]; exact hp4, fun a b => absurd a hp⟩
    have ho : Post s k m now (bif m.kind == 4 then (exS s now, []) else (leaveS s now, [send { msg0 with kind := 3, code := 5, sub := w64 (s.ph - 1) }, plain 3] ++ downL s 4)) := by
      cases (m.kind == 4) with
      | true => exact ⟨exS_ok h h0 h1, ⟨rfl, rfl, rfl, rfl, rfl, rfl, rfl, rfl⟩, fun _ _ => rfl, fun a b => absurd a hp⟩
      | false => exact post_fail h h0 h1 hp (by omega)
    cases (m.kind == 2) with
    | true => exact hd
    | false =>
      cases (m.kind == 5) with
      | true => exact hd
      | false => exact ho
theorem post_stepP (hs : s.ok = true) (hl : lightB m = true) : Post s k m now (stepP s k m now) := by
  unfold stepP
  cases hg : goesB s k now with
  | true => exact post_step hg hl
  | false => exact post_same hs (fun _ _ => rfl)
end Go.Proofs.Ytbeolnccdhjjeaa
