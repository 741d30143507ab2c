/- 'MsgSplit' answers true, whatever bytes it is handed. No condition. -/
import Derived.Test.YtnlmhpancboddaaGreatPart28
import Derived.Test.YtnlmhpancboddaaGreatMachine5
set_option linter.unusedVariables false
set_option linter.unusedSimpArgs false
namespace Go.Proofs.YtnlmhpancboddaaGreat
open Go.Am Go.ChangeShapes Go.WideShapes Go.ChangeAt Go.RowKit Go.Joins
set_option maxRecDepth 100000
noncomputable def law3_s:ag:=fun args H=>match args,H with
 | [.psl 5 b],[]=>.ite (dec (byl b)) (.ret (.bool true) []) .fail
 | _,_=>.fail
theorem law3_k:Known Tryz.prog 3 law3_s:=law3_k0.weak (by
 intro args H v ups h
 unfold law3_s at h
 split at h
 . rename_i b
   rw[aa]at h
   cases hc:dec (byl b)with
   | false=>rw[hc]at h;cases h
   | true=>
    rw[hc,cT]at h
    have hb:=dec_iff.1 hc
    refine(congrArg ac (law3_t b)).trans ?_
    by_cases hl:(b.length:Int) > 9000
    . rw[dT0 hl];exact h
    . have hs:ki (spL b 0 []).2.2:=Jx (by omega)
      rw[dF hl,cF,List.length_nil,Nat.zero_add,nA,kB (by omega),cT]
      unfold msR
      have c1:dec (A4 b b.length 0)=true:=dec_iff.2 ⟨rfl,by omega,Int.le_refl _,by omega⟩
      have c2:dec (byl b/\b.length<=9000)=true:=dec_iff.2 ⟨hb,by omega⟩
      rw[dec_iff.2 ⟨hb,rfl,by omega⟩,cT,c1,c2]
      unfold M5 M6 msC
      generalize spL b 0 []=r at *
      have c3:dec (r.2.2=r.2.2/\ki r.2.2)=true:=dec_iff.2 ⟨rfl,hs⟩
      rw[c3]
      cases he:r.1==0 with
      | true=>
       rw[cT,cT,cT,cT,cT,yy,yy]
       rw[show(oZ (b.drop r.2.1)==oZ (b.drop r.2.1))=true by simp]
       exact h
      | false=>
       rw[cF,cT,cT,cF,cT]
       rw[show(r.1==r.1&&(r.2.1:Int)==r.2.1)=true by simp]
       exact h
 . cases h)
theorem nV(os:Os)(started:os.Started)(H:Type)(enc:TypeId × Value->H):
  ReturnsInHanded {} Tryz.checked os 3 .any (Rows.msgSplitSpec.pre6 enc Tryz.prog Tryz.f3 Rows.msgSplitRow.domain false) (Rows.msgSplitSpec.post enc Tryz.prog Tryz.f3 false true false false):=by
 refine returnsInHanded_of_change (C:=Tryz.checked) Tryz.own started (by kernel_rfl) Tryz.func3
  (ChangeSpec.witness6 (enc:=enc) (C:=Tryz.checked) false ⟨#[],#[.slice none 0 0],[]⟩ 8 (by kernel_rfl) (by kernel_rfl) (by kernel_rfl) (by kernel_rfl)) ?_
 intro W base args ds gs before hval0 hW hcnd _
 exact Cz (tb:=4) DT DU DV (by kernel_rfl) (by kernel_rfl) law3_k rfl Tryz.underlying4 rfl (fun ss h=>by
  rw[Tryz.params3]at h
  obtain⟨s0,ss,rfl,h0,h⟩:=h.cons_inv
  obtain rfl:=h.nil_inv
  obtain⟨b,rfl,-,hb⟩:=h0.sl_inv Tryz.underlying22
  show ac (.ite (dec (byl b)) (.ret (.bool true) []) .fail)=_
  rw[aa,dec_iff.2 (Kd hb)];rfl) (fun ds h=>by
   match ds,h with
   | [d0],_=>rfl) hval0 hW
theorem msgSplit_holds:Rows.MsgSplitSaid:=
 OpenClaim.holds_of_wide 3 Tryz.f3 rfl rfl rfl rfl rfl rfl rfl ⟨rfl,rfl,rfl,rfl,rfl⟩ rfl rfl rfl rfl rfl (by kernel_rfl) Tryz.func3 (by kernel_rfl)
  (of_decide_eq_true (by kernel_rfl)) (by unfold Func.isWrapper;first | (rw[if_pos (by decide+kernel)];kernel_rfl) | (rw[if_neg (by decide+kernel)];exact⟨rfl,rfl⟩))
  (fun os started H enc _=>nV os started H enc)
end Go.Proofs.YtnlmhpancboddaaGreat
#print axioms Go.Proofs.YtnlmhpancboddaaGreat.msgSplit_holds
