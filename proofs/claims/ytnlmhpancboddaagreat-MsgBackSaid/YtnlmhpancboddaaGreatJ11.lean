/- 'MsgBack' answers true, whatever messages it is handed. No condition. -/
import Derived.Test.YtnlmhpancboddaaGreatPart25
import Derived.Test.YtnlmhpancboddaaGreatMachine5
set_option linter.unusedVariables false
set_option linter.unusedSimpArgs false
namespace Go.Proofs.YtnlmhpancboddaaGreat
open Go.Am Go.ChangeShapes Go.WideShapes Go.ChangeAt Go.RowKit Go.Joins
set_option maxRecDepth 100000
structure BkP (A W:List SV):Prop where
 ab:byl A
 sp:∀ post,spL (A++post) 0 []=spL (A++post) A.length W
 sm:∀ x ∈ W,iz (dB x).d
theorem A8{m:Mg}(hl:mj m=true):iz m.d:=by
 have hb:∀ x y:Bool,(bif x then y else false)=(x&&y):=by decide
 simp only[mj,hb,bA,decide_eq_true_eq]at hl
 obtain⟨⟨⟨⟨h1,h2⟩,h3⟩,h4⟩,h5⟩:=hl
 exact⟨by omega,by omega,by omega,by omega,by omega⟩
theorem Li(m:Mg):(dB (mgV m)).d=m.d:=rfl
theorem BkP.more{A W:List SV}(h:BkP A W){m:Mg}(he:EnOk m)(hl:mj m=true):BkP (A++enM m) (W++[mgV m]) where
 ab:=h.ab.app (tz he.by_)
 sp:=fun post=>by rw[aA,h.sp,GM he]
 sm:=fun x hx=>by
  rcases List.mem_append.1 hx with hx | hx
  . exact h.sm x hx
  . rw[List.mem_singleton]at hx
    subst hx
    rw[Li];exact A8 hl
theorem qX{ls:List SV}(hin:∀ j,j < ls.length->MIn (dB (ls.getD j .junk))):∀ (f i:Nat) (A W A' W':List SV),i+f<=ls.length->bkF f ls i A W=some (A',W')->BkP A W->BkP A' W'/\A'.length<=A.length+4096 * f/\W'.length<=W.length+f
 | 0,i,A,W,A',W',_,h,hp=>by cases h;exact⟨hp,by omega,by omega⟩
 | f+1,i,A,W,A',W',hi,h,hp=>by
  have hm:=hin i (by omega)
  unfold bkF at h
  generalize dB (ls.getD i .junk)=m at *
  cases hlit:mj m with
  | false=>rw[hlit]at h;cases h
  | true=>
   have hok:=sO hm hlit
   rw[hlit,Bool.not_true,cF]at h
   cases he:erM m !=0 with
   | true=>
    rw[he,cT]at h
    obtain⟨g1,g2,g3⟩:=qX hin f (i+1) A W A' W' (by omega) h hp
    exact⟨g1,by omega,by omega⟩
   | false=>
    have hen:=tx hok (by simpa using he)
    have hbl:=hen.bl
    rw[he,cF]at h
    obtain⟨g1,g2,g3⟩:=qX hin f (i+1) _ _ A' W' (by omega) h (hp.more hen hlit)
    rw[lA0,lH]at g2
    rw[lA0,lS]at g3
    exact⟨g1,by omega,by omega⟩
theorem BkP.nil:BkP [] []:=⟨dV,fun _=>rfl,fun x hx=>by cases hx⟩
theorem BkP.all{A W:List SV}(h:BkP A W):spL A 0 []=(0,A.length,W):=by
 have:=h.sp []
 rw[List.append_nil]at this
 rw[this,GN]
theorem BkP.part{A W:List SV}(h:BkP A W){m:Mg}(he:EnOk m){c:Nat}(hc:c < (enM m).length):spL (A++(enM m).take c) 0 []=(0,A.length,W):=by
 rw[h.sp]
 exact DX he.k0 he.k1 he.bl hc A W
noncomputable def law6_s:ag:=fun args H=>match args,H with
 | [.psl 52 ls,y,.int .i64 cut],[]=>match mgP y with
  | some m=>.ite (dec (MIn m/\∀ j,j < ls.length->MIn (dB (ls.getD j .junk)))) (.ret (.bool true) []) .fail
  | none=>.fail
 | _,_=>.fail
theorem EB    {ls:List SV}{m:Mg}(hin:∀ j,j < ls.length->MIn (dB   (ls.getD j .junk))){K:List SV->List SV->CTree}{t:SV × List (Nat × Option Chunk)}(hK:mj   m=true->∀ A W,BkP A W->A.length<=50000->W.length<=12->ae   (K A W)=some t)(ht:some t=ae   (rtB true)):ae   (bcB ls m K)=some t:=by
 unfold bcB
 by_cases h12:(ls.length:Int) > 12
 . rw[dT0 h12];exact ht.symm
 . rw[dF0 h12,cF]
   cases hlit:mj m with
   | false=>exact ht.symm
   | true=>
    rw[Bool.not_true,cF,dec_iff.2 ⟨rfl,rfl,by omega,Int.le_refl _,by omega,by simp,by simp,hin⟩,cT,show(0:Int).toNat=0 from rfl]
    cases hb:bkF (ls.length - 0) ls 0 [] []with
    | none=>exact ht.symm
    | some p=>
     obtain⟨A,W⟩:=p
     obtain⟨hp,h1,h2⟩:=qX hin _ _ _ _ A W (by omega) hb .nil
     rw[List.length_nil]at h1 h2
     show ae (bif true then bcS A W (K A W)else rtB true)=_
     rw[cT]
     unfold bcS
     have ha:=hp.all
     rw[dec_iff.2 ⟨hp.ab,rfl,by omega,by rw[ha]⟩,cT,ha]
     simp only[]
     rw[List.drop_length,show((([]:List SV).length:Int)!=0)=false from rfl,cF,dec_iff.2 ⟨trivial,trivial,by omega,hp.sm⟩,cT]
     exact hK hlit A W hp (by omega) (by omega)
theorem Lj{A W:List SV}{m:Mg}(hp:BkP A W)(hA:A.length<=50000)(hW:W.length<=12)(he:EnOk m){c:Int}(c0:0<=c)(c1:c < (enM m).length):bcE A W (enM m) c=rtB true:=by
 obtain⟨k,rfl⟩:=Int.eq_ofNat_of_zero_le c0
 have hbl:=he.bl
 have hel:=lH (m:=m)
 have hk:((k:Nat):Int).toNat=k:=rfl
 have hsp:=hp.part he (c:=k) (by omega)
 have htl:((enM m).take k).length=k:=by rw[List.length_take];omega
 have hby:byl (A++(enM m).take k):=hp.ab.app (fun v hv=>tz he.by_ v (List.mem_of_mem_take hv))
 have hb:(decide ((0:Int)<=0)&&decide (0<=(k:Int))&&decide ((k:Int)<=(enM m).length))=true:=by
  rw[dT0 (by omega),dT0 (by omega),dT0 (by omega)];rfl
 unfold bcE
 rw[hb,cT,hk,KT (t:=(enM m).take k) (by omega) (by rw[List.drop_zero]) (by rw[htl];omega),dec_iff.2 ⟨hby,rfl,by rw[lA0,htl];omega,by rw[hsp]⟩,cT,hsp]
 simp only[]
 rw[List.drop_left',yP,cT,Dc (by omega),List.drop_zero,show(Ff ((enM m).take k)==Ff ((enM m).take k))=true by simp,cT,dec_iff.2 ⟨trivial,trivial,by omega,hp.sm⟩]
 . rfl
 . rfl
theorem law6_k:Known Tryz.prog 6 law6_s:=by
 have kN:=law6_k0 MO
 have kZ:=law6_k0 MP
 refine⟨kN.fn,fun args H v ups h=> ?_⟩
 unfold law6_s at h
 split at h
 . rename_i ls y cut
   split at h
   . rename_i m hm
     rw[aa]at h
     cases hc:dec (MIn m/\∀ j,j < ls.length->MIn (dB (ls.getD j .junk)))with
     | false=>rw[hc]at h;cases h
     | true=>
      rw[hc]at h
      obtain⟨h1,h2⟩:=dec_iff.1 hc
      rw[HP hm]
      have hr:some (v,ups)=ae (rtB true):=h.symm
      by_cases h0:erM m=0
      . refine kZ.ok _ _ _ _ ?_
        refine(congrArg ae (law6_z ls m cut)).trans ?_
        refine EB h2 (fun hl A W hp hA hW=> ?_) hr
        have hok:=sO h1 hl
        have hen:=tx hok h0
        have hel:=lH (m:=m)
        obtain⟨p0,p1⟩:=Fy (x:=cut) (n:=(enM m).length) (by omega) (by have:=hen.bl;omega)
        rw[dec_iff.2 ⟨hok,h0⟩,cT,dT0 (by omega),cT,Lj hp hA hW hen p0 p1]
        exact hr.symm
      . refine kN.ok _ _ _ _ ?_
        refine(congrArg ae (law6_n ls m cut)).trans ?_
        refine EB h2 (fun hl A W hp hA hW=> ?_) hr
        have hok:=sO h1 hl
        rw[dec_iff.2 ⟨hok,h0⟩,cT,show(erM m !=0)=true by simpa using h0,cT]
        exact hr.symm
   . cases h
 . cases h
theorem H9{v:SV}(hv:OkV Tryz.prog 52 v):∃ m:Mg,v=mgV m/\mgP v=some m/\MIn m:=by
 obtain⟨cs,rfl,hh⟩:=hv.agg_inv (by kernel_rfl)
 clear hv
 rw[show aK Tryz.prog 40 52=[3,36,3,37,3,4,3,3,3,43,37,4,36,4,36,4,37,44,45,3,36,37,37,50,50]by kernel_rfl]at hh
 obtain⟨x0,cs,rfl,i0,hh⟩:=hh.cons_inv
 obtain⟨x1,cs,rfl,i1,hh⟩:=hh.cons_inv
 obtain⟨x2,cs,rfl,i2,hh⟩:=hh.cons_inv
 obtain⟨x3,cs,rfl,i3,hh⟩:=hh.cons_inv
 obtain⟨x4,cs,rfl,i4,hh⟩:=hh.cons_inv
 obtain⟨x5,cs,rfl,i5,hh⟩:=hh.cons_inv
 obtain⟨x6,cs,rfl,i6,hh⟩:=hh.cons_inv
 obtain⟨x7,cs,rfl,i7,hh⟩:=hh.cons_inv
 obtain⟨v0,cs,rfl,h0,hh⟩:=hh.cons_inv
 obtain⟨v1,cs,rfl,h1,hh⟩:=hh.cons_inv
 obtain⟨v2,cs,rfl,h2,hh⟩:=hh.cons_inv
 obtain⟨v3,cs,rfl,h3,hh⟩:=hh.cons_inv
 obtain⟨v4,cs,rfl,h4,hh⟩:=hh.cons_inv
 obtain⟨v5,cs,rfl,h5,hh⟩:=hh.cons_inv
 obtain⟨v6,cs,rfl,h6,hh⟩:=hh.cons_inv
 obtain⟨v7,cs,rfl,h7,hh⟩:=hh.cons_inv
 obtain⟨v8,cs,rfl,h8,hh⟩:=hh.cons_inv
 obtain⟨v9,cs,rfl,h9,hh⟩:=hh.cons_inv
 obtain⟨v10,cs,rfl,h10,hh⟩:=hh.cons_inv
 obtain⟨v11,cs,rfl,h11,hh⟩:=hh.cons_inv
 obtain⟨v12,cs,rfl,h12,hh⟩:=hh.cons_inv
 obtain⟨v13,cs,rfl,h13,hh⟩:=hh.cons_inv
 obtain⟨v14,cs,rfl,h14,hh⟩:=hh.cons_inv
 obtain⟨r,cs,rfl,hr,hh⟩:=hh.cons_inv
 obtain⟨u,cs,rfl,hu,hh⟩:=hh.cons_inv
 obtain rfl:=hh.nil_inv
 have ha:OkV Tryz.prog 49 (.agg [v0,v1,v2,v3,v4,v5,v6,v7,v8,v9,v10,v11,v12,v13,v14]):=.agg (by kernel_rfl) (by
  rw[show aK Tryz.prog 40 49=[3,43,37,4,36,4,36,4,37,44,45,3,36,37,37]by kernel_rfl]
  exact .cons h0 (.cons h1 (.cons h2 (.cons h3 (.cons h4 (.cons h5 (.cons h6 (.cons h7 (.cons h8 (.cons h9 (.cons h10 (.cons h11 (.cons h12 (.cons h13 (.cons h14 .nil)))))))))))))))
 obtain⟨a,e,hm,hva⟩:=Ig ha
 simp only[At.v,SV.agg.injEq,List.cons.injEq]at e
 obtain⟨rfl,rfl,rfl,rfl,rfl,rfl,rfl,rfl,rfl,rfl,rfl,rfl,rfl,rfl,rfl,-⟩:=e
 obtain⟨k,rfl,-⟩:=i0.int_inv Tryz.underlying3
 obtain⟨asn,rfl,w1⟩:=i1.int_inv Tryz.underlying36
 obtain⟨hold,rfl,-⟩:=i2.int_inv Tryz.underlying3
 obtain⟨id,rfl,w3⟩:=i3.int_inv Tryz.underlying37
 obtain⟨rst,rfl,-⟩:=i4.int_inv Tryz.underlying3
 obtain⟨rsd,rfl⟩:=i5.bool_inv Tryz.underlying4
 obtain⟨code,rfl,-⟩:=i6.int_inv Tryz.underlying3
 obtain⟨sub,rfl,-⟩:=i7.int_inv Tryz.underlying3
 obtain⟨r,rfl,-,gr⟩:=hr.sl_inv Tryz.underlying50
 obtain⟨u,rfl,-,gu⟩:=hu.sl_inv Tryz.underlying50
 have hin:In a r u:=⟨hm,hva,good_of gr,good_of gu,Bc gr,Bc gu⟩
 exact⟨⟨k,⟨false,false,false,asn,hold,id,rst,rsd⟩,code,sub,⟨a.ori,a.nx,a.med,a.prf,a.orr,a.tk,a.tl,a.tr,a.tg,a.hm,a.hp,a.ho,a.path,a.cl,a.cm,r,u⟩⟩,rfl,rfl,(eu w1).1,(eu w1).2,(eu w3).1,(eu w3).2,hin⟩
theorem qY(os:Os)(started:os.Started)(H:Type)(enc:TypeId × Value->H):
  ReturnsInHanded {} Tryz.checked os 6 .any (Rows.msgBackSpec.pre6 enc Tryz.prog Tryz.f6 Rows.msgBackRow.domain false) (Rows.msgBackSpec.post enc Tryz.prog Tryz.f6 false true false false):=by
 refine returnsInHanded_of_change (C:=Tryz.checked) Tryz.own started (by kernel_rfl) Tryz.func6
  (ChangeSpec.witness6 (enc:=enc) (C:=Tryz.checked) false ⟨#[],#[.slice none 0 0,.agg #[.int .i64 0,.int .u32 0,.int .i64 0,.int .u32 0,.int .i64 0,.bool false,.int .i64 0,.int .i64 0,.int .i64 0,.slice none 0 0,.int .u32 0,.bool false,.int .u32 0,.bool false,.int .u32 0,.bool false,.int .u32 0,.slice none 0 0,.slice none 0 0,.int .i64 0,.int .u32 0,.int .u32 0,.int .u32 0,.slice none 0 0,.slice none 0 0],.int .i64 0],[]⟩ 8 (by kernel_rfl) (by kernel_rfl) (by kernel_rfl) (by kernel_rfl)) ?_
 intro W base args ds gs before hval0 hW hcnd _
 exact Cw (tb:=4) DL DM DN (by kernel_rfl) (by kernel_rfl) law6_k rfl Tryz.underlying4 rfl (fun ss h=>by
  rw[Tryz.params6]at h
  obtain⟨s0,ss,rfl,h0,h⟩:=h.cons_inv
  obtain⟨s1,ss,rfl,h1,h⟩:=h.cons_inv
  obtain⟨s2,ss,rfl,h2,h⟩:=h.cons_inv
  obtain rfl:=h.nil_inv
  obtain⟨ls,rfl,-,hl⟩:=h0.sl_inv Tryz.underlying25
  obtain⟨m,-,hp,hm⟩:=H9 h1
  obtain⟨cut,rfl,-⟩:=h2.int_inv Tryz.underlying3
  have hls:∀ j,j < ls.length->MIn (dB (ls.getD j .junk)):=fun j hj=>by
   obtain⟨m',e,-,hm'⟩:=H9 (hl _ (mo hj))
   rw[e];exact hm'
  show ae (match mgP s1 with | some m=>.ite (dec (MIn m/\∀ j,j < ls.length->MIn (dB (ls.getD j .junk)))) (.ret (.bool true) []) .fail | none=>.fail)=_
  rw[hp]
  simp only[]
  rw[aa,dec_iff.2 ⟨hm,hls⟩];rfl) (fun ds h=>by
   match ds,h with
   | [d0,d1,d2],_=>rfl) hval0 hW
theorem msgBack_holds:Rows.MsgBackSaid:=
 OpenClaim.holds_of_wide 6 Tryz.f6 rfl rfl rfl rfl rfl rfl rfl ⟨rfl,rfl,rfl,rfl,rfl⟩ rfl rfl rfl rfl rfl (by kernel_rfl) Tryz.func6 (by kernel_rfl)
  (of_decide_eq_true (by kernel_rfl)) (by unfold Func.isWrapper;first | (rw[if_pos (by decide+kernel)];kernel_rfl) | (rw[if_neg (by decide+kernel)];exact⟨rfl,rfl⟩))
  (fun os started H enc _=>qY os started H enc)
end Go.Proofs.YtnlmhpancboddaaGreat
#print axioms Go.Proofs.YtnlmhpancboddaaGreat.msgBack_holds
