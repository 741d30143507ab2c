/- The reference of messages: an OPEN is read, known. -/
import Derived.Test.YtnlmhpancboddaaGreatPart24
import Derived.Test.YtnlmhpancboddaaGreatMachine6
set_option linter.unusedVariables false
set_option linter.unusedSimpArgs false
namespace Go.Proofs.YtnlmhpancboddaaGreat
open Go.Am
set_option maxRecDepth 100000
noncomputable def pX:ag:=fun args H=>match args,H with
 | [.psl 5 p],[]=>.ite (dec (byl p/\p.length<=100000)) (.ite ((roP p).2==0) (.ret (.tup [mgZ 1 (roP p).1 0 0,.int .i64 0]) []) (.ret (.tup [mgZ 0 cs0 0 0,.int .i64 (roP p).2]) [])) .fail
 | _,_=>.fail
theorem yW     {ps:List SV}(hb:∀ j,byl (cl (ps.getD j .junk) 1)/\(cl (ps.getD j .junk) 1).length<=100000):∀ (f i:Nat) (rs xs:List SV),cpF f ps i rs=some xs->(∀ x ∈ rs,ItOk 100000 x)->(∀ x ∈ xs,ItOk 100000 x)/\xs.length<=rs.length+100000 * f
 | 0,i,rs,xs,h,hr=>by cases h;exact⟨hr,by omega⟩
 | f+1,i,rs,xs,h,hr=>by
  unfold cpF at h
  obtain⟨h1,h2⟩:=hb i
  generalize cl (ps.getD i .junk) 1=w at *
  cases c1:ci (ps.getD i .junk) 0 !=2 with
  | true=>rw[c1]at h;cases h
  | false=>
   rw[c1,cF]at h
   cases hq:itL w with
   | none=>rw[hq]at h;cases h
   | some ys=>
    rw[hq]at h
    obtain⟨g1,g2⟩:=pf h1 hq
    obtain⟨k1,k2⟩:=yW hb f (i+1) (rs++ys) xs h (fun x hx=>by
     rcases List.mem_append.1 hx with hx | hx
     . exact hr x hx
     . obtain⟨c,v,e,b1,b2,b3⟩:=(g1 x hx).v
       exact⟨c,v,e,b1,by omega,b3⟩)
    rw[lA0]at k2
    exact⟨k1,by omega⟩
theorem J0{q l:List SV}(hb:byl q)(hl:q.length<=100000)(h:cpL q=some l):Cw l 0:=by
 unfold cpL at h
 cases hq:itL q with
 | none=>rw[hq]at h;cases h
 | some ps=>
  rw[hq]at h
  obtain⟨g1,g2⟩:=pf hb hq
  change cpF ps.length ps 0 []=some l at h
  obtain⟨k1,k2⟩:=yW (fun j=>⟨(mB g1 j).1,Nat.le_trans (mB g1 j).2 hl⟩) ps.length 0 [] l h (fun x hx=>by cases hx)
  rw[List.length_nil]at k2
  exact⟨Int.le_refl _,by omega,by omega,fun j=>mB k1 j⟩
theorem DH      :Known Tryz.prog 34 pX      :=ropen6_k0.weak (by
 intro args H v ups h
 unfold pX at h
 split at h
 . rename_i p
   rw[aa]at h
   cases hc:dec (byl p/\p.length<=100000)with
   | false=>rw[hc]at h;cases h
   | true=>
    rw[hc,cT,aa]at h
    obtain⟨hb,hl⟩:=dec_iff.1 hc
    refine(congrArg ac (Di p)).trans ?_
    have err:∀ e:Int,e≠0->roP p=(cs0,e)->ac (r6E e)=some (v,ups):=fun e he hr=>by
     rw[hr]at h
     rw[show(((cs0,e):Cs × Int).2==0)=false by simpa using he]at h
     exact h
    by_cases h10:p.length < 10
    . rw[dT0 (show(p.length:Int) < 10 by omega),cT]
      exact err 3 (by decide) (by unfold roP;rw[dT0 h10];rfl)
    . rw[dF              (show ¬ (p.length:Int) < 10 by omega),cF        ,bJ     (by decide) (by omega),cT       ]
      cases c4:dg p 0 !=4 with
      | true=>
       rw[cT]
       exact err 15 (by decide) (by unfold roP;rw[dF h10,cF,c4];rfl)
      | false=>
       obtain⟨t0,t1⟩:=aX hb.ok 3 2
       obtain⟨u0,u1⟩:=aX hb.ok 5 4
       obtain⟨d0,d1⟩:=hb.ok 9
       have hro:roP p=bif(bif tkN p 3 2 !=0 then decide (tkN p 3 2 < 3)else false)then(cs0,3)else bif dg p 9 !=(p.length:Int) - 10 then(cs0,3)else
         (fun t:Bool × Cs=>bif(bif(bif !t.1 then true else !t.2.ev)then true else !t.2.nu)then(cs0,3)else(t.2,0)) (eJ fV (p.drop 10) {cs0 with hold:=tkN p 3 2,id:=tkN p 5 4}):=by
        unfold roP;rw[dF h10,cF,c4,cF]
       have k1:∀ K,j5 p 3 2 K=K (tkN p 3 2):=fun K=>by unfold j5;rw[dec_iff.2 ⟨hb,by omega,by decide,by omega,by decide⟩];rfl
       have k2:∀ K,j5 p 5 4 K=K (tkN p 5 4):=fun K=>by unfold j5;rw[dec_iff.2 ⟨hb,by omega,by decide,by omega,by decide⟩];rfl
       have hq:byl (p.drop 10):=hb.dropb 10
       have hql:(p.drop 10).length=p.length - 10:=List.length_drop
       rw[cF,k1,k2,eK (a:=10) (b:=(p.length:Int)) (i:=10) (j:=p.length) rfl rfl (by omega) (Nat.le_refl _),ia,dec_iff.2 ⟨hq,by omega⟩,cT,show w64 (tkN p 3 2)=tkN p 3 2 from ai (by omega) (by omega),bc u0 (by omega),show w64 (dg p 9)=dg p 9 from ai (by omega) (by omega),show w64 ((p.length:Int) - 10)=(p.length:Int) - 10 from ai (by omega) (by omega)]
       generalize tkN p 3 2=hd at *
       generalize tkN p 5 4=id at *
       by_cases e1:hd=1
       . rw[show(hd==1)=true by simpa using e1,cT]
         exact err 3 (by decide) (by rw[hro,e1];rfl)
       . rw[show(hd==1)=false by simpa using e1,cF        ]
         by_cases e2:hd=2
         . rw[show(hd==2)=true by simpa using e2,cT]
           exact err 3 (by decide) (by rw[hro,e2];rfl)
         . rw[show(hd==2)=false by simpa using e2,cF        ,bJ     (by decide) (by omega),cT       ]
           have hh:(bif hd !=0 then decide (hd < 3)else false)=false:=by
            cases hz:hd !=0 with
            | false=>rfl
            | true=>
             have:hd≠0:=by simpa using hz
             rw[cT,dF (by omega)]
           rw[hh,cF]at hro
           cases c9:dg p 9 !=(p.length:Int) - 10 with
           | true=>
            rw[cT]
            exact err 3 (by decide) (by rw[hro,c9];rfl)
           | false=>
            rw[c9,cF]at hro
            rw[cF]
            have hv:=EE hq {cs0 with hold:=hd,id:=id}
            generalize eJ fV (p.drop 10) {cs0 with hold:=hd,id:=id}=r at *
            cases hcp:cpL (p.drop 10)with
            | none=>
             rw[hcp]at hv
             have hv':r.1=false:=hv
             exact err 3 (by decide) (by rw[hro];simp only[];rw[hv'];rfl)
            | some l=>
             rw[hcp]at hv
             have hok:=J0 hq (by omega) hcp
             show ac (r6L l {cs0 with hold:=hd,id:=id})=_
             unfold r6L
             rw[dec_iff.2 ⟨rfl,hok⟩,cT,EC _ _ _ _ rfl,show(0:Int).toNat=0 from rfl,List.drop_zero]
             unfold tM at hv
             simp only[]at hv
             cases hf:fd cQ l {cs0 with hold:=hd,id:=id}with
             | none=>
              rw[hf]at hv
              have hv':r.1=false:=hv
              exact err 3 (by decide) (by rw[hro];simp only[];rw[hv'];rfl)
             | some t=>
              rw[hf]at hv
              have hv':r=(true,t):=hv
              rw[hv']at hro
              show ac (bif(bif !t.ev then true else !t.nu)then r6E 3 else .ret (.tup [mgZ 1 t 0 0,.int .i64 0]) [])=_
              have hro':roP p=bif(bif !t.ev then true else !t.nu)then(cs0,3)else(t,0):=by
               rw[hro];rfl
              cases ct:(bif !t.ev then true else !t.nu)with
              | true=>
               rw[ct]at hro'
               exact err 3 (by decide) hro'
              | false=>
               rw[ct]at hro'
               rw[hro']at h
               exact h
 . cases h)
end Go.Proofs.YtnlmhpancboddaaGreat
namespace Go.Proofs.YtnlmhpancboddaaGreat
open Go.Am
set_option maxRecDepth 100000
def rZ(z:Dz)(f:Nat->Bool):Chunk:=rS z.pb z.cb z.mb z.d f
noncomputable def ck(g:Int)(v:List SV)(z:Dz)(f:Nat->Bool):List (Nat × Option Chunk):=bif okC g v then [(0,some (rZ (gC g v z) f))]else [(0,none)]
def VGo(s:ag)(g:Int)(v:List SV)(z:Dz)(f:Nat->Bool)(ok:Bool)(out:List (Nat × Option Chunk)):Prop:=
 ∃ v1 ups,ac (s (vAr g v) [(0,rZ z f)])=some (v1,ups)/\(jg Tryz.prog [(0,rZ z f)] v1 ups (.bool ok) out\/Am.Told Tryz.prog [(0,rZ z f)] v1 ups (.bool ok) out)
theorem cI{s:ag}{g:Int}{v:List SV}{z:Dz}{f:Nat->Bool}{ups:List (Nat × Option Chunk)}(h:ac (s (vAr g v) [(0,rZ z f)])=some (.bool false,ups))(hu:ups=[]\/∃ c,ups=[(0,some c)]):VGo s g v z f false [(0,none)]:=by
 refine⟨_,_,h,.inr ⟨.rfl',fun x c' hx=> ?_⟩⟩
 simp only[ad]at hx
 by_cases h0:x=0
 . rw[if_pos h0]at hx;cases hx
 . rw[if_neg h0]at hx
   rcases hu with rfl | ⟨c,rfl⟩
   . exact⟨c',hx,.rfl'⟩
   . exact⟨c',by simp only[ad,h0,if_false];exact hx,.rfl'⟩
theorem kE{s:ag}{g:Int}{v:List SV}{z z':Dz}{f:Nat->Bool}(h:ac (s (vAr g v) [(0,rZ z f)])=some (.bool true,[(0,some (rZ z' f))])):VGo s g v z f true [(0,some (rZ z' f))]:=
 ⟨_,_,h,.inr ⟨.rfl',fun x c' hx=>⟨c',hx,.rfl'⟩⟩⟩
section
variable {v:List SV} {pb cb mb:Bool} {d:Ds} {f:Nat->Bool} (hv:byl v) (hl:v.length<=5000)
include hv hl
omit hv hl in
theorem OD  :VGo (vB (aF   []) cD    ) 1 v ⟨pb,cb,mb,d⟩ f (okC 1 v) (ck   1 v ⟨pb,cb,mb,d⟩ f):=by
 have ht:=v_1 v pb cb mb d f
 have hok:okC 1 v=(decide (v.length=1)&&decide (dg v 0<=2)):=by show(decide (v.length=1)&&decide (tkN v 0 1<=2))=_;rw[tk1]
 by_cases h1:v.length=1
 . rw[show((v.length:Int)!=1)=false by simp;omega,cF,show inB 0 v.length=true by unfold inB;simp;omega,cT]at ht
   by_cases h2:dg v 0<=2
   . rw[dF (show ¬ dg v 0 > 2 by omega),cF,cT]at ht
     have ho:okC 1 v=true:=by rw[hok,dT0 h1,dT0 h2];rfl
     unfold ck
     rw[ho]
     refine kE ((congrArg ac ht).trans ?_)
     show some (SV.bool true,[(0,some (rS pb cb mb (d1 d (dg v 0)) f))])=some (SV.bool true,[(0,some (rS pb cb mb (d1 d (tkN v 0 1)) f))])
     rw[tk1]
   . rw[dT0 (show dg v 0 > 2 by omega),cT]at ht
     have ho:okC 1 v=false:=by rw[hok,dT0 h1,dF h2];rfl
     unfold ck
     rw[ho]
     exact cI (congrArg ac ht) (.inl rfl)
 . rw[show((v.length:Int)!=1)=true by simp;omega,cT]at ht
   have ho:okC 1 v=false:=by rw[hok,dF h1];rfl
   unfold ck
   rw[ho]
   exact cI (congrArg ac ht) (.inl rfl)
omit hl in
theorem JS{g:Int}{dn:Ds->Int->Ds}(hg:okC g v=(decide (v.length=4)&&decide (tkN v 0 4<=4294967295)))(hgC:gC g v ⟨pb,cb,mb,d⟩=⟨pb,cb,mb,dn d (tkN v 0 4)⟩)
  (ht:vB (aF []) cD (vAr g v) [(0,rS pb cb mb d f)]=bif(v.length:Int)!=4 then vF else ytC v 0 4 (vT pb cb mb f (dn d (tkN v 0 4)))):VGo (vB (aF []) cD) g v ⟨pb,cb,mb,d⟩ f (okC g v) (ck g v ⟨pb,cb,mb,d⟩ f):=by
 obtain⟨q1,q2⟩:=aX hv.ok 0 4
 by_cases h1:v.length=4
 . rw[show((v.length:Int)!=4)=false by simp;omega,cF]at ht
   unfold ytC at ht
   rw[dec_iff.2 ⟨hv,by omega,by omega,by omega,by decide⟩,cT]at ht
   have hq:(256:Int) ^ 4=4294967296:=by decide
   have ho:okC g v=true:=by rw[hg,dT0 h1,dT0 (by omega)];rfl
   unfold ck
   rw[ho,hgC]
   exact kE (congrArg ac ht)
 . rw[show((v.length:Int)!=4)=true by simp;omega,cT]at ht
   have ho:okC g v=false:=by rw[hg,dF h1];rfl
   unfold ck
   rw[ho]
   exact cI (congrArg ac ht) (.inl rfl)
theorem MF   :VGo (vB (aF   []) cD    ) 15 v ⟨pb,cb,mb,d⟩ f (okC 15 v) (ck   15 v ⟨pb,cb,mb,d⟩ f):=by
 have ht:=N0 v pb cb mb d f
 have hok:okC 15 v=sy v:=rfl
 unfold sy at hok
 by_cases h3:3<=v.length
 . rw[dF (show ¬ (v.length:Int) < 3 by omega),cF,dT0 (Int.le_refl 0),dT0 (show(0:Int)<=3 by omega),dT0 (show(3:Int)<=v.length by omega),Bool.and_self,Bool.and_self,cT,zj hv h3]at ht
   rw[dT0 h3,cT]at hok
   cases hf:tkN v 0 3==6470 with
   | false=>
    rw[hf]at ht hok
    unfold ck;rw[hok]
    exact cI (congrArg ac ht) (.inl rfl)
   | true=>
    rw[hf,Bool.not_true,cF,show frC v 3=frC v ((3:Nat):Int)from rfl,tv h3]at ht
    unfold rrC at ht
    rw[dec_iff.2 ⟨hv.dropb 3,by rw[List.length_drop];omega⟩,cT]at ht
    rw[hf,cT]at hok
    cases he:rdE (v.drop 3)==0 with
    | false=>
     rw[show(rdE (v.drop 3)!=0)=true by unfold bne;rw[he];rfl,cT,cT]at ht
     rw[he]at hok
     unfold ck;rw[hok]
     exact cI (congrArg ac ht) (.inl rfl)
    | true=>
     rw[show(rdE (v.drop 3)!=0)=false by unfold bne;rw[he];rfl]at ht
     rw[he]at hok
     unfold ck;rw[hok]
     exact kE (congrArg ac ht)
 . rw[dT0 (show(v.length:Int) < 3 by omega),cT]at ht
   rw[dF h3,cF]at hok
   unfold ck;rw[hok]
   exact cI (congrArg ac ht) (.inl rfl)
theorem MG   :VGo (vB (aF   []) cD    ) 14 v ⟨pb,cb,mb,d⟩ f (okC 14 v) (ck   14 v ⟨pb,cb,mb,d⟩ f):=by
 have ht:=N3 v pb cb mb d f
 have hok:okC 14 v=tP v:=rfl
 unfold tP at hok
 by_cases h3:3<=v.length
 . rw[dF              (show ¬ (v.length:Int) < 3 by omega),cF        ,dT0            (Int.le_refl 0),dT0            (show(0:Int)<=3 by omega),dT0            (show(3:Int)<=v.length by omega),Bool.and_self,Bool.and_self,cT       ,zj      hv h3]at ht
   cases hf:tkN v 0 3==6470 with
   | false=>
    rw[hf]at ht
    have hok:okC 14 v=false:=by rw[hok,hf];cases decide (9<=v.length) <;> rfl
    unfold ck;rw[hok]
    exact cI (congrArg ac ht) (.inl rfl)
   | true=>
    rw[hf,Bool.not_true,cF,show frC v 3=frC v ((3:Nat):Int)from rfl,tv h3,List.length_drop]at ht
    by_cases h9:9<=v.length
    . rw[dF              (show ¬ ((v.length - 3:Nat):Int) < 6 by omega),cF        ,show inB 0 (v.length - 3)=true by unfold inB;simp;omega,cT       ,show inB 5 (v.length - 3)=true by unfold inB;simp;omega,cT       ,lU     ,lU     ,show dg v (3+0)=dg v 3 from rfl,show dg v (3+5)=dg v 8 from rfl]at ht
      rw[dT0 h9,cT,hf,cT]at hok
      cases hg:dg v 3==4 with
      | false=>
       rw[show(dg v 3 !=4)=true by unfold bne;rw[hg];rfl,cT]at ht
       rw[hg,cF]at hok
       unfold ck;rw[hok]
       exact cI (congrArg ac ht) (.inl rfl)
      | true=>
       rw[show(dg v 3 !=4)=false by unfold bne;rw[hg];rfl,cF]at ht
       rw[hg,cT]at hok
       cases hh:dg v 8==0 with
       | false=>
        rw[show(dg v 8 !=0)=true by unfold bne;rw[hh];rfl,cT]at ht
        rw[hh,cF]at hok
        unfold ck;rw[hok]
        exact cI (congrArg ac ht) (.inl rfl)
       | true=>
        rw[show(dg v 8 !=0)=false by unfold bne;rw[hh];rfl,cF]at ht
        rw[hh,cT]at hok
        unfold ytC at ht
        rw[dec_iff.2 ⟨hv.dropb 3,by rw[List.length_drop];omega,by omega,by rw[List.length_drop];omega,by decide⟩,cT,show frC (v.drop 3) 6=frC (v.drop 3) ((6:Nat):Int)from rfl,tv (by rw[List.length_drop];omega),List.drop_drop,qa]at ht
        unfold rrC at ht
        rw[dec_iff.2 ⟨hv.dropb _,by rw[List.length_drop];omega⟩,cT]at ht
        change _=bif(bif rdE (v.drop 9)!=0 then true else(bif(14:Int)==14 then((rdL (v.drop 9)).length:Int)==0 else false))then CTree.ret (.bool false) [(0,some (rS pb cb mb (dNx d (tkN v 4 4)) f))]else vT pb cb mb f {dNx d (tkN v 4 4)with rch:=rdL (v.drop 9)}at ht
        obtain⟨q5,q6⟩:=aX hv.ok 4 4
        cases he:rdE (v.drop 9)==0 with
        | false=>
         rw[show(rdE (v.drop 9)!=0)=true by unfold bne;rw[he];rfl,cT,cT]at ht
         rw[he,cF]at hok
         unfold ck;rw[hok]
         exact cI (congrArg ac ht) (.inr ⟨_,rfl⟩)
        | true=>
         rw[show(rdE (v.drop 9)!=0)=false by unfold bne;rw[he];rfl,cF,show((14:Int)==14)=true from rfl,cT]at ht
         rw[he,cT]at hok
         by_cases hz:(rdL (v.drop 9)).length=0
         . rw[hz]at ht hok
           have hok:okC 14 v=false:=hok
           unfold ck;rw[hok]
           exact cI (congrArg ac ht) (.inr ⟨_,rfl⟩)
         . rw[show(((rdL (v.drop 9)).length:Int)==0)=false by simp;intro e;exact hz (by rw[e];rfl),cF]at ht
           rw[dT0 (by omega)]at hok
           have hG:gC 14 v ⟨pb,cb,mb,d⟩=⟨pb,cb,mb,{dNx d (tkN v 4 4)with rch:=rdL (v.drop 9)}⟩:=by
            show(⟨pb,cb,mb,rcG v d⟩:Dz)=_
            unfold rcG dNx
            rw[bc q5 (Int.lt_of_lt_of_le q6 (by decide))]
           unfold ck;rw[hok,hG]
           exact kE (congrArg ac ht)
    . rw[dT0 (show((v.length - 3:Nat):Int) < 6 by omega),cT]at ht
      rw[dF h9,cF]at hok
      unfold ck;rw[hok]
      exact cI (congrArg ac ht) (.inl rfl)
 . rw[dT0 (show(v.length:Int) < 3 by omega),cT]at ht
   rw[dF (show ¬ 9<=v.length by omega),cF]at hok
   unfold ck;rw[hok]
   exact cI (congrArg ac ht) (.inl rfl)
end
end Go.Proofs.YtnlmhpancboddaaGreat
namespace Go.Proofs.YtnlmhpancboddaaGreat
open Go.Am
set_option maxRecDepth 100000
theorem wO{a b l:List SV}(h:CoL Tryz.prog a b):CoL Tryz.prog (a++l) (b++l):=by
 induction h with
 | nil=>exact .rfl'
 | cons h1 _ ih=>exact .cons h1 ih
theorem yd{k e:Nat}{rs a b l:List SV}(h:SemL Tryz.prog k e rs a b):SemL Tryz.prog k e rs (a++l) (b++l):=by
 induction h with
 | nil=>exact .rfl'
 | cons h1 _ ih=>exact .cons h1 ih
theorem sM(f:Nat->Bool):∀ (n i j:Nat),j < n->(mtL f n i).getD j .junk= .bool (f (i+j))
 | n+1,i,0,_=>rfl
 | n+1,i,j+1,h=>by
  show(mtL f n (i+1)).getD j .junk=_
  rw[sM f n (i+1) j (by omega),show i+1+j=i+(j+1)by omega]
theorem ye{f g:Nat->Bool}:∀ (n i:Nat),(∀ j,i<=j->j < i+n->f j=g j)->mtL f n i=mtL g n i
 | 0,_,_=>rfl
 | n+1,i,h=>by rw[mtL,mtL,h i (by omega) (by omega),ye n (i+1) (fun j h1 h2=>h j (by omega) (by omega))]
theorem wP(f:Nat->Bool):mtL (mtF (mtL f 256 0)) 256 0=mtL f 256 0:=ye 256 0 (fun j _ h=>by
 unfold mtF
 rw[sM f 256 0 j (by omega),Nat.zero_add];rfl)
section
variable {v:List SV} {pb cb mb:Bool} {d:Ds} {f:Nat->Bool} (hv:byl v) (hl:v.length<=5000)
include hv hl
theorem N8  :VGo (vB (aF   []) cD    ) 2 v ⟨true,cb,mb,d⟩ f (okC 2 v) (ck   2 v ⟨true,cb,mb,d⟩ f):=by
 have ht:=v_2 v true cb mb d f
 have hok:okC 2 v=j6 v:=rfl
 unfold j6 at hok
 by_cases h0:v.length=0
 . rw[show((v.length:Int)==0)=true by rw[h0];rfl,cT]at ht
   rw[show(v.length==0)=true by simpa using h0,cT]at hok
   have hG:gC 2 v ⟨true,cb,mb,d⟩=⟨false,cb,mb,{d with path:=[]}⟩:=by
    show(⟨false,cb,mb,ptG v d⟩:Dz)=_
    unfold ptG
    rw[show(v.length==0)=true by simpa using h0];rfl
   unfold ck;rw[hok,hG,cT]
   refine⟨_,_,congrArg ac ht,.inr ⟨.rfl',fun x c' hx=> ?_⟩⟩
   simp only[ad]at hx
   by_cases x0:x=0
   . subst x0;rw[if_pos rfl]at hx;cases hx
     exact⟨_,rfl,.cells (wO (.cons .rfl' (.cons .nils .rfl')))⟩
   . rw[if_neg x0]at hx;exact⟨c',hx,.rfl'⟩
 . rw[show((v.length:Int)==0)=false by simp;intro e;exact h0 (by rw[e];rfl),cF        ]at ht
   rw[show(v.length==0)=false by simpa using h0,cF]at hok
   by_cases h2:2<=v.length
   . obtain⟨q1,q2⟩:=hv.ok 1
     rw[dF (show ¬ (v.length:Int) < 2 by omega),cF,show inB 0 v.length=true by unfold inB;simp;omega,cT,show inB 1 v.length=true by unfold inB;simp;omega,cT,
      show w64 (dg v 1)=dg v 1 from ai (by omega) (by omega),show w64 (4 * dg v 1)=4 * dg v 1 from ai (by omega) (by omega),show w64 ((v.length:Int) - 2)=((v.length - 2:Nat):Int)by rw[show w64 ((v.length:Int) - 2)=(v.length:Int) - 2 from ai (by omega) (by omega)];omega]at ht
     rw[dT0 h2,cT]at hok
     cases hd:dg v 0 !=2 with
     | true=>
      rw[hd,cT]at ht
      rw[hd]at hok
      have hok:okC 2 v=false:=hok
      unfold ck;rw[hok]
      exact cI (congrArg ac ht) (.inl rfl)
     | false=>
      rw[hd,cF]at ht
      rw[hd,cF]at hok
      have hB:=pw (k:=v.length - 2) (by omega) (z:=4) (m:=32) (by omega)
      have hQ:elQ ((v.length - 2:Nat):Int) 4=(((v.length - 2) / 4:Nat):Int):=rJ _ (by omega) 4 (by omega)
      rw[hQ]at hok
      by_cases hm:4 * dg v 1=((v.length - 2:Nat):Int)
      . rw[show(4 * dg v 1 !=((v.length - 2:Nat):Int))=false by simpa using hm,cF,show frC v 2=frC v ((2:Nat):Int)from rfl,tv h2]at ht
        unfold liC at ht
        rw[dec_iff.2 ⟨hv.dropb 2,by rw[List.length_drop];omega,by omega,by omega⟩,cT,List.length_drop,show liB ((v.length - 2:Nat):Int) 32=_ from HX (k:=32) (by omega) (by omega)]at ht
        rw[show((((v.length - 2) / 4:Nat):Int)!=dg v 1)=false by simp;omega]at hok
        cases hb:elB ((v.length - 2:Nat):Int) 4 ((32:Nat):Int)with
        | false=>
         rw[hb]at ht
         rw[show elB ((v.length - 2:Nat):Int) 4 32=false from hb]at hok
         have hok:okC 2 v=false:=hok
         unfold ck;rw[hok]
         exact cI (congrArg ac ht) (.inr ⟨_,rfl⟩)
        | true=>
         rw[hb]at ht
         rw[show elB ((v.length - 2:Nat):Int) 4 32=true from hb]at hok
         have hok:okC 2 v=true:=hok
         have hG:gC 2 v ⟨true,cb,mb,d⟩=⟨false,cb,mb,{d with path:=wd (v.drop 2) 0 ((v.length - 2) / 4)}⟩:=by
          show(⟨false,cb,mb,ptG v d⟩:Dz)=_
          unfold ptG
          rw[show(v.length==0)=false by simpa using h0,cF,hQ,zi];rfl
         unfold ck;rw[hok,hG]
         exact kE (congrArg ac ht)
      . rw[show(4 * dg v 1 !=((v.length - 2:Nat):Int))=true by simpa using hm,cT]at ht
        have hok:okC 2 v=false:=by
         rw[hok]
         cases hb:elB ((v.length - 2:Nat):Int) 4 32 with
         | false=>rfl
         | true=>
          have:=hB.1 hb
          rw[show((((v.length - 2) / 4:Nat):Int)!=dg v 1)=true by simp;omega];rfl
        unfold ck;rw[hok]
        exact cI (congrArg ac ht) (.inl rfl)
   . rw[dT0 (show(v.length:Int) < 2 by omega),cT]at ht
     rw[dF h2,cF]at hok
     unfold ck;rw[hok]
     exact cI (congrArg ac ht) (.inl rfl)
theorem LX:VGo (vB T77 m77) 10 v ⟨pb,true,mb,d⟩ f (okC 10 v) (ck 10 v ⟨pb,true,mb,d⟩ f):=by
 have ht:=Oz v pb mb d f
 have hok:okC 10 v=elB (v.length:Int) 4 16:=rfl
 unfold liC at ht
 rw[dec_iff.2 ⟨hv,by omega,by omega,by omega⟩,cT,show liB (v.length:Int) 16=_ from HX (k:=16) (by omega) (by omega)]at ht
 have hX:∀ q,ylX q pb mb d (mtF (mtL f 256 0))=ylX q pb mb d f:=by intro q;unfold ylX rSx;rw[wP]
 have hA:ylA pb mb d f=ylA pb mb d (mtF (mtL f 256 0)):=by unfold ylA;rw[hX]
 cases hb:elB (v.length:Int) 4 ((16:Nat):Int)with
 | false=>
  rw[hb]at ht
  change _=ylL [] pb mb d f false at ht
  unfold ylL at ht
  rw[dF (show ¬ (0:Int) < (([]:List SV).length:Int)by simp),cF,dec_iff.2 hA,cT]at ht
  have hok:okC 10 v=false:=hok.trans hb
  unfold ck;rw[hok]
  exact cI (congrArg ac ht) (.inl rfl)
 | true=>
  have hB:=(pw (k:=v.length) (by omega) (z:=4) (m:=16) (by omega)).1 hb
  rw[hb]at ht
  change _=ylL (wd v 0 (v.length / 4)) pb mb d f true at ht
  unfold ylL at ht
  rw[fW,dT0 (by omega),cT,dec_iff.2 ⟨hA,trivial,by omega,by omega,by rw[fW];omega,by rw[fW];simp;omega⟩,cT]at ht
  have hw:wv (wd v 0 (v.length / 4)) 0=wd v 0 (v.length / 4):=DW _ _ _
  rw[hw]at ht
  have hok:okC 10 v=true:=hok.trans hb
  have hG:gC 10 v ⟨pb,true,mb,d⟩=⟨pb,false,mb,{d with cl:=wd v 0 (v.length / 4)}⟩:=rfl
  unfold ck;rw[hok,hG,cT]
  refine⟨_,_,congrArg ac ht,.inl ⟨1,37,wd v 0 (v.length / 4),rfl,.rfl',fun x c' hx=> ?_⟩⟩
  simp only[ad]at hx
  by_cases x0:x=0
  . subst x0;rw[if_pos rfl]at hx;cases hx
    exact⟨by decide,_,rfl,.cells (yd (.cons .rfl' (.cons .rfl' (.cons .rfl' (.cons .rfl' (.cons .rfl' (.cons .rfl' (.cons .rfl' (.cons .rfl' (.cons .rfl' (.cons (.qs (by rw[fW];unfold ylN;rw[fW];rfl)) .rfl')))))))))))⟩
  . rw[if_neg x0]at hx
    have x1:x≠1:=by rintro rfl;cases hx
    exact⟨x1,c',by simp only[ad,x0,x1,if_false];exact hx,.rfl'⟩
omit hv in
theorem LY   :VGo (vB T77 m77) 16 v ⟨pb,cb,true,d⟩ f (okC 16 v) (ck   16 v ⟨pb,cb,true,d⟩ f):=by
 have ht:=OA v pb cb d f
 have hok:okC 16 v=elB (v.length:Int) 8 64:=rfl
 have hX:∀ q,ymX q pb cb d (mtF (mtL f 256 0))=ymX q pb cb d f:=by intro q;unfold ymX rSx;rw[wP]
 have hA:ymA pb cb d f=ymA pb cb d (mtF (mtL f 256 0)):=by unfold ymA;rw[hX]
 have hB:=pw (k:=v.length) (by omega) (z:=8) (m:=64) (by omega)
 have no:(v.length=0\/v.length % 8≠0\/v.length > 512)->okC 16 v=false:=by
  intro h
  rw[hok]
  cases hb:elB (v.length:Int) 8 64 with
  | false=>rfl
  | true=>have:=hB.1 hb;omega
 rw[Int.tmod_eq_emod_of_nonneg (by omega)]at ht
 by_cases h0:v.length=0
 . rw[show((v.length:Int)==0)=true by rw[h0];rfl,cT]at ht
   unfold ck;rw[no (.inl h0)]
   exact cI (congrArg ac ht) (.inl rfl)
 . rw[show((v.length:Int)==0)=false by simp;intro e;exact h0 (by rw[e];rfl),cF        ]at ht
   by_cases h8:v.length % 8=0
   . rw[show((v.length:Int) % 8 !=0)=false by simp;omega,cF        ]at ht
     by_cases h5:v.length > 512
     . rw[dT0 (show(v.length:Int) > 512 by omega),cT]at ht
       unfold ck;rw[no (.inr (.inr h5))]
       exact cI (congrArg ac ht) (.inl rfl)
     . rw[dF (show ¬ (v.length:Int) > 512 by omega),cF]at ht
       unfold ymL at ht
       rw[dT0 (by omega),cT,dec_iff.2 ⟨hA,by simpa using h8,by omega,by omega,by omega,by simp;omega⟩,cT]at ht
       have hok:okC 16 v=true:=hok.trans (hB.2 ⟨by omega,by omega,by omega⟩)
       have hG:gC 16 v ⟨pb,cb,true,d⟩=⟨pb,cb,false,{d with cm:=cw v 0 (v.length / 8)}⟩:=rfl
       have hw:cv v 0=cw v 0 (v.length / 8):=rfl
       rw[hw]at ht
       unfold ck;rw[hok,hG,cT]
       refine⟨_,_,congrArg ac ht,.inl ⟨1,136,cw v 0 (v.length / 8),rfl,.rfl',fun x c' hx=> ?_⟩⟩
       simp only[ad]at hx
       by_cases x0:x=0
       . subst x0;rw[if_pos rfl]at hx;cases hx
         exact⟨by decide,_,rfl,.cells (yd (.cons .rfl' (.cons .rfl' (.cons .rfl' (.cons .rfl' (.cons .rfl' (.cons .rfl' (.cons .rfl' (.cons .rfl' (.cons .rfl' (.cons .rfl' (.cons (.qs (by rw[sS];rfl)) .rfl'))))))))))))⟩
       . rw[if_neg x0]at hx
         have x1:x≠1:=by rintro rfl;cases hx
         exact⟨x1,c',by simp only[ad,x0,x1,if_false];exact hx,.rfl'⟩
   . rw[show((v.length:Int) % 8 !=0)=true by simp;omega,cT]at ht
     unfold ck;rw[no (.inr (.inl h8))]
     exact cI (congrArg ac ht) (.inl rfl)
theorem LZ   :VGo (vB (aF   []) cD    ) 22 v ⟨pb,cb,mb,d⟩ f (okC 22 v) (ck   22 v ⟨pb,cb,mb,d⟩ f):=by
 have ht:=NR v pb cb mb d f
 have hok:okC 22 v=kA v:=rfl
 unfold kA at hok
 obtain⟨q1,q2⟩:=hv.ok 1
 have eY:1<=v.length->∀ K,tuY v K=K (dg v 0 !=0):=by
  intro h K
  unfold tuY
  rw[show inB 0 v.length=true by unfold inB;simp;omega];rfl
 have eA:∀ (L:Nat) (k:Int),v.length=L->2<=L->∀ K,tuA v L k K=K (dg v 1==k):=by
  intro L k h h2 K
  unfold tuA
  rw[show((v.length:Int)==(L:Int))=true by rw[h];simp,show inB 1 v.length=true by unfold inB;simp;omega];rfl
 have eN:∀ (L:Nat) (k:Int),v.length≠L->∀ K,tuA v L k K=K false:=by
  intro L k h K
  unfold tuA
  rw[show((v.length:Int)==(L:Int))=false by simp;omega];rfl
 have inb:2<=v.length->inB 1 v.length=true:=by intro h;unfold inB;simp;omega
 have e14:v.length≠13->∀ K,tuA v 13 3 K=K false:=eN 13 3
 have e13:v.length=13->∀ K,tuA v 13 3 K=K (dg v 1==3):=fun h=>eA 13 3 h (by omega)
 have e10:v.length≠9->∀ K,tuA v 9 6 K=K false:=eN 9 6
 have e9:v.length=9->∀ K,tuA v 9 6 K=K (dg v 1==6):=fun h=>eA 9 6 h (by omega)
 by_cases h13:v.length=13
 . rw[e13 h13,e10 (by omega)]at ht
   rw[dT0 h13,dF (show ¬ v.length=9 by omega)]at hok
   cases h3:dg v 1==3 with
   | false=>
    rw[h3]at ht hok
    have hok:okC 22 v=false:=by rw[hok];cases dg v 0==0 <;> cases dg v 1==6 <;> rfl
    unfold ck;rw[hok]
    exact cI (congrArg ac ht) (.inl rfl)
   | true=>
    rw[h3]at ht hok
    rw[show ∀ K,tuR v true false K=tuY v K from fun _=>rfl,eY (by omega)]at ht
    cases hz:dg v 0==0 with
    | false=>
     rw[show(dg v 0 !=0)=true by unfold bne;rw[hz];rfl,cT]at ht
     rw[hz,cF]at hok
     unfold ck;rw[hok]
     exact cI (congrArg ac ht) (.inl rfl)
    | true=>
     rw[show(dg v 0 !=0)=false by unfold bne;rw[hz];rfl,cF,inb (by omega),cT]at ht
     rw[hz,cT,cT]at hok
     unfold ytC at ht
     obtain⟨r1,r2⟩:=aX hv.ok 2 3
     obtain⟨r3,r4⟩:=aX hv.ok 5 4
     obtain⟨r5,r6⟩:=aX hv.ok 9 4
     rw[dec_iff.2 ⟨hv,by omega,by omega,by omega,by decide⟩,cT,dec_iff.2 ⟨hv,by omega,by omega,by omega,by decide⟩,cT,cT,dec_iff.2 ⟨hv,by omega,by omega,by omega,by decide⟩,cT,
      show w64 (dg v 1)=dg v 1 from ai (by omega) (by omega),bc r1 (Int.lt_trans r2 (by decide)),bc r3 (Int.lt_of_lt_of_le r4 (by decide)),bc r5 (Int.lt_of_lt_of_le r6 (by decide))]at ht
     have hG:gC 22 v ⟨pb,cb,mb,d⟩=⟨pb,cb,mb,dT d (dg v 1) (tkN v 2 3) (tkN v 5 4) (tkN v 9 4)⟩:=by
      show(⟨pb,cb,mb,tnG v d⟩:Dz)=_
      unfold tnG;rw[h3];rfl
     unfold ck;rw[hok,hG]
     exact kE (congrArg ac ht)
 . rw[dF              h13]at hok
   rw[e14 h13]at ht
   by_cases h9:v.length=9
   . rw[e9 h9]at ht
     rw[dT0 h9]at hok
     cases h6:dg v 1==6 with
     | false=>
      rw[h6]at ht hok
      have hok:okC 22 v=false:=by rw[hok];cases dg v 0==0 <;> cases dg v 1==3 <;> rfl
      unfold ck;rw[hok]
      exact cI (congrArg ac ht) (.inl rfl)
     | true=>
      have h3 : (dg v 1 == 3) = false := by have : dg v 1 = 6 := by simpa using h6
                                            rw[this];rfl
      rw[h6]at ht hok
      rw[h3]at hok
      rw[show ∀ K,tuR v false true K=tuY v K from fun _=>rfl,eY (by omega)]at ht
      cases hz:dg v 0==0 with
      | false=>
       rw[show(dg v 0 !=0)=true by unfold bne;rw[hz];rfl,cT]at ht
       rw[hz,cF]at hok
       unfold ck;rw[hok]
       exact cI (congrArg ac ht) (.inl rfl)
      | true=>
       rw[show(dg v 0 !=0)=false by unfold bne;rw[hz];rfl,cF,inb (by omega),cT]at ht
       rw[hz,cT,cF,cT]at hok
       unfold ytC at ht
       obtain⟨r1,r2⟩:=aX hv.ok 2 3
       obtain⟨r3,r4⟩:=aX hv.ok 5 4
       rw[dec_iff.2 ⟨hv,by omega,by omega,by omega,by decide⟩,cT,dec_iff.2 ⟨hv,by omega,by omega,by omega,by decide⟩,cT,cF,
        show w64 (dg v 1)=dg v 1 from ai (by omega) (by omega),bc r1 (Int.lt_trans r2 (by decide)),bc r3 (Int.lt_of_lt_of_le r4 (by decide))]at ht
       have hG:gC 22 v ⟨pb,cb,mb,d⟩=⟨pb,cb,mb,dT d (dg v 1) (tkN v 2 3) (tkN v 5 4) 0⟩:=by
        show(⟨pb,cb,mb,tnG v d⟩:Dz)=_
        unfold tnG;rw[h3];rfl
       unfold ck;rw[hok,hG]
       exact kE (congrArg ac ht)
   . rw[e10 h9]at ht
     rw[dF h9]at hok
     have hok:okC 22 v=false:=by rw[hok];cases dg v 0==0 <;> cases dg v 1==3 <;> cases dg v 1==6 <;> rfl
     unfold ck;rw[hok]
     exact cI (congrArg ac ht) (.inl rfl)
end
end Go.Proofs.YtnlmhpancboddaaGreat
