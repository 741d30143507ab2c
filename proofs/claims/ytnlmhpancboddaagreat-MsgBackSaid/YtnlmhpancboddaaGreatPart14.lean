/- Attributes' values, as the program writes them: no loops. -/
import Derived.Test.YtnlmhpancboddaaGreatPart13
import Derived.Test.YtnlmhpancboddaaGreatMachine6
set_option linter.unusedVariables false
set_option linter.unusedSimpArgs false
namespace Go.Proofs.YtnlmhpancboddaaGreat
open Go.Am
set_option maxRecDepth 100000
def dCW(a:At)(kr ku:Nat):List SV:=[.int .i64 a.ori,.psl 36 a.path,.int .u32 a.nx,.bool a.hm,.int .u32 a.med,.bool a.hp,.int .u32 a.prf,.bool a.ho,.int .u32 a.orr,.psl 37 a.cl,.psl 136 a.cm,.int .i64 a.tk,.int .u32 a.tl,.int .u32 a.tr,.int .u32 a.tg,.qs 1 1 0 kr,.qs 2 1 0 ku]
def dH(a:At)(R U:List SV)(kr ku m:Nat)(es:List SV):HpL:=[(0,.cells 142 (dCW a kr ku)),(1,.seq 5 R),(2,.seq 5 U),(3,.cells 111 [.qs 4 1 0 m,.int .i64 65535,.mp 5]),(4,.seq 5 es),(5,.mpc [] [])]
def ik:List SV:=[.ptr 0 0,.agg [.ptr 3 0]]
noncomputable abbrev κwW:=tbl [(27,dA 1),(26,dA 2),(108,dA 3),(41,dA 4),(24,gy),(28,kz)]
theorem wOk:KOk Tryz.prog κwW:=ac EL (ac ya (ac Hp (ac Bp (ac oC (ac rA ok0)))))
def Wc(k:Nat)(n:Int)(m:Nat)(es:List SV)(K:CTree):CTree:=bif decide (m=es.length/\0<=n/\n < 256 ^ k/\((es.length+k:Nat):Int)<=65535/\(65535:Int)<=65536)then K else .fail
theorem fE{k:Nat}{n:Int}{m:Nat}{es:List SV}{K:CTree}(h0:m=es.length)(h1:0<=n)(h2:n < 256 ^ k)(h3:es.length+k<=65535):Wc k n m es K=K:=by
 unfold Wc;rw[dT0 ⟨h0,h1,h2,by omega,by omega⟩];rfl
def jQ(w:Bool)(n:Nat)(xs:List SV):CTree:=.ret (.tup [.bool w,.int .i64 0]) [(3,some (.cells 111 [.qs 6 1 0 n,.int .i64 65535,.mp 5])),(4,none),(6,some (.seq 5 xs))]
abbrev w6(n:Int):Int:=IntKind.u64.wrap n
theorem cf{n:Int}(h0:0<=n)(h1:n < 18446744073709551616):w6 n=n:=by
 simp[w6,IntKind.wrap,IntKind.bits,IntKind.signed];omega
def fam:List SV:=be 6470 3
def lw(a:At)(R:List SV):List SV:=[]++fam++be 4 1++be (w6 a.nx) 4++be 0 1++R
def jR(U:List SV):List SV:=[]++fam++U
def gR(a:At):List SV:=[]++be 0 1++be (w6 a.tk) 1++be (w6 a.tl) 3++be (w6 a.tr) 4
def GY(a:At):List SV:=gR a++be (w6 a.tg) 4
def mP(a:At):List SV:=bif a.tk==3 then GY a else gR a
theorem M5(a:At)(R U:List SV)(kr ku:Nat):opn κwW Tryz.f84 ik (dH a R U kr ku 0 [])=Wc 1 (w6 a.ori) 0 [] (jQ (decide ((kr:Int) > 0)) 1 (be (w6 a.ori) 1)):=by kernel_rfl
theorem M6(a:At)(R U:List SV)(kr ku:Nat):opn κwW Tryz.f86 ik (dH a R U kr ku 0 [])=Wc 4 (w6 a.med) 0 [] (jQ a.hm 4 (be (w6 a.med) 4)):=by kernel_rfl
theorem M7(a:At)(R U:List SV)(kr ku:Nat):opn κwW Tryz.f87 ik (dH a R U kr ku 0 [])=Wc 4 (w6 a.prf) 0 [] (jQ a.hp 4 (be (w6 a.prf) 4)):=by kernel_rfl
theorem M8(a:At)(R U:List SV)(kr ku:Nat):opn κwW Tryz.f88 ik (dH a R U kr ku 0 [])=Wc 4 (w6 a.orr) 0 [] (jQ a.ho 4 (be (w6 a.orr) 4)):=by kernel_rfl
theorem M9(a:At)(R U:List SV)(kr ku:Nat):opn κwW Tryz.f90 ik (dH a R U kr ku 0 [])=Wc 4 (w6 a.nx) (([]++fam).length+1) ([]++fam++be 4 1)
   (bif decide (kr=R.length)then bif decide (([]++fam++be 4 1++be (w6 a.nx) 4).length+1=([]++fam++be 4 1++be (w6 a.nx) 4++be 0 1).length/\((([]++fam++be 4 1++be (w6 a.nx) 4++be 0 1).length+R.length:Nat):Int)<=65535/\(65535:Int)<=65536)then
    jQ (decide ((kr:Int) > 0)) (([]++fam++be 4 1++be (w6 a.nx) 4++be 0 1).length+R.length) (lw a R)else .fail else .fail):=by kernel_rfl
theorem Na(a:At)(R U:List SV)(kr ku:Nat):opn κwW Tryz.f91 ik (dH a R U kr ku 0 [])=
   (bif decide (ku=U.length)then bif decide (([]:List SV).length+3=([]++fam).length/\((([]++fam).length+U.length:Nat):Int)<=65535/\(65535:Int)<=65536)then
    jQ (bif decide ((ku:Int) > 0)then true else(kr:Int)==0) (([]++fam).length+U.length) (jR U)else .fail else .fail):=by kernel_rfl
theorem Nb(a:At)(R U:List SV)(kr ku:Nat):opn κwW Tryz.f93 ik (dH a R U kr ku 0 [])=Wc 1 (w6 a.tk) (([]:List SV).length+1) ([]++be 0 1) (Wc 3 (w6 a.tl) (([]++be 0 1).length+1) ([]++be 0 1++be (w6 a.tk) 1) (Wc 4 (w6 a.tr) (([]++be 0 1++be (w6 a.tk) 1).length+3) ([]++be 0 1++be (w6 a.tk) 1++be (w6 a.tl) 3)
   (bif a.tk==3 then Wc 4 (w6 a.tg) (([]++be 0 1++be (w6 a.tk) 1++be (w6 a.tl) 3).length+4) (gR a) (jQ (a.tk !=0) 13 (GY a))else jQ (a.tk !=0) 9 (gR a)))):=by kernel_rfl
noncomputable def okW(l:List SV):Bool:=Classical.propDecidable (∀ k:Nat,0<=asI (l.getD k .junk)/\asI (l.getD k .junk) < 4294967296) |>.decide
noncomputable def lpT(m:Nat)(es xs:List SV)(more ok:Bool):CTree:=
 .ite (decide (m=es.length)&&ok) (.ite more (.ret (.tup [.int .i64 2]) [(1,some (.cells 111 [.qs 4 1 0 (es.length+xs.length),.int .i64 65535,.mp 3])),(2,none),(4,some (.seq 5 (es++xs)))]) (.ret (.tup [.int .i64 2]) [])) .fail
noncomputable def wLs(T:Nat):ag
 | [.psl T' l,.int .i64 n,.int .i64 i,.ptr 0 0],[(0,.cells 173 [.ptr 1 0]),(1,.cells 111 [.qs 2 1 0 m,.int .i64 65535,.mp 3]),(2,.seq 5 es),(3,.mpc [] [])]=>
  bif Nat.beq T T' then lpT m es (wds (lft n i) l i) (decide (i < n)) (decide (n=l.length)&&hO l i (m+4 * lft n i)&&okW l)else .fail
 | _,_=>.fail
def wM:List SV->HpL->Nat
 | [_,.int _ n,.int _ i,_],_=>lft n i
 | _,_=>0
noncomputable def Cm:Code:=Tryz.f85.body.getD .skip
noncomputable def c37:Code:=(bx 5 Cm).getD .skip
noncomputable def e37:LEnt:={ins:=[32,33,34,3],outs:=[],keep:=[0],size:=50,code:=c37,s:=wLs 36}
noncomputable def Cn:Code:=Tryz.f89.body.getD .skip
noncomputable def c41:Code:=(bx 2 Cn).getD .skip
noncomputable def e41:LEnt:={ins:=[12,13,14,3],outs:=[],keep:=[0],size:=31,code:=c41,s:=wLs 37}
noncomputable abbrev κwo:=bt Tryz.prog κwW 300 5
noncomputable abbrev ιwW:Nat->Bool:=fun g=>inl κwW g&&bJ Tryz.prog g
def lpE(n:Nat)(xs:List SV):CTree:=.ret (.tup [.int .i64 2]) [(1,some (.cells 111 [.qs 4 1 0 n,.int .i64 65535,.mp 3])),(2,none),(4,some (.seq 5 xs))]
noncomputable def uV(N:Nat)(l:List SV)(n i:Int)(m:Nat)(ys:List SV):CTree:=
 bif Nat.blt (lft n i) N then bif decide (m=ys.length)&&(decide (n=l.length)&&hO l i (m+4 * lft n i)&&okW l)then bif decide (i < n)then lpE (ys.length+(wds (lft n i) l i).length) (ys++wds (lft n i) l i)else lpE m ys else .fail else .fail
theorem FB(N:Nat)(l:List SV)(n i:Int)(m:Nat)(es:List SV):ay Tryz.prog κwo ιwW (aL []) true 300 e37 {e37 with s:=az wM (wLs 36) N} c37 [.psl 36 l,.int .i64 n,.int .i64 i,.ptr 0 0] [(0,.cells 173 [.ptr 1 0]),(1,.cells 111 [.qs 2 1 0 m,.int .i64 65535,.mp 3]),(2,.seq 5 es),(3,.mpc [] [])]=
 bif decide (i < n)then bif inB i l.length then Wc 4 (w6 (asI (l.getD i.toNat .junk))) m es (uV N l n (IntKind.i64.wrap (i+1)) (es.length+4) (es++wdB l i))else .fail else .ret (.tup [.int .i64 2]) []:=by kernel_rfl
theorem FC(N:Nat)(l:List SV)(n i:Int)(m:Nat)(es:List SV):ay Tryz.prog κwo ιwW (aL []) true 300 e41 {e41 with s:=az wM (wLs 37) N} c41 [.psl 37 l,.int .i64 n,.int .i64 i,.ptr 0 0] [(0,.cells 173 [.ptr 1 0]),(1,.cells 111 [.qs 2 1 0 m,.int .i64 65535,.mp 3]),(2,.seq 5 es),(3,.mpc [] [])]=
 bif decide (i < n)then bif inB i l.length then Wc 4 (w6 (asI (l.getD i.toNat .junk))) m es (uV N l n (IntKind.i64.wrap (i+1)) (es.length+4) (es++wdB l i))else .fail else .ret (.tup [.int .i64 2]) []:=by kernel_rfl
theorem okW_iff{l:List SV}:okW l=true↔∀ k:Nat,0<=asI (l.getD k .junk)/\asI (l.getD k .junk) < 4294967296:=by
 unfold okW;exact @decide_eq_true_iff _ (Classical.propDecidable _)
theorem Co{N:Nat}{l:List SV}{n i:Int}{ys:List SV}(h1:lft n i < N)(h2:(decide (n=l.length)&&hO l i (ys.length+4 * lft n i)&&okW l)=true):
  uV N l n i ys.length ys=lpE (ys.length+(wds (lft n i) l i).length) (ys++wds (lft n i) l i):=by
 have hb:Nat.blt (lft n i) N=true:=by rw[bL];exact h1
 unfold uV
 rw[hb,h2,dT0 rfl]
 by_cases hlt:i < n
 . rw[dT0 hlt];rfl
 . rw[dF0 hlt,lL hlt]
   simp[wds]
theorem Md  (T:Nat){c:Code}{e:LEnt} (hr:∀ (N:Nat) (l:List SV) (n i:Int) (m:Nat) (es:List SV),ay       Tryz.prog κwo ιwW (aL   []) true 300 e {e with s:=az     wM (wLs T) N} c [.psl T l,.int .i64 n,.int .i64 i,.ptr 0 0] [(0,.cells 173 [.ptr 1 0]),(1,.cells 111 [.qs 2 1 0 m,.int .i64 65535,.mp 3]),(2,.seq 5 es),(3,.mpc [] [])]=
 bif decide (i < n)then bif inB i l.length then Wc 4 (w6 (asI (l.getD i.toNat .junk))) m es (uV N l n (IntKind.i64.wrap (i+1)) (es.length+4) (es++wdB l i))else .fail else .ret (.tup [.int .i64 2]) []):
  ∀ (N:Nat) args H r,Nat.blt (wM args H) (N+1)=true->ae (wLs T args H)=some r->ae (ay Tryz.prog κwo ιwW (aL []) true 300 e {e with s:=az wM (wLs T) N} c args H)=some r:=by
 intro N args H r hb hr'
 unfold wLs at hr'
 split at hr'
 . rename_i T' l n i m es
   rw[bu]at hr'
   cases hT:Nat.beq T T' with
   | false=>rw[hT]at hr';cases hr'
   | true=>
   have hT:=nE hT
   subst hT
   rw[fK rfl,cT,lpT,aa,aa]at hr'
   cases hc:(decide (m=es.length)&&(decide (n=l.length)&&hO l i (m+4 * lft n i)&&okW l))with
   | false=>rw[hc]at hr';cases hr'
   | true=>
    rw[hc,cT]at hr'
    have hc':=hc
    rw[bA,decide_eq_true_eq,bA,bA,decide_eq_true_eq]at hc'
    obtain⟨rfl,⟨rfl,hi⟩,ho⟩:=hc'
    obtain⟨h0,h1,h2,h3⟩:=invW_iff.1 hi
    have hb':lft l.length i < N+1:=by
     have:Nat.blt (lft l.length i) (N+1)=true:=hb
     rwa [bL]at this
    rw[hr,<- hr']
    by_cases hlt:i < l.length
    . have hs:=jo hlt
      have hw:IntKind.i64.wrap (i+1)=i+1:=am (by omega) (by omega)
      have hin:inB i l.length=true:=by unfold inB;simp;omega
      obtain⟨g0,g1⟩:=okW_iff.1 ho i.toNat
      have hi2:(decide ((l.length:Int)=l.length)&&hO l (i+1) ((es++wdB l i).length+4 * lft l.length (i+1))&&okW l)=true:=by
       rw[bA,bA]
       exact⟨⟨dT0 rfl,invW_iff.2 ⟨by omega,by omega,h2,by rw[lA0,s8];omega⟩⟩,ho⟩
      rw[dT0 hlt,hin,hw,cT,cT,cT,fE rfl (by rw[cf g0 (by omega)];exact g0) (by rw[cf g0 (by omega)];exact g1) (by omega),show es.length+4=(es++wdB l i).length by rw[lA0,s8],Co (by omega) hi2,hs]
      simp[wds,lpE,Nat.add_assoc]
    . rw[dF0 hlt];rfl
 . cases hr'
theorem Al:aR Tryz.prog e37:=ct (κ:=κwo) (ι:=ιwW) (T:=aL []) (sp:=true) (fuel:=300) (c:=c37) (μ:=wM) (aG ap ax wOk 300 5) ax aE (show aM (aL []) c37=c37 by kernel_rfl) (Md 36 FB)
theorem Ao:aR Tryz.prog e41:=ct (κ:=κwo) (ι:=ιwW) (T:=aL []) (sp:=true) (fuel:=300) (c:=c41) (μ:=wM) (aG ap ax wOk 300 5) ax aE (show aM (aL []) c41=c41 by kernel_rfl) (Md 37 FC)
def cmB(l:List SV)(i:Int):List SV:=[.int .u8 (asI (ar (l.getD i.toNat .junk) 0)),.int .u8 (asI (ar (l.getD i.toNat .junk) 1)),.int .u8 (asI (ar (l.getD i.toNat .junk) 2)),.int .u8 (asI (ar (l.getD i.toNat .junk) 3)),.int .u8 (asI (ar (l.getD i.toNat .junk) 4)),.int .u8 (asI (ar (l.getD i.toNat .junk) 5)),.int .u8 (asI (ar (l.getD i.toNat .junk) 6)),.int .u8 (asI (ar (l.getD i.toNat .junk) 7))]
def gp:Nat->List SV->Int->List SV
 | 0,_,_=>[]
 | k+1,l,i=>cmB l i++gp k l (i+1)
noncomputable def Nj(m:Nat)(es xs:List SV)(more ok:Bool):CTree:=
 .ite (decide (m=es.length)&&ok) (.ite more (.ret (.tup [.int .i64 2]) [(2,none),(1,some (.cells 111 [.qs 4 1 0 (es.length+xs.length),.int .i64 65535,.mp 3])),(4,some (.seq 5 (es++xs)))]) (.ret (.tup [.int .i64 2]) [])) .fail
def G9(n:Nat)(xs:List SV):CTree:=.ret (.tup [.int .i64 2]) [(2,none),(1,some (.cells 111 [.qs 4 1 0 n,.int .i64 65535,.mp 3])),(4,some (.seq 5 xs))]
noncomputable def cLs:ag
 | [.psl 136 l,.int .i64 n,.int .i64 i,.ptr 0 0],[(0,.cells 173 [.ptr 1 0]),(1,.cells 111 [.qs 2 1 0 m,.int .i64 65535,.mp 3]),(2,.seq 5 es),(3,.mpc [] [])]=>
  Nj m es (gp (lft n i) l i) (decide (i < n)) (decide (n=l.length)&&hO l i (m+8 * lft n i))
 | _,_=>.fail
noncomputable def Eu:Code:=Tryz.f92.body.getD .skip
noncomputable def c44:Code:=(bx 2 Eu).getD .skip
noncomputable def e44:LEnt:={ins:=[12,13,14,3],outs:=[],keep:=[0],size:=30,code:=c44,s:=cLs}
noncomputable def Ev(N:Nat)(l:List SV)(n i:Int)(m:Nat)(ys:List SV):CTree:=
 bif Nat.blt (lft n i) N then bif decide (m=ys.length)&&(decide (n=l.length)&&hO l i (m+8 * lft n i))then bif decide (i < n)then G9 (ys.length+(gp (lft n i) l i).length) (ys++gp (lft n i) l i)else G9 m ys else .fail else .fail
theorem Ha(N:Nat)(l:List SV)(n i:Int)(m:Nat)(es:List SV):ay Tryz.prog κwo ιwW (aL []) true 300 e44 {e44 with s:=az wM cLs N} c44 [.psl 136 l,.int .i64 n,.int .i64 i,.ptr 0 0] [(0,.cells 173 [.ptr 1 0]),(1,.cells 111 [.qs 2 1 0 m,.int .i64 65535,.mp 3]),(2,.seq 5 es),(3,.mpc [] [])]=
 bif decide (i < n)then bif inB i l.length then bif decide (m=es.length/\((es.length+(cmB l i).length:Nat):Int)<=65535/\(65535:Int)<=65536)then Ev N l n (IntKind.i64.wrap (i+1)) (es.length+(cmB l i).length) (es++cmB l i)else .fail else .fail else .ret (.tup [.int .i64 2]) []:=by kernel_rfl
theorem qW(l:List SV):∀ (k:Nat) (i:Int),(gp k l i).length=8 * k
 | 0,_=>rfl
 | k+1,i=>by rw[gp,lA0,qW l k];simp[cmB];omega
theorem Ew{N:Nat}{l:List SV}{n i:Int}{ys:List SV}(h1:lft n i < N)(h2:(decide (n=l.length)&&hO l i (ys.length+8 * lft n i))=true):
  Ev N l n i ys.length ys=G9 (ys.length+(gp (lft n i) l i).length) (ys++gp (lft n i) l i):=by
 have hb:Nat.blt (lft n i) N=true:=by rw[bL];exact h1
 unfold Ev
 rw[hb,h2,dT0 rfl]
 by_cases hlt:i < n
 . rw[dT0 hlt];rfl
 . rw[dF0 hlt,lL hlt]
   simp[gp]
theorem A7       :aR     Tryz.prog e44:=ct         (κ:=κwo) (ι:=ιwW) (T:=aL   []) (sp:=true) (fuel:=300) (c:=c44) (μ:=wM) (aG       ap       ax     wOk 300 5) ax     aE       (show aM    (aL   []) c44=c44 by kernel_rfl) (by
 intro N args H r hb hr0
 have hr':ae (cLs args H)=some r:=hr0
 unfold cLs at hr'
 split at hr'
 . rename_i l n i m es
   rw[Nj,aa,aa]at hr'
   cases hc:(decide (m=es.length)&&(decide (n=l.length)&&hO l i (m+8 * lft n i)))with
   | false=>rw[hc]at hr';cases hr'
   | true=>
    rw[hc,cT]at hr'
    have hc':=hc
    rw[bA,decide_eq_true_eq,bA,decide_eq_true_eq]at hc'
    obtain⟨rfl,rfl,hi⟩:=hc'
    obtain⟨h0,h1,h2,h3⟩:=invW_iff.1 hi
    have hb':lft l.length i < N+1:=by
     have:Nat.blt (lft l.length i) (N+1)=true:=hb
     rwa [bL]at this
    refine(congrArg ae (Ha N l l.length i es.length es)).trans ?_
    rw[<- hr']
    by_cases hlt:i < l.length
    . have hs:=jo hlt
      have hw:IntKind.i64.wrap (i+1)=i+1:=am (by omega) (by omega)
      have hin:inB i l.length=true:=by unfold inB;simp;omega
      have hcl:(cmB l i).length=8:=rfl
      have hi2:(decide ((l.length:Int)=l.length)&&hO l (i+1) ((es++cmB l i).length+8 * lft l.length (i+1)))=true:=by
       rw[bA]
       exact⟨dT0 rfl,invW_iff.2 ⟨by omega,by omega,h2,by rw[lA0,hcl];omega⟩⟩
      rw[dT0 hlt,hin,hw,cT,cT,cT,dT0 ⟨rfl,by rw[hcl];omega,by omega⟩,cT,<- lA0,Ew (by omega) hi2,hs]
      simp[gp,G9,Nat.add_assoc]
    . rw[dF0 hlt];rfl
 . cases hr')
noncomputable abbrev T37:cQ:=aL [("w",e37)]
noncomputable def m37:Code:=bF [(5, "w")] Cm
theorem IL:Tryz.f85.body=some (aM T37 m37):=by kernel_rfl
noncomputable abbrev Hr:ag:=bV Tryz.prog κwo ιwW T37 true 300 Tryz.f85 m37
noncomputable abbrev T41:cQ:=aL [("w",e41)]
noncomputable def m41:Code:=bF [(2, "w")] Cn
theorem IM:Tryz.f89.body=some (aM T41 m41):=by kernel_rfl
noncomputable abbrev Hs:ag:=bV Tryz.prog κwo ιwW T41 true 300 Tryz.f89 m41
noncomputable abbrev T44:cQ:=aL [("w",e44)]
noncomputable def m44:Code:=bF [(2, "w")] Eu
theorem IN:Tryz.f92.body=some (aM T44 m44):=by kernel_rfl
noncomputable abbrev Ht:ag:=bV Tryz.prog κwo ιwW T44 true 300 Tryz.f92 m44
theorem LL(a:At)(R U:List SV)(kr ku:Nat):Hr ik (dH a R U kr ku 0 [])=
 bif decide ((a.path.length:Int) > 0)then Wc 1 (w6 a.path.length) (([]:List SV).length+1) ([]++be 2 1) (bif decide ((([]:List SV)++be 2 1).length+1=(([]:List SV)++be 2 1++be (w6 a.path.length) 1).length)&&(decide ((a.path.length:Int)=a.path.length)&&hO a.path 0 ((([]:List SV)++be 2 1).length+1+4 * lft a.path.length 0)&&okW a.path)then
  bif decide (0 < (a.path.length:Int))then jQ (decide ((kr:Int) > 0)) ((([]:List SV)++be 2 1++be (w6 a.path.length) 1).length+(wds (lft a.path.length 0) a.path 0).length) ((([]:List SV)++be 2 1++be (w6 a.path.length) 1)++wds (lft a.path.length 0) a.path 0)
  else jQ (decide ((kr:Int) > 0)) 2 (([]:List SV)++be 2 1++be (w6 a.path.length) 1)else .fail)
 else bif decide (0=([]:List SV).length)&&(decide ((a.path.length:Int)=a.path.length)&&hO a.path 0 (0+4 * lft a.path.length 0)&&okW a.path)then
  bif decide (0 < (a.path.length:Int))then .ret (.tup [.bool (decide ((kr:Int) > 0)),.int .i64 0]) [(4,none),(3,some (.cells 111 [.qs 6 1 0 (([]:List SV).length+(wds (lft a.path.length 0) a.path 0).length),.int .i64 65535,.mp 5])),(6,some (.seq 5 ([]++wds (lft a.path.length 0) a.path 0)))]
  else .ret (.tup [.bool (decide ((kr:Int) > 0)),.int .i64 0]) []else .fail:=by kernel_rfl
theorem LM(a:At)(R U:List SV)(kr ku:Nat):Hs ik (dH a R U kr ku 0 [])=
 bif decide (0=([]:List SV).length)&&(decide ((a.cl.length:Int)=a.cl.length)&&hO a.cl 0 (0+4 * lft a.cl.length 0)&&okW a.cl)then
  bif decide (0 < (a.cl.length:Int))then .ret (.tup [.bool (decide ((a.cl.length:Int) > 0)),.int .i64 0]) [(4,none),(3,some (.cells 111 [.qs 6 1 0 (([]:List SV).length+(wds (lft a.cl.length 0) a.cl 0).length),.int .i64 65535,.mp 5])),(6,some (.seq 5 ([]++wds (lft a.cl.length 0) a.cl 0)))]
  else .ret (.tup [.bool (decide ((a.cl.length:Int) > 0)),.int .i64 0]) []else .fail:=by kernel_rfl
theorem LN(a:At)(R U:List SV)(kr ku:Nat):Ht ik (dH a R U kr ku 0 [])=
 bif decide (0=([]:List SV).length)&&(decide ((a.cm.length:Int)=a.cm.length)&&hO a.cm 0 (0+8 * lft a.cm.length 0))then
  bif decide (0 < (a.cm.length:Int))then jQ (decide ((a.cm.length:Int) > 0)) (([]:List SV).length+(gp (lft a.cm.length 0) a.cm 0).length) ([]++gp (lft a.cm.length 0) a.cm 0)
  else .ret (.tup [.bool (decide ((a.cm.length:Int) > 0)),.int .i64 0]) []else .fail:=by kernel_rfl
structure OkA (a:At):Prop where
 ori:0<=a.ori/\a.ori < 256
 pl:a.path.length<=100
 pw:okW a.path=true
 nx:0<=a.nx/\a.nx < 4294967296
 med:0<=a.med/\a.med < 4294967296
 prf:0<=a.prf/\a.prf < 4294967296
 orr:0<=a.orr/\a.orr < 4294967296
 cl:a.cl.length<=100
 cw:okW a.cl=true
 cm:a.cm.length<=100
 tk:0<=a.tk/\a.tk < 256
 tl:0<=a.tl/\a.tl < 16777216
 tr:0<=a.tr/\a.tr < 4294967296
 tg:0<=a.tg/\a.tg < 4294967296
def cL(a:At):List SV:=bif decide ((a.path.length:Int) > 0)then be 2 1++be (w6 a.path.length) 1++wds a.path.length a.path 0 else []
def bn:Nat->At->List SV->List SV->List SV
 | 0,a,_,_=>be (w6 a.ori) 1
 | 1,a,_,_=>cL a
 | 2,a,_,_=>be (w6 a.med) 4
 | 3,a,_,_=>be (w6 a.prf) 4
 | 4,a,_,_=>be (w6 a.orr) 4
 | 5,a,_,_=>wds a.cl.length a.cl 0
 | 6,a,R,_=>lw a R
 | 7,_,_,U=>jR U
 | 8,a,_,_=>gp a.cm.length a.cm 0
 | _,a,_,_=>mP a
def wrB:Nat->At->List SV->List SV->Bool
 | 0,_,R,_=>decide ((R.length:Int) > 0)
 | 1,_,R,_=>decide ((R.length:Int) > 0)
 | 2,a,_,_=>a.hm
 | 3,a,_,_=>a.hp
 | 4,a,_,_=>a.ho
 | 5,a,_,_=>decide ((a.cl.length:Int) > 0)
 | 6,_,R,_=>decide ((R.length:Int) > 0)
 | 7,_,R,U=>bif decide ((U.length:Int) > 0)then true else(R.length:Int)==0
 | 8,a,_,_=>decide ((a.cm.length:Int) > 0)
 | _,a,_,_=>a.tk !=0
structure Draft where
 a:At
 R:List SV
 U:List SV
 kr:Nat
 ku:Nat
 m:Nat
 es:List SV
def dOf:HpL->Option Draft
 | [(0,.cells 142 [.int .i64 ori,.psl 36 path,.int .u32 nx,.bool hm,.int .u32 med,.bool hp,.int .u32 prf,.bool ho,.int .u32 orr,.psl 37 cl,.psl 136 cm,.int .i64 tk,.int .u32 tl,.int .u32 tr,.int .u32 tg,.qs 1 1 0 kr,.qs 2 1 0 ku]),(1,.seq 5 R),(2,.seq 5 U),(3,.cells 111 [.qs 4 1 0 m,.int .i64 65535,.mp 5]),(4,.seq 5 es),(5,.mpc [] [])]=>some ⟨⟨ori,path,nx,hm,med,hp,prf,ho,orr,cl,cm,tk,tl,tr,tg⟩,R,U,kr,ku,m,es⟩
 | _=>none
theorem Hu{H:HpL}{d:Draft}(h:dOf H=some d):H=dH d.a d.R d.U d.kr d.ku d.m d.es:=by
 unfold dOf at h
 split at h
 . cases h;rfl
 . cases h
structure OkD (d:Draft):Prop where
 a:OkA d.a
 R:d.R.length<=40000
 U:d.U.length<=40000
 kr:d.kr=d.R.length
 ku:d.ku=d.U.length
noncomputable def dz(r:Nat):ag:=fun args H=>match args with
 | [.ptr 0 0,.agg [.ptr 3 0]]=>match dOf H with
  | some d=>.ite (dec (OkD d/\d.m=0/\d.es=[])) (jQ (wrB r d.a d.R d.U) (bn r d.a d.R d.U).length (bn r d.a d.R d.U)) .fail
  | none=>.fail
 | _=>.fail
theorem dK      {r:Nat}{args:List SV}{H:HpL}{v:SV}{ups:List (Nat × Option Chunk)}(h:ae   (dz    r args H)=some (v,ups)):
  ∃ (a:At) (R U:List SV),args=ik/\H=dH a R U R.length U.length 0 []/\OkA a/\R.length<=40000/\U.length<=40000/\ae (jQ (wrB r a R U) (bn r a R U).length (bn r a R U))=some (v,ups):=by
 unfold dz at h
 split at h
 . split at h
   . rename_i d hd
     rw[aa]at h
     cases hc:dec (OkD d/\d.m=0/\d.es=[])with
     | false=>rw[hc]at h;cases h
     | true=>
      rw[hc]at h
      obtain⟨ho,h1,h2⟩:=dec_iff.1 hc
      refine⟨d.a,d.R,d.U,rfl,?_,ho.a,ho.R,ho.U,h⟩
      rw[Hu hd,ho.kr,ho.ku,h1,h2]
   . cases h
 . cases h
theorem IO:Known Tryz.prog 84 (dz 0):=(aj wOk Tryz.func84 rfl).weak (by
 intro args H v ups h
 obtain⟨a,R,U,rfl,rfl,ho,hR,hU,h⟩:=dK h
 have hw:w6 a.ori=a.ori:=cf ho.ori.1 (by have:=ho.ori.2;omega)
 rw[M5,fE (show 0=([]:List SV).length from rfl) (by rw[hw];exact ho.ori.1) (by rw[hw];exact ho.ori.2) (by simp)]
 exact h)
theorem IP:Known Tryz.prog 86 (dz 2):=(aj wOk Tryz.func86 rfl).weak (by
 intro args H v ups h
 obtain⟨a,R,U,rfl,rfl,ho,hR,hU,h⟩:=dK h
 have hw:w6 a.med=a.med:=cf ho.med.1 (by have:=ho.med.2;omega)
 rw[M6,fE (show 0=([]:List SV).length from rfl) (by rw[hw];exact ho.med.1) (by rw[hw];exact ho.med.2) (by simp)]
 exact h)
theorem IQ:Known Tryz.prog 87 (dz 3):=(aj wOk Tryz.func87 rfl).weak (by
 intro args H v ups h
 obtain⟨a,R,U,rfl,rfl,ho,hR,hU,h⟩:=dK h
 have hw:w6 a.prf=a.prf:=cf ho.prf.1 (by have:=ho.prf.2;omega)
 rw[M7,fE (show 0=([]:List SV).length from rfl) (by rw[hw];exact ho.prf.1) (by rw[hw];exact ho.prf.2) (by simp)]
 exact h)
theorem IR:Known Tryz.prog 88 (dz 4):=(aj wOk Tryz.func88 rfl).weak (by
 intro args H v ups h
 obtain⟨a,R,U,rfl,rfl,ho,hR,hU,h⟩:=dK h
 have hw:w6 a.orr=a.orr:=cf ho.orr.1 (by have:=ho.orr.2;omega)
 rw[M8,fE (show 0=([]:List SV).length from rfl) (by rw[hw];exact ho.orr.1) (by rw[hw];exact ho.orr.2) (by simp)]
 exact h)
theorem IS:Known Tryz.prog 90 (dz 6):=(aj wOk Tryz.func90 rfl).weak (by
 intro args H v ups h
 obtain⟨a,R,U,rfl,rfl,ho,hR,hU,h⟩:=dK h
 have hw:w6 a.nx=a.nx:=cf ho.nx.1 (by have:=ho.nx.2;omega)
 rw[M9,fE (by simp[fam,ah]) (by rw[hw];exact ho.nx.1) (by rw[hw];exact ho.nx.2) (by simp[fam,ah]),dT0 rfl,dT0 ⟨by simp[fam,ah],by simp[fam,ah];omega,by omega⟩,cT,cT]
 rw[<- h]
 simp[wrB,bn,lw,jQ,Nat.add_assoc])
theorem IT:Known Tryz.prog 91 (dz 7):=(aj wOk Tryz.func91 rfl).weak (by
 intro args H v ups h
 obtain⟨a,R,U,rfl,rfl,ho,hR,hU,h⟩:=dK h
 rw[Na,dT0 rfl,dT0 ⟨by simp[fam,ah],by simp[fam,ah];omega,by omega⟩,cT,cT]
 rw[<- h]
 simp[wrB,bn,jR,jQ])
theorem IU:Known Tryz.prog 93 (dz 9):=(aj wOk Tryz.func93 rfl).weak (by
 intro args H v ups h
 obtain⟨a,R,U,rfl,rfl,ho,hR,hU,h⟩:=dK h
 have h1:w6 a.tk=a.tk:=cf ho.tk.1 (by have:=ho.tk.2;omega)
 have h2:w6 a.tl=a.tl:=cf ho.tl.1 (by have:=ho.tl.2;omega)
 have h3:w6 a.tr=a.tr:=cf ho.tr.1 (by have:=ho.tr.2;omega)
 have h4:w6 a.tg=a.tg:=cf ho.tg.1 (by have:=ho.tg.2;omega)
 rw[Nb,fE (by simp[ah]) (by rw[h1];exact ho.tk.1) (by rw[h1];exact ho.tk.2) (by simp[ah]),fE (by simp[ah]) (by rw[h2];exact ho.tl.1) (by rw[h2];exact ho.tl.2) (by simp[ah]),fE (by simp[ah]) (by rw[h3];exact ho.tr.1) (by rw[h3];exact ho.tr.2) (by simp[ah]),fE (by simp[ah,gR]) (by rw[h4];exact ho.tg.1) (by rw[h4];exact ho.tg.2) (by simp[ah,gR])]
 rw[<- h]
 show _=ae (jQ (a.tk !=0) (mP a).length (mP a))
 unfold mP
 cases(a.tk==3) <;> rfl)
theorem IV(a:At)(R U:List SV)(kr ku:Nat):∀ x,ad [(3,some (.cells 111 [.qs 6 1 0 0,.int .i64 65535,.mp 5])),(4,none),(6,some (.seq 5 []))] (dH a R U kr ku 0 []).get x=
  if x=6 then(ad [] (dH a R U kr ku 0 []).get 4).map (br (sw 4 6))else if x=4 then none else(ad [] (dH a R U kr ku 0 []).get x).map (br (sw 4 6))
 | 0=>rfl | 1=>rfl | 2=>rfl | 3=>rfl | 4=>rfl | 5=>rfl | 6=>rfl
 | x+7=>by
  have h1:∀ k,k < 7->¬ (x+7=k):=fun k hk=>by omega
  have h2:∀ k,k < 7->Nat.beq k (x+7)=false:=fun k hk=>b8 (by omega)
  simp only[ad,dH,HpL.get,h1 3 (by omega),h1 4 (by omega),h1 6 (by omega),if_false,h2 0 (by omega),h2 1 (by omega),h2 2 (by omega),h2 3 (by omega),h2 4 (by omega),h2 5 (by omega),cF,Option.map_none]
theorem Bt(a:At)(R U:List SV)(kr ku:Nat):∀ x c,ad [] (dH a R U kr ku 0 []).get x=some c->6 ∉ aJ c:=by
 intro x c h
 have h:HpL.get (dH a R U kr ku 0 []) x=some c:=h
 have:=aU _ _ _ h
 simp only[dH,List.mem_cons,pJ,List.not_mem_nil,or_false]at this
 rcases this with ⟨_,rfl⟩ | ⟨_,rfl⟩ | ⟨_,rfl⟩ | ⟨_,rfl⟩ | ⟨_,rfl⟩ | ⟨_,rfl⟩ <;> simp[aJ,aF,ak,dCW]
theorem mZ{f:Nat}{s:ag}{a:At}{R U:List SV}{w:Bool}{v:SV}{ups:List (Nat × Option Chunk)}(hs:ae (s ik (dH a R U R.length U.length 0 []))=some (.tup [.bool w,.int .i64 0],[]))(h:ae (jQ w 0 [])=some (v,ups)):
  ∃ v2 ups2,ae (s ik (dH a R U R.length U.length 0 []))=some (v2,ups2)/\cg (dH a R U R.length U.length 0 []) v2 ups2 v ups:=by
 cases h
 exact⟨_,[],hs,4,6,by simp[dH],by simp[ak,aF],Bt a R U _ _,rfl,IV a R U _ _⟩
theorem zT(n:Nat):lft (n:Int) 0=n:=by unfold lft;omega
theorem yd{l:List SV}{m:Nat}(h:l.length<=1000)(hm:m<=60000):hO l 0 m=true:=invW_iff.2 ⟨by omega,by omega,h,hm⟩
theorem IW:Known Tryz.prog 89 (dz 5):=dq (s:=Hs) ⟨⟨Tryz.f89,Tryz.func89,bc ap Tryz.func89,rfl⟩,aZ (aG ap ax wOk 300 5) ax (bf Ao aE) Tryz.func89 IM⟩ (by
 intro args H v ups h
 obtain⟨a,R,U,rfl,rfl,ho,hR,hU,h⟩:=dK h
 have hl:=ho.cl
 have hc:(decide (0=([]:List SV).length)&&(decide ((a.cl.length:Int)=a.cl.length)&&hO a.cl 0 (0+4 * lft a.cl.length 0)&&okW a.cl))=true:=by
  rw[zT,yd (by omega) (by omega),ho.cw,dT0 rfl];rfl
 have ht:=LM a R U R.length U.length
 rw[hc,cT]at ht
 by_cases h0:(0:Int) < a.cl.length
 . left
   have hw:wrB 5 a R U=true:=dT0 h0
   rw[hw]at h
   rw[dT0 h0,cT,zT]at ht
   rw[ht]
   cases h
   refine⟨_,rfl,fun x=> ?_⟩
   simp only[ad,bn,nA,List.length_nil,Nat.zero_add]
   by_cases h4:x=4
   . subst h4;rfl
   . rw[if_neg h4,if_neg h4]
 . right
   have hw:wrB 5 a R U=false:=dF0 h0
   rw[hw]at h
   rw[dF0 h0,cF]at ht
   have he:a.cl.length=0:=by omega
   refine mZ (f:=89) (w:=false) (congrArg ae ht) ?_
   simpa [bn,he,wds]using h)
theorem IX:Known Tryz.prog 92 (dz 8):=dq (s:=Ht) ⟨⟨Tryz.f92,Tryz.func92,bc ap Tryz.func92,rfl⟩,aZ (aG ap ax wOk 300 5) ax (bf A7 aE) Tryz.func92 IN⟩ (by
 intro args H v ups h
 obtain⟨a,R,U,rfl,rfl,ho,hR,hU,h⟩:=dK h
 have hl:=ho.cm
 have hc:(decide (0=([]:List SV).length)&&(decide ((a.cm.length:Int)=a.cm.length)&&hO a.cm 0 (0+8 * lft a.cm.length 0)))=true:=by
  rw[zT,yd (by omega) (by omega),dT0 rfl];rfl
 have ht:=LN a R U R.length U.length
 rw[hc,cT]at ht
 by_cases h0:(0:Int) < a.cm.length
 . left
   have hw:wrB 8 a R U=true:=dT0 h0
   rw[hw]at h
   rw[dT0 h0,cT,zT]at ht
   rw[ht]
   cases h
   refine⟨_,rfl,fun x=> ?_⟩
   simp only[bn,nA,List.length_nil,Nat.zero_add]
 . right
   have hw:wrB 8 a R U=false:=dF0 h0
   rw[hw]at h
   rw[dF0 h0,cF]at ht
   have he:a.cm.length=0:=by omega
   refine mZ (f:=92) (w:=false) (congrArg ae ht) ?_
   simpa [bn,he,gp]using h)
theorem IY:Known Tryz.prog 85 (dz 1):=dq (s:=Hr) ⟨⟨Tryz.f85,Tryz.func85,bc ap Tryz.func85,rfl⟩,aZ (aG ap ax wOk 300 5) ax (bf Al aE) Tryz.func85 IL⟩ (by
 intro args H v ups h
 obtain⟨a,R,U,rfl,rfl,ho,hR,hU,h⟩:=dK h
 have hl:=ho.pl
 have ht:=LL a R U R.length U.length
 have hv:bn 1 a R U=cL a:=rfl
 rw[hv]at h
 by_cases h0:(0:Int) < a.path.length
 . left
   have hw:w6 a.path.length=a.path.length:=cf (by omega) (by omega)
   have hp:cL a=[]++be 2 1++be (w6 a.path.length) 1++wds a.path.length a.path 0:=by
    unfold cL;rw[dT0 h0];rfl
   rw[dT0 (show(a.path.length:Int) > 0 from h0),cT,fE (by simp[ah]) (by rw[hw];omega) (by rw[hw];omega) (by simp[ah]),dT0 (by simp[ah]),dT0 rfl,zT,yd (by omega) (by simp[ah];omega),ho.pw]at ht
   rw[ht,<- lA0,<- hp]
   cases h
   exact⟨_,rfl,fun x=>rfl⟩
 . right
   have hc:(decide (0=([]:List SV).length)&&(decide ((a.path.length:Int)=a.path.length)&&hO a.path 0 (0+4 * lft a.path.length 0)&&okW a.path))=true:=by
    rw[zT,yd (by omega) (by omega),ho.pw,dT0 rfl];rfl
   rw[dF0 (show ¬ (a.path.length:Int) > 0 from h0),cF,hc,cT,cF]at ht
   have hp:cL a=[]:=by unfold cL;rw[dF0 (show ¬ (a.path.length:Int) > 0 from h0)];rfl
   rw[hp]at h
   exact mZ (f:=85) (w:=wrB 1 a R U) (congrArg ae ht) h)
end Go.Proofs.YtnlmhpancboddaaGreat
