/- Texts of addresses: the program. -/
import Derived.Test.YtnlmhpancboddaaGreatMachine5
import Derived.KernelRfl
import Derived.Test.YtnlmhpancboddaaGreatRows
import Derived.Test.YtnlmhpancboddaaGreatMachine6
set_option linter.unusedVariables false
set_option linter.unusedSimpArgs false
namespace Go.Proofs.YtnlmhpancboddaaGreat
open Go.Am
set_option maxRecDepth 100000
theorem ap:wa Tryz.prog:=by unfold wa;kernel_rfl
theorem ax:Tryz.prog.follows .mixedOrders=true:=by kernel_rfl
theorem ok0:KOk Tryz.prog (tbl []):=GD
noncomputable abbrev opn(T:Nat->Option ag)(fn:Func):ag:=n8 Tryz.prog (bt Tryz.prog T 300 5) (fun g=>inl T g&&bJ Tryz.prog g) true 300 fn
theorem aj{T:Nat->Option ag}(hT:KOk Tryz.prog T){f:Nat}{fn:Func}(hf:Tryz.prog.funcs[f]? =some fn)(hb:fn.body.isNone=false):Known Tryz.prog f (opn T fn):=
 jy ap ax (aG ap ax hT 300 5) hf hb (fun _ _ _ _ h=>h)
theorem aa(b:Bool)(x y:CTree):ae (.ite b x y)=bif b then ae x else ae y:=by cases b <;> rfl
theorem bu(b:Bool)(x y:CTree):ae (bif b then x else y)=bif b then ae x else ae y:=by cases b <;> rfl
theorem am{n:Int}(h1: -9223372036854775808<=n)(h2:n<=9223372036854775807):IntKind.i64.wrap n=n:=by
 simp[IntKind.wrap,IntKind.bits,IntKind.signed];omega
theorem ME{n:Int}(h1:0<=n)(h2:n<=255):IntKind.u8.wrap n=n:=by
 simp[IntKind.wrap,IntKind.bits,IntKind.signed];omega
structure Nl where
 (kind rd e0 e1 e2 e3 e4 e5 e6 e7 e8 e9 tag mac ip:Int) (hip:Bool) (pip plen gw lab lab2:Int)
abbrev Nl.v(n:Nl):SV:=.agg [.int .i64 n.kind,.int .u64 n.rd,.int .u8 n.e0,.int .u8 n.e1,.int .u8 n.e2,.int .u8 n.e3,.int .u8 n.e4,.int .u8 n.e5,.int .u8 n.e6,.int .u8 n.e7,.int .u8 n.e8,.int .u8 n.e9,.int .u32 n.tag,.int .u64 n.mac,.int .u32 n.ip,.bool n.hip,.int .u32 n.pip,.int .i64 n.plen,.int .u32 n.gw,.int .u32 n.lab,.int .u32 n.lab2]
structure At where
 (ori:Int) (path:List SV) (nx:Int) (hm:Bool) (med:Int) (hp:Bool) (prf:Int) (ho:Bool) (orr:Int) (cl cm:List SV) (tk tl tr tg:Int)
abbrev At.v(a:At):SV:=.agg [.int .i64 a.ori,.psl 36 a.path,.int .u32 a.nx,.bool a.hm,.int .u32 a.med,.bool a.hp,.int .u32 a.prf,.bool a.ho,.int .u32 a.orr,.psl 37 a.cl,.psl 136 a.cm,.int .i64 a.tk,.int .u32 a.tl,.int .u32 a.tr,.int .u32 a.tg]
def vld(l:Int):Bool:=bif decide (l>=0)then decide (l<=32)else false
def zL(l:Int):Int:=IntKind.u32.wrap (4294967295 * 2 ^ min (IntKind.i64.wrap (32 - l)).toNat IntKind.u32.bits)
def Ia(l:Int):Int:=IntKind.u32.wrap ↑(BitVec.ofInt IntKind.u32.bits (if IntKind.u32.signed=true then -1 else IntKind.u32.max) ^^^ BitVec.ofInt IntKind.u32.bits (IntKind.u32.wrap (IntKind.u32.wrap (1 * 2 ^ min (IntKind.i64.wrap (32 - l)).toNat IntKind.u32.bits) - 1))).toNat
def EC(a b:Int):Int:=IntKind.u32.wrap ↑(BitVec.ofInt IntKind.u32.bits a&&& BitVec.ofInt IntKind.u32.bits (zL b)).toNat
def wE:ag
 | [.int .i64 l],[]=>.ite (decide (IntKind.i64.wrap (32 - l) < 0)) .fail (.ret (.int .u32 (zL l)) [])
 | _,_=>.fail
def sy:ag
 | [.int .i64 l],[]=>.ite (decide (IntKind.i64.wrap (32 - l) < 0)) .fail (.ite (vld l) (.ret (.int .u32 (zL l)) []) .fail)
 | _,_=>.fail
theorem Lk:∀ n < 33,Ia (n:Nat)=zL (n:Nat):=by decide+kernel
theorem sA(l:Int):vld l=true↔0<=l/\l<=32:=by
 unfold vld
 cases h:decide (l>=0) <;> simp at h ⊢ <;> omega
theorem ED{l:Int}(h:vld l=true):Ia l=zL l:=by
 have hl:=(sA l).1 h
 have:=Lk l.toNat (by omega)
 rwa [show((l.toNat:Nat):Int)=l by omega]at this
theorem Ib:Known Tryz.prog 134 wE:=(aj ok0 Tryz.func134 rfl).weak (by
 intro args H v ups h
 unfold wE at h
 split at h
 . rename_i l
   rw[<- h]
   have e:opn (tbl []) Tryz.f134 [.int .i64 l] []=bif decide (IntKind.i64.wrap (32 - l) < 0)then .fail else .ret (.int .u32 (zL l)) []:=by kernel_rfl
   refine(congrArg ae e).trans ?_
   rw[aa,bu]
 . cases h)
theorem EE:Known Tryz.prog 150 sy:=(aj ok0 Tryz.func150 rfl).weak (by
 intro args H v ups h
 unfold sy at h
 split at h
 . rename_i l
   have e:opn (tbl []) Tryz.f150 [.int .i64 l] []=bif decide (IntKind.i64.wrap (32 - l) < 0)then .fail else .ret (.int .u32 (Ia l)) []:=by kernel_rfl
   rw[aa,aa]at h
   refine(congrArg ae e).trans ?_
   rw[bu]
   cases hw:decide (IntKind.i64.wrap (32 - l) < 0)with
   | true=>rw[hw]at h;cases h
   | false=>
    cases hv:vld l with
    | false=>rw[hw,hv]at h;cases h
    | true=>rw[hw,hv]at h;rw[ED hv];exact h
 . cases h)
abbrev κm:=tbl [(134,wE),(150,sy)]
theorem Ic:KOk Tryz.prog κm:=ac Ib (ac EE ok0)
def gv(kind mac ip:Int)(hip:Bool)(pip plen lab lab2:Int):CTree:=bif(bif !hip then(bif bif kind==3 then true else kind==4 then true else bif kind==2 then ip !=0 else false)else false)then .ret (.int .i64 3) []else bif(bif bif decide (mac > 281474976710655)then true else decide (lab > 16777215)then true else decide (lab2 > 16777215))then .ret (.int .i64 2) []else bif !vld plen then .ret (.int .i64 2) []else bif decide (IntKind.i64.wrap (32 - plen) < 0)then .fail else bif !(EC pip plen==pip&&plen==plen)then .ret (.int .i64 3) []else .ret (.int .i64 0) []
theorem gS(kind rd e0 e1 e2 e3 e4 e5 e6 e7 e8 e9 tag mac ip:Int)(hip:Bool)(pip plen gw lab lab2:Int):opn κm Tryz.f82 [Nl.v ⟨kind,rd,e0,e1,e2,e3,e4,e5,e6,e7,e8,e9,tag,mac,ip,hip,pip,plen,gw,lab,lab2⟩] []=bif bif decide (kind < 1)then true else decide (kind > 5)then .ret (.int .i64 6) []else
 bif kind==2 then(bif !(pip==0&&(plen==0&&(gw==0&&(true&&(true)))))then .ret (.int .i64 3) []else gv kind mac ip hip pip plen lab lab2)else
 bif kind==1 then(bif !(mac==0&&(ip==0&&(hip==false&&(pip==0&&(plen==0&&(gw==0&&(true&&(lab2==0))))))))then .ret (.int .i64 3) []else gv kind mac ip hip pip plen lab lab2)else
 bif kind==3 then(bif !(e0==0&&(e1==0&&(e2==0&&(e3==0&&(e4==0&&(e5==0&&(e6==0&&(e7==0&&(e8==0&&(e9==0&&(true&&(mac==0&&(true&&(true&&(pip==0&&(plen==0&&(gw==0&&(lab==0&&(lab2==0)))))))))))))))))))then .ret (.int .i64 3) []else gv kind mac ip hip pip plen lab lab2)else
 bif kind==4 then(bif !(tag==0&&(mac==0&&(true&&(true&&(pip==0&&(plen==0&&(gw==0&&(lab==0&&(lab2==0)))))))))then .ret (.int .i64 3) []else gv kind mac ip hip pip plen lab lab2)else
 bif kind==5 then(bif !(mac==0&&(ip==0&&(hip==false&&(true&&(true&&(true&&(true&&(lab2==0))))))))then .ret (.int .i64 3) []else gv kind mac ip hip pip plen lab lab2)else
 (bif !(e0==0&&(e1==0&&(e2==0&&(e3==0&&(e4==0&&(e5==0&&(e6==0&&(e7==0&&(e8==0&&(e9==0&&(tag==0&&(mac==0&&(ip==0&&(hip==false&&(pip==0&&(plen==0&&(gw==0&&(lab==0&&(lab2==0)))))))))))))))))))then .ret (.int .i64 3) []else gv kind mac ip hip pip plen lab lab2):=by kernel_rfl
def fm(n:Nl):Bool:=
 bif n.kind==1 then(n.mac==0&&n.ip==0&& !n.hip&&n.pip==0&&n.plen==0&&n.gw==0&&n.lab2==0)
 else bif n.kind==2 then(n.pip==0&&n.plen==0&&n.gw==0&&(n.hip||n.ip==0))
 else bif n.kind==3 then(n.e0==0&&n.e1==0&&n.e2==0&&n.e3==0&&n.e4==0&&n.e5==0&&n.e6==0&&n.e7==0&&n.e8==0&&n.e9==0&&n.mac==0&&n.hip&&n.pip==0&&n.plen==0&&n.gw==0&&n.lab==0&&n.lab2==0)
 else bif n.kind==4 then(n.tag==0&&n.mac==0&&n.hip&&n.pip==0&&n.plen==0&&n.gw==0&&n.lab==0&&n.lab2==0)
 else bif n.kind==5 then(n.mac==0&&n.ip==0&& !n.hip&&n.lab2==0)else false
def big(n:Nl):Bool:=decide (n.mac > 281474976710655)||decide (n.lab > 16777215)||decide (n.lab2 > 16777215)
def chk(n:Nl):Int:=
 bif decide (n.kind < 1)||decide (n.kind > 5)then 6 else bif !fm n then 3 else bif big n then 2 else bif !vld n.plen then 2 else bif EC n.pip n.plen==n.pip then 0 else 3
def EF(n:Nl):Int:=bif big n then 2 else bif !vld n.plen then 2 else bif EC n.pip n.plen==n.pip then 0 else 3
theorem ja(n:Nl)(hh:(bif !n.hip then(bif bif n.kind==3 then true else n.kind==4 then true else bif n.kind==2 then n.ip !=0 else false)else false)=false):ae (gv n.kind n.mac n.ip n.hip n.pip n.plen n.lab n.lab2)=some (.int .i64 (EF n),[]):=by
 unfold gv
 rw[hh]
 obtain⟨kind,rd,e0,e1,e2,e3,e4,e5,e6,e7,e8,e9,tag,mac,ip,hip,pip,plen,gw,lab,lab2⟩:=n
 simp only[EF,big]
 cases hv:vld plen with
 | true=>
  have hp:=(sA plen).1 hv
  rw[am (by omega) (by omega),dF0 (show ¬(32 - plen < 0)by omega)]
  cases decide (mac > 281474976710655) <;> cases decide (lab > 16777215) <;> cases decide (lab2 > 16777215) <;> simp[ae]
  cases EC pip plen==pip <;> simp[ae]
 | false=>cases decide (mac > 281474976710655) <;> cases decide (lab > 16777215) <;> cases decide (lab2 > 16777215) <;> simp[ae]
theorem o5(n:Nl)(h1:1<=n.kind)(h5:n.kind<=5):chk n=bif fm n then EF n else 3:=by
 unfold chk EF
 rw[dF0 (by omega),dF0 (by omega)]
 cases fm n <;> rfl
theorem Lq(rd e0 e1 e2 e3 e4 e5 e6 e7 e8 e9 tag mac ip:Int)(hip:Bool)(pip plen gw lab lab2:Int):fm ⟨1,rd,e0,e1,e2,e3,e4,e5,e6,e7,e8,e9,tag,mac,ip,hip,pip,plen,gw,lab,lab2⟩=((mac==0&&(ip==0&&(hip==false&&(pip==0&&(plen==0&&(gw==0&&(true&&(lab2==0))))))))&&true):=by
 cases hip <;> simp[fm,Bool.and_assoc]
theorem Bj(rd e0 e1 e2 e3 e4 e5 e6 e7 e8 e9 tag mac ip:Int)(hip:Bool)(pip plen gw lab lab2:Int):ae (opn κm Tryz.f82 [Nl.v ⟨1,rd,e0,e1,e2,e3,e4,e5,e6,e7,e8,e9,tag,mac,ip,hip,pip,plen,gw,lab,lab2⟩] [])=some (.int .i64 (chk ⟨1,rd,e0,e1,e2,e3,e4,e5,e6,e7,e8,e9,tag,mac,ip,hip,pip,plen,gw,lab,lab2⟩),[]):=by
 have ht:opn κm Tryz.f82 [Nl.v ⟨1,rd,e0,e1,e2,e3,e4,e5,e6,e7,e8,e9,tag,mac,ip,hip,pip,plen,gw,lab,lab2⟩] []=bif !(mac==0&&(ip==0&&(hip==false&&(pip==0&&(plen==0&&(gw==0&&(true&&(lab2==0))))))))then .ret (.int .i64 3) []else gv 1 mac ip hip pip plen lab lab2:=gS 1 rd e0 e1 e2 e3 e4 e5 e6 e7 e8 e9 tag mac ip hip pip plen gw lab lab2
 rw[ht,o5 _ (show(1:Int)<=1 by decide) (show(1:Int)<=5 by decide),Lq]
 generalize hC:(mac==0&&(ip==0&&(hip==false&&(pip==0&&(plen==0&&(gw==0&&(true&&(lab2==0))))))))=C
 cases C with
 | false=>rfl
 | true=>
  cases hG:(true:Bool)with
  | true=>exact ja ⟨1,rd,e0,e1,e2,e3,e4,e5,e6,e7,e8,e9,tag,mac,ip,hip,pip,plen,gw,lab,lab2⟩ (by revert hG;cases hip <;> simp)
  | false=>
   cases hG
theorem Lr(rd e0 e1 e2 e3 e4 e5 e6 e7 e8 e9 tag mac ip:Int)(hip:Bool)(pip plen gw lab lab2:Int):fm ⟨2,rd,e0,e1,e2,e3,e4,e5,e6,e7,e8,e9,tag,mac,ip,hip,pip,plen,gw,lab,lab2⟩=((pip==0&&(plen==0&&(gw==0&&(true&&(true)))))&&(hip||ip==0)):=by
 cases hip <;> simp[fm,Bool.and_assoc]
theorem Bk(rd e0 e1 e2 e3 e4 e5 e6 e7 e8 e9 tag mac ip:Int)(hip:Bool)(pip plen gw lab lab2:Int):ae (opn κm Tryz.f82 [Nl.v ⟨2,rd,e0,e1,e2,e3,e4,e5,e6,e7,e8,e9,tag,mac,ip,hip,pip,plen,gw,lab,lab2⟩] [])=some (.int .i64 (chk ⟨2,rd,e0,e1,e2,e3,e4,e5,e6,e7,e8,e9,tag,mac,ip,hip,pip,plen,gw,lab,lab2⟩),[]):=by
 have ht:opn κm Tryz.f82 [Nl.v ⟨2,rd,e0,e1,e2,e3,e4,e5,e6,e7,e8,e9,tag,mac,ip,hip,pip,plen,gw,lab,lab2⟩] []=bif !(pip==0&&(plen==0&&(gw==0&&(true&&(true)))))then .ret (.int .i64 3) []else gv 2 mac ip hip pip plen lab lab2:=gS 2 rd e0 e1 e2 e3 e4 e5 e6 e7 e8 e9 tag mac ip hip pip plen gw lab lab2
 rw[ht,o5 _ (show(1:Int)<=2 by decide) (show(2:Int)<=5 by decide),Lr]
 generalize hC:(pip==0&&(plen==0&&(gw==0&&(true&&(true)))))=C
 cases C with
 | false=>rfl
 | true=>
  cases hG:((hip||ip==0):Bool)with
  | true=>exact ja ⟨2,rd,e0,e1,e2,e3,e4,e5,e6,e7,e8,e9,tag,mac,ip,hip,pip,plen,gw,lab,lab2⟩ (by revert hG;cases hip <;> simp)
  | false=>
   cases hip with
   | true=>simp at hG
   | false=>
    have h0:(ip !=0)=true:=by simpa using hG
    simp[gv,h0,ae]
theorem Ls(rd e0 e1 e2 e3 e4 e5 e6 e7 e8 e9 tag mac ip:Int)(hip:Bool)(pip plen gw lab lab2:Int):fm ⟨3,rd,e0,e1,e2,e3,e4,e5,e6,e7,e8,e9,tag,mac,ip,hip,pip,plen,gw,lab,lab2⟩=((e0==0&&(e1==0&&(e2==0&&(e3==0&&(e4==0&&(e5==0&&(e6==0&&(e7==0&&(e8==0&&(e9==0&&(true&&(mac==0&&(true&&(true&&(pip==0&&(plen==0&&(gw==0&&(lab==0&&(lab2==0)))))))))))))))))))&&hip):=by
 cases hip <;> simp[fm,Bool.and_assoc]
theorem Bl(rd e0 e1 e2 e3 e4 e5 e6 e7 e8 e9 tag mac ip:Int)(hip:Bool)(pip plen gw lab lab2:Int):ae (opn κm Tryz.f82 [Nl.v ⟨3,rd,e0,e1,e2,e3,e4,e5,e6,e7,e8,e9,tag,mac,ip,hip,pip,plen,gw,lab,lab2⟩] [])=some (.int .i64 (chk ⟨3,rd,e0,e1,e2,e3,e4,e5,e6,e7,e8,e9,tag,mac,ip,hip,pip,plen,gw,lab,lab2⟩),[]):=by
 have ht:opn κm Tryz.f82 [Nl.v ⟨3,rd,e0,e1,e2,e3,e4,e5,e6,e7,e8,e9,tag,mac,ip,hip,pip,plen,gw,lab,lab2⟩] []=bif !(e0==0&&(e1==0&&(e2==0&&(e3==0&&(e4==0&&(e5==0&&(e6==0&&(e7==0&&(e8==0&&(e9==0&&(true&&(mac==0&&(true&&(true&&(pip==0&&(plen==0&&(gw==0&&(lab==0&&(lab2==0)))))))))))))))))))then .ret (.int .i64 3) []else gv 3 mac ip hip pip plen lab lab2:=gS 3 rd e0 e1 e2 e3 e4 e5 e6 e7 e8 e9 tag mac ip hip pip plen gw lab lab2
 rw[ht,o5 _ (show(1:Int)<=3 by decide) (show(3:Int)<=5 by decide),Ls]
 generalize hC:(e0==0&&(e1==0&&(e2==0&&(e3==0&&(e4==0&&(e5==0&&(e6==0&&(e7==0&&(e8==0&&(e9==0&&(true&&(mac==0&&(true&&(true&&(pip==0&&(plen==0&&(gw==0&&(lab==0&&(lab2==0)))))))))))))))))))=C
 cases C with
 | false=>rfl
 | true=>
  cases hip with
  | true=>exact ja ⟨3,rd,e0,e1,e2,e3,e4,e5,e6,e7,e8,e9,tag,mac,ip,true,pip,plen,gw,lab,lab2⟩ rfl
  | false=>rfl
theorem Lt(rd e0 e1 e2 e3 e4 e5 e6 e7 e8 e9 tag mac ip:Int)(hip:Bool)(pip plen gw lab lab2:Int):fm ⟨4,rd,e0,e1,e2,e3,e4,e5,e6,e7,e8,e9,tag,mac,ip,hip,pip,plen,gw,lab,lab2⟩=((tag==0&&(mac==0&&(true&&(true&&(pip==0&&(plen==0&&(gw==0&&(lab==0&&(lab2==0)))))))))&&hip):=by
 cases hip <;> simp[fm,Bool.and_assoc]
theorem Bm(rd e0 e1 e2 e3 e4 e5 e6 e7 e8 e9 tag mac ip:Int)(hip:Bool)(pip plen gw lab lab2:Int):ae (opn κm Tryz.f82 [Nl.v ⟨4,rd,e0,e1,e2,e3,e4,e5,e6,e7,e8,e9,tag,mac,ip,hip,pip,plen,gw,lab,lab2⟩] [])=some (.int .i64 (chk ⟨4,rd,e0,e1,e2,e3,e4,e5,e6,e7,e8,e9,tag,mac,ip,hip,pip,plen,gw,lab,lab2⟩),[]):=by
 have ht:opn κm Tryz.f82 [Nl.v ⟨4,rd,e0,e1,e2,e3,e4,e5,e6,e7,e8,e9,tag,mac,ip,hip,pip,plen,gw,lab,lab2⟩] []=bif !(tag==0&&(mac==0&&(true&&(true&&(pip==0&&(plen==0&&(gw==0&&(lab==0&&(lab2==0)))))))))then .ret (.int .i64 3) []else gv 4 mac ip hip pip plen lab lab2:=gS 4 rd e0 e1 e2 e3 e4 e5 e6 e7 e8 e9 tag mac ip hip pip plen gw lab lab2
 rw[ht,o5 _ (show(1:Int)<=4 by decide) (show(4:Int)<=5 by decide),Lt]
 generalize hC:(tag==0&&(mac==0&&(true&&(true&&(pip==0&&(plen==0&&(gw==0&&(lab==0&&(lab2==0)))))))))=C
 cases C with
 | false=>rfl
 | true=>
  cases hip with
  | true=>exact ja ⟨4,rd,e0,e1,e2,e3,e4,e5,e6,e7,e8,e9,tag,mac,ip,true,pip,plen,gw,lab,lab2⟩ rfl
  | false=>rfl
theorem Lu(rd e0 e1 e2 e3 e4 e5 e6 e7 e8 e9 tag mac ip:Int)(hip:Bool)(pip plen gw lab lab2:Int):fm ⟨5,rd,e0,e1,e2,e3,e4,e5,e6,e7,e8,e9,tag,mac,ip,hip,pip,plen,gw,lab,lab2⟩=((mac==0&&(ip==0&&(hip==false&&(true&&(true&&(true&&(true&&(lab2==0))))))))&&true):=by
 cases hip <;> simp[fm,Bool.and_assoc]
theorem Bn(rd e0 e1 e2 e3 e4 e5 e6 e7 e8 e9 tag mac ip:Int)(hip:Bool)(pip plen gw lab lab2:Int):ae (opn κm Tryz.f82 [Nl.v ⟨5,rd,e0,e1,e2,e3,e4,e5,e6,e7,e8,e9,tag,mac,ip,hip,pip,plen,gw,lab,lab2⟩] [])=some (.int .i64 (chk ⟨5,rd,e0,e1,e2,e3,e4,e5,e6,e7,e8,e9,tag,mac,ip,hip,pip,plen,gw,lab,lab2⟩),[]):=by
 have ht:opn κm Tryz.f82 [Nl.v ⟨5,rd,e0,e1,e2,e3,e4,e5,e6,e7,e8,e9,tag,mac,ip,hip,pip,plen,gw,lab,lab2⟩] []=bif !(mac==0&&(ip==0&&(hip==false&&(true&&(true&&(true&&(true&&(lab2==0))))))))then .ret (.int .i64 3) []else gv 5 mac ip hip pip plen lab lab2:=gS 5 rd e0 e1 e2 e3 e4 e5 e6 e7 e8 e9 tag mac ip hip pip plen gw lab lab2
 rw[ht,o5 _ (show(1:Int)<=5 by decide) (show(5:Int)<=5 by decide),Lu]
 generalize hC:(mac==0&&(ip==0&&(hip==false&&(true&&(true&&(true&&(true&&(lab2==0))))))))=C
 cases C with
 | false=>rfl
 | true=>
  cases hG:(true:Bool)with
  | true=>exact ja ⟨5,rd,e0,e1,e2,e3,e4,e5,e6,e7,e8,e9,tag,mac,ip,hip,pip,plen,gw,lab,lab2⟩ (by revert hG;cases hip <;> simp)
  | false=>
   cases hG
theorem zQ       (n:Nl):ae   (opn κm Tryz.f82 [n.v] [])=some (.int .i64 (chk n),[]):=by
 obtain⟨kind,rd,e0,e1,e2,e3,e4,e5,e6,e7,e8,e9,tag,mac,ip,hip,pip,plen,gw,lab,lab2⟩:=n
 by_cases h:1<=kind/\kind<=5
 . obtain⟨h1,h5⟩:=h
   obtain rfl | rfl | rfl | rfl | rfl:kind=1\/kind=2\/kind=3\/kind=4\/kind=5:=by omega
   . exact Bj rd e0 e1 e2 e3 e4 e5 e6 e7 e8 e9 tag mac ip hip pip plen gw lab lab2
   . exact Bk rd e0 e1 e2 e3 e4 e5 e6 e7 e8 e9 tag mac ip hip pip plen gw lab lab2
   . exact Bl rd e0 e1 e2 e3 e4 e5 e6 e7 e8 e9 tag mac ip hip pip plen gw lab lab2
   . exact Bm rd e0 e1 e2 e3 e4 e5 e6 e7 e8 e9 tag mac ip hip pip plen gw lab lab2
   . exact Bn rd e0 e1 e2 e3 e4 e5 e6 e7 e8 e9 tag mac ip hip pip plen gw lab lab2
 . have hc:(decide (kind < 1)||decide (kind > 5))=true:=by
     simp only[Bool.or_eq_true,decide_eq_true_eq];omega
   have hd:(bif decide (kind < 1)then true else decide (kind > 5))=true:=by rw[<- hc];cases decide (kind < 1) <;> rfl
   rw[gS,hd]
   simp only[chk,hc,ae,cT]
def zR:SV->Option Nl
 | .agg [.int .i64 kind,.int .u64 rd,.int .u8 e0,.int .u8 e1,.int .u8 e2,.int .u8 e3,.int .u8 e4,.int .u8 e5,.int .u8 e6,.int .u8 e7,.int .u8 e8,.int .u8 e9,.int .u32 tag,.int .u64 mac,.int .u32 ip,.bool hip,.int .u32 pip,.int .i64 plen,.int .u32 gw,.int .u32 lab,.int .u32 lab2]=>some ⟨kind,rd,e0,e1,e2,e3,e4,e5,e6,e7,e8,e9,tag,mac,ip,hip,pip,plen,gw,lab,lab2⟩
 | _=>none
theorem sD{x:SV}{n:Nl}(h:zR x=some n):x=n.v:=by
 unfold zR at h
 split at h
 . cases h;rfl
 . cases h
def fQ:ag:=fun args H=>match args,H with
 | [x],[]=>match zR x with
  | some n=>.ret (.int .i64 (chk n)) []
  | none=>.fail
 | _,_=>.fail
theorem wJ        {args:List SV}{H:HpL}{v:SV}{ups:List (Nat × Option Chunk)}(h:ae   (fQ      args H)=some (v,ups)):∃ n:Nl,args=[n.v]/\H=[]/\v= .int .i64 (chk n)/\ups=[]:=by
 unfold fQ at h
 split at h
 . rename_i x
   split at h
   . rename_i n hn
     cases h
     exact⟨n,by rw[sD hn],rfl,rfl,rfl⟩
   . cases h
 . cases h
theorem gT:Known Tryz.prog 82 fQ:=(aj Ic Tryz.func82 rfl).weak (by
 intro args H v ups h
 obtain⟨n,rfl,rfl,rfl,rfl⟩:=wJ h
 exact zQ n)
end Go.Proofs.YtnlmhpancboddaaGreat
