/- Routes: their values are put. -/
import Derived.Test.YtnlmhpancboddaaGreatPart1
import Derived.Test.YtnlmhpancboddaaGreatPart3
set_option linter.unusedVariables false
set_option linter.unusedSimpArgs false
namespace Go.Proofs.YtnlmhpancboddaaGreat
open Go.Am
set_option maxRecDepth 100000
abbrev κb:=tbl [(82,fQ),(27,dA 1),(26,dA 2),(108,dA 3),(41,dA 4),(177,dA 6),(172,dA 8),(24,gy),(28,kz)]
theorem bOk:KOk Tryz.prog κb:=ac gT (ac EL (ac ya (ac Hp (ac Bp (ac LE (ac LH (ac oC (ac rA ok0))))))))
structure OkP (n:Nl):Prop where
 (rd0:0<=n.rd) (rd1:n.rd < 18446744073709551616) (tag0:0<=n.tag) (tag1:n.tag < 4294967296) (mac0:0<=n.mac) (mac1:n.mac < 281474976710656) (ip0:0<=n.ip) (ip1:n.ip < 4294967296) (pip0:0<=n.pip) (pip1:n.pip < 4294967296) (pl0:0<=n.plen) (pl1:n.plen < 256) (gw0:0<=n.gw) (gw1:n.gw < 4294967296) (lab0:0<=n.lab) (lab1:n.lab < 16777216) (lac0:0<=n.lab2) (lac1:n.lab2 < 16777216)
noncomputable instance okPDec (n:Nl):Decidable (OkP n):=Classical.propDecidable _
theorem bM{n:Int}(h1:0<=n)(h2:n < 18446744073709551616):IntKind.u64.wrap n=n:=by
 simp[IntKind.wrap,IntKind.bits,IntKind.signed];omega
def ko(n:Nl):List SV:=be n.rd 8++[.int .u8 n.e0,.int .u8 n.e1,.int .u8 n.e2,.int .u8 n.e3,.int .u8 n.e4,.int .u8 n.e5,.int .u8 n.e6,.int .u8 n.e7,.int .u8 n.e8,.int .u8 n.e9]++be n.tag 4++be n.lab 3
def da(n:Nl):List SV:=be n.rd 8++[.int .u8 n.e0,.int .u8 n.e1,.int .u8 n.e2,.int .u8 n.e3,.int .u8 n.e4,.int .u8 n.e5,.int .u8 n.e6,.int .u8 n.e7,.int .u8 n.e8,.int .u8 n.e9]++be n.tag 4++be 48 1++be n.mac 6++(bif n.hip then be 32 1++be n.ip 4 else be 0 1)++be n.lab 3++(bif n.lab2 !=0 then be n.lab2 3 else [])
def kp(n:Nl):List SV:=be n.rd 8++be n.tag 4++be 32 1++be n.ip 4
def kq(n:Nl):List SV:=be n.rd 8++[.int .u8 n.e0,.int .u8 n.e1,.int .u8 n.e2,.int .u8 n.e3,.int .u8 n.e4,.int .u8 n.e5,.int .u8 n.e6,.int .u8 n.e7,.int .u8 n.e8,.int .u8 n.e9]++be 32 1++be n.ip 4
def kv(n:Nl):List SV:=be n.rd 8++[.int .u8 n.e0,.int .u8 n.e1,.int .u8 n.e2,.int .u8 n.e3,.int .u8 n.e4,.int .u8 n.e5,.int .u8 n.e6,.int .u8 n.e7,.int .u8 n.e8,.int .u8 n.e9]++be n.tag 4++be n.plen 1++be n.pip 4++be n.gw 4++be n.lab 3
noncomputable def fH(val:Nl->List SV):ag:=fun args H=>match args,H with
 | [.agg [],.ptr 0 0,x],[(0,.cells 111 [.nils,.int .i64 lim,.mp 1]),(1,.mpc [] [])]=>match zR x with
  | some n=>.ite (decide (lim=40/\OkP n)) (.ret (.tup []) [(0,some (.cells 111 [.qs 2 1 0 (val n).length,.int .i64 40,.mp 1])),(2,some (.seq 5 (val n)))]) .fail
  | none=>.fail
 | _,_=>.fail
theorem hJ       {val:Nl->List SV}{args:List SV}{H:HpL}{v:SV}{ups:List (Nat × Option Chunk)}(h:ae   (fH     val args H)=some (v,ups)):
  ∃ n:Nl,OkP n/\args=[.agg [],.ptr 0 0,n.v]/\H=[(0,.cells 111 [.nils,.int .i64 40,.mp 1]),(1,.mpc [] [])]/\v= .tup []/\ups=[(0,some (.cells 111 [.qs 2 1 0 (val n).length,.int .i64 40,.mp 1])),(2,some (.seq 5 (val n)))]:=by
 unfold fH at h
 split at h
 . rename_i x lim
   split at h
   . rename_i n hn
     rw[aa,cond_eq_ite]at h
     split at h
     . rename_i hc
       have hc2:lim=40/\OkP n:=by simpa using hc
       obtain⟨rfl,hok⟩:=hc2
       cases h
       exact⟨n,hok,by rw[sD hn],rfl,rfl,rfl⟩
     . cases h
   . cases h
 . cases h
theorem FN(kind rd e0 e1 e2 e3 e4 e5 e6 e7 e8 e9 tag mac ip:Int)(hip:Bool)(pip plen gw lab lab2:Int):opn κb Tryz.f169 [.agg [],.ptr 0 0,Nl.v ⟨kind,rd,e0,e1,e2,e3,e4,e5,e6,e7,e8,e9,tag,mac,ip,hip,pip,plen,gw,lab,lab2⟩] [(0,.cells 111 [.nils,.int .i64 40,.mp 1]),(1,.mpc [] [])]=
 bif decide (0<=rd/\rd < 256 ^ 8/\((8:Nat):Int)<=40/\(40:Int)<=65536)then(bif decide (18=18/\0<=(IntKind.u64.wrap tag)/\(IntKind.u64.wrap tag) < 256 ^ 4/\((18+4:Nat):Int)<=40/\(40:Int)<=65536)then(bif decide (22=22/\0<=(IntKind.u64.wrap lab)/\(IntKind.u64.wrap lab) < 256 ^ 3/\((22+3:Nat):Int)<=40/\(40:Int)<=65536)then(.ret (.tup []) [(0,some (.cells 111 [.qs 2 1 0 25,.int .i64 40,.mp 1])),(2,some (.seq 5 (be rd 8++[.int .u8 e0,.int .u8 e1,.int .u8 e2,.int .u8 e3,.int .u8 e4,.int .u8 e5,.int .u8 e6,.int .u8 e7,.int .u8 e8,.int .u8 e9]++be (IntKind.u64.wrap tag) 4++be (IntKind.u64.wrap lab) 3)))])else .fail)else .fail)else .fail:=by kernel_rfl
theorem FO:Known Tryz.prog 169 (fH ko):=(aj bOk Tryz.func169 rfl).weak (by
 intro args H v ups h
 obtain⟨n,hok,rfl,rfl,rfl,rfl⟩:=hJ h
 obtain⟨kind,rd,e0,e1,e2,e3,e4,e5,e6,e7,e8,e9,tag,mac,ip,hip,pip,plen,gw,lab,lab2⟩:=n
 obtain⟨rd0,rd1,tag0,tag1,mac0,mac1,ip0,ip1,pip0,pip1,pl0,pl1,gw0,gw1,lab0,lab1,lac0,lac1⟩:=hok
 simp only at rd0 rd1 tag0 tag1 mac0 mac1 ip0 ip1 pip0 pip1 pl0 pl1 gw0 gw1 lab0 lab1 lac0 lac1
 rw[FN]
 have w1:=bM tag0 (by omega)
 have w2:=bM ip0 (by omega)
 have w3:=bM pip0 (by omega)
 have w4:=bM pl0 (by omega)
 have w5:=bM gw0 (by omega)
 have w6:=bM lab0 (by omega)
 have w7:=bM lac0 (by omega)
 rw[dT0 (by omega),dT0 (by omega),dT0 (by omega)]
 simp only[w1,w2,w3,w4,w5,w6,w7]
 rfl)
theorem FP(kind rd e0 e1 e2 e3 e4 e5 e6 e7 e8 e9 tag mac ip:Int)(hip:Bool)(pip plen gw lab lab2:Int):opn κb Tryz.f174 [.agg [],.ptr 0 0,Nl.v ⟨kind,rd,e0,e1,e2,e3,e4,e5,e6,e7,e8,e9,tag,mac,ip,hip,pip,plen,gw,lab,lab2⟩] [(0,.cells 111 [.nils,.int .i64 40,.mp 1]),(1,.mpc [] [])]=
 bif decide (0<=rd/\rd < 256 ^ 8/\((8:Nat):Int)<=40/\(40:Int)<=65536)then(bif decide (18=18/\0<=(IntKind.u64.wrap tag)/\(IntKind.u64.wrap tag) < 256 ^ 4/\((18+4:Nat):Int)<=40/\(40:Int)<=65536)then(bif decide (23=23/\0<=mac/\mac < 256 ^ 6/\((23+6:Nat):Int)<=40/\(40:Int)<=65536)then(bif hip then(bif decide (30=30/\0<=(IntKind.u64.wrap ip)/\(IntKind.u64.wrap ip) < 256 ^ 4/\((30+4:Nat):Int)<=40/\(40:Int)<=65536)then(bif decide (34=34/\0<=(IntKind.u64.wrap lab)/\(IntKind.u64.wrap lab) < 256 ^ 3/\((34+3:Nat):Int)<=40/\(40:Int)<=65536)then(bif lab2 !=0 then(bif decide (37=37/\0<=(IntKind.u64.wrap lab2)/\(IntKind.u64.wrap lab2) < 256 ^ 3/\((37+3:Nat):Int)<=40/\(40:Int)<=65536)then(.ret (.tup []) [(0,some (.cells 111 [.qs 2 1 0 40,.int .i64 40,.mp 1])),(2,some (.seq 5 (be rd 8++[.int .u8 e0,.int .u8 e1,.int .u8 e2,.int .u8 e3,.int .u8 e4,.int .u8 e5,.int .u8 e6,.int .u8 e7,.int .u8 e8,.int .u8 e9]++be (IntKind.u64.wrap tag) 4++be 48 1++be mac 6++be 32 1++be (IntKind.u64.wrap ip) 4++be (IntKind.u64.wrap lab) 3++be (IntKind.u64.wrap lab2) 3)))])else .fail)else .ret (.tup []) [(0,some (.cells 111 [.qs 2 1 0 37,.int .i64 40,.mp 1])),(2,some (.seq 5 (be rd 8++[.int .u8 e0,.int .u8 e1,.int .u8 e2,.int .u8 e3,.int .u8 e4,.int .u8 e5,.int .u8 e6,.int .u8 e7,.int .u8 e8,.int .u8 e9]++be (IntKind.u64.wrap tag) 4++be 48 1++be mac 6++be 32 1++be (IntKind.u64.wrap ip) 4++be (IntKind.u64.wrap lab) 3)))])else .fail)else .fail)else(bif decide (30=30/\0<=(IntKind.u64.wrap lab)/\(IntKind.u64.wrap lab) < 256 ^ 3/\((30+3:Nat):Int)<=40/\(40:Int)<=65536)then(bif lab2 !=0 then(bif decide (33=33/\0<=(IntKind.u64.wrap lab2)/\(IntKind.u64.wrap lab2) < 256 ^ 3/\((33+3:Nat):Int)<=40/\(40:Int)<=65536)then(.ret (.tup []) [(0,some (.cells 111 [.qs 2 1 0 36,.int .i64 40,.mp 1])),(2,some (.seq 5 (be rd 8++[.int .u8 e0,.int .u8 e1,.int .u8 e2,.int .u8 e3,.int .u8 e4,.int .u8 e5,.int .u8 e6,.int .u8 e7,.int .u8 e8,.int .u8 e9]++be (IntKind.u64.wrap tag) 4++be 48 1++be mac 6++be 0 1++be (IntKind.u64.wrap lab) 3++be (IntKind.u64.wrap lab2) 3)))])else .fail)else .ret (.tup []) [(0,some (.cells 111 [.qs 2 1 0 33,.int .i64 40,.mp 1])),(2,some (.seq 5 (be rd 8++[.int .u8 e0,.int .u8 e1,.int .u8 e2,.int .u8 e3,.int .u8 e4,.int .u8 e5,.int .u8 e6,.int .u8 e7,.int .u8 e8,.int .u8 e9]++be (IntKind.u64.wrap tag) 4++be 48 1++be mac 6++be 0 1++be (IntKind.u64.wrap lab) 3)))])else .fail))else .fail)else .fail)else .fail:=by kernel_rfl
theorem FQ:Known Tryz.prog 174 (fH da):=(aj bOk Tryz.func174 rfl).weak (by
 intro args H v ups h
 obtain⟨n,hok,rfl,rfl,rfl,rfl⟩:=hJ h
 obtain⟨kind,rd,e0,e1,e2,e3,e4,e5,e6,e7,e8,e9,tag,mac,ip,hip,pip,plen,gw,lab,lab2⟩:=n
 obtain⟨rd0,rd1,tag0,tag1,mac0,mac1,ip0,ip1,pip0,pip1,pl0,pl1,gw0,gw1,lab0,lab1,lac0,lac1⟩:=hok
 simp only at rd0 rd1 tag0 tag1 mac0 mac1 ip0 ip1 pip0 pip1 pl0 pl1 gw0 gw1 lab0 lab1 lac0 lac1
 rw[FP]
 have w1:=bM tag0 (by omega)
 have w2:=bM ip0 (by omega)
 have w3:=bM pip0 (by omega)
 have w4:=bM pl0 (by omega)
 have w5:=bM gw0 (by omega)
 have w6:=bM lab0 (by omega)
 have w7:=bM lac0 (by omega)
 rw[dT0 (by omega),dT0 (by omega),dT0 (by omega)]
 cases hip with
 | true=>
  rw[cT,cT,cT,cT]
  rw[dT0 (by omega),dT0 (by omega)]
  cases hl:(lab2 !=0)with
  | true=>rw[cT,cT,cT,dT0 (by omega)];simp only[da,hl,w1,w2,w3,w4,w5,w6,w7];rfl
  | false=>simp only[da,hl,w1,w2,w3,w4,w5,w6,w7];rfl
 | false=>
  rw[cT,cT,cT,cF]
  rw[dT0 (by omega)]
  cases hl:(lab2 !=0)with
  | true=>rw[cT,cT,dT0 (by omega)];simp only[da,hl,w1,w2,w3,w4,w5,w6,w7];rfl
  | false=>simp only[da,hl,w1,w2,w3,w4,w5,w6,w7];rfl)
theorem FS(kind rd e0 e1 e2 e3 e4 e5 e6 e7 e8 e9 tag mac ip:Int)(hip:Bool)(pip plen gw lab lab2:Int):opn κb Tryz.f180 [.agg [],.ptr 0 0,Nl.v ⟨kind,rd,e0,e1,e2,e3,e4,e5,e6,e7,e8,e9,tag,mac,ip,hip,pip,plen,gw,lab,lab2⟩] [(0,.cells 111 [.nils,.int .i64 40,.mp 1]),(1,.mpc [] [])]=
 bif decide (0<=rd/\rd < 256 ^ 8/\((8:Nat):Int)<=40/\(40:Int)<=65536)then(bif decide (8=8/\0<=(IntKind.u64.wrap tag)/\(IntKind.u64.wrap tag) < 256 ^ 4/\((8+4:Nat):Int)<=40/\(40:Int)<=65536)then(bif decide (13=13/\0<=(IntKind.u64.wrap ip)/\(IntKind.u64.wrap ip) < 256 ^ 4/\((13+4:Nat):Int)<=40/\(40:Int)<=65536)then(.ret (.tup []) [(0,some (.cells 111 [.qs 2 1 0 17,.int .i64 40,.mp 1])),(2,some (.seq 5 (be rd 8++be (IntKind.u64.wrap tag) 4++be 32 1++be (IntKind.u64.wrap ip) 4)))])else .fail)else .fail)else .fail:=by kernel_rfl
theorem FT:Known Tryz.prog 180 (fH kp):=(aj bOk Tryz.func180 rfl).weak (by
 intro args H v ups h
 obtain⟨n,hok,rfl,rfl,rfl,rfl⟩:=hJ h
 obtain⟨kind,rd,e0,e1,e2,e3,e4,e5,e6,e7,e8,e9,tag,mac,ip,hip,pip,plen,gw,lab,lab2⟩:=n
 obtain⟨rd0,rd1,tag0,tag1,mac0,mac1,ip0,ip1,pip0,pip1,pl0,pl1,gw0,gw1,lab0,lab1,lac0,lac1⟩:=hok
 simp only at rd0 rd1 tag0 tag1 mac0 mac1 ip0 ip1 pip0 pip1 pl0 pl1 gw0 gw1 lab0 lab1 lac0 lac1
 rw[FS]
 have w1:=bM tag0 (by omega)
 have w2:=bM ip0 (by omega)
 have w3:=bM pip0 (by omega)
 have w4:=bM pl0 (by omega)
 have w5:=bM gw0 (by omega)
 have w6:=bM lab0 (by omega)
 have w7:=bM lac0 (by omega)
 rw[dT0 (by omega),dT0 (by omega),dT0 (by omega)]
 simp only[w1,w2,w3,w4,w5,w6,w7]
 rfl)
theorem FU(kind rd e0 e1 e2 e3 e4 e5 e6 e7 e8 e9 tag mac ip:Int)(hip:Bool)(pip plen gw lab lab2:Int):opn κb Tryz.f182 [.agg [],.ptr 0 0,Nl.v ⟨kind,rd,e0,e1,e2,e3,e4,e5,e6,e7,e8,e9,tag,mac,ip,hip,pip,plen,gw,lab,lab2⟩] [(0,.cells 111 [.nils,.int .i64 40,.mp 1]),(1,.mpc [] [])]=
 bif decide (0<=rd/\rd < 256 ^ 8/\((8:Nat):Int)<=40/\(40:Int)<=65536)then(bif decide (19=19/\0<=(IntKind.u64.wrap ip)/\(IntKind.u64.wrap ip) < 256 ^ 4/\((19+4:Nat):Int)<=40/\(40:Int)<=65536)then(.ret (.tup []) [(0,some (.cells 111 [.qs 2 1 0 23,.int .i64 40,.mp 1])),(2,some (.seq 5 (be rd 8++[.int .u8 e0,.int .u8 e1,.int .u8 e2,.int .u8 e3,.int .u8 e4,.int .u8 e5,.int .u8 e6,.int .u8 e7,.int .u8 e8,.int .u8 e9]++be 32 1++be (IntKind.u64.wrap ip) 4)))])else .fail)else .fail:=by kernel_rfl
theorem FV:Known Tryz.prog 182 (fH kq):=(aj bOk Tryz.func182 rfl).weak (by
 intro args H v ups h
 obtain⟨n,hok,rfl,rfl,rfl,rfl⟩:=hJ h
 obtain⟨kind,rd,e0,e1,e2,e3,e4,e5,e6,e7,e8,e9,tag,mac,ip,hip,pip,plen,gw,lab,lab2⟩:=n
 obtain⟨rd0,rd1,tag0,tag1,mac0,mac1,ip0,ip1,pip0,pip1,pl0,pl1,gw0,gw1,lab0,lab1,lac0,lac1⟩:=hok
 simp only at rd0 rd1 tag0 tag1 mac0 mac1 ip0 ip1 pip0 pip1 pl0 pl1 gw0 gw1 lab0 lab1 lac0 lac1
 rw[FU]
 have w1:=bM tag0 (by omega)
 have w2:=bM ip0 (by omega)
 have w3:=bM pip0 (by omega)
 have w4:=bM pl0 (by omega)
 have w5:=bM gw0 (by omega)
 have w6:=bM lab0 (by omega)
 have w7:=bM lac0 (by omega)
 rw[dT0 (by omega),dT0 (by omega)]
 simp only[w1,w2,w3,w4,w5,w6,w7]
 rfl)
theorem FW(kind rd e0 e1 e2 e3 e4 e5 e6 e7 e8 e9 tag mac ip:Int)(hip:Bool)(pip plen gw lab lab2:Int):opn κb Tryz.f184 [.agg [],.ptr 0 0,Nl.v ⟨kind,rd,e0,e1,e2,e3,e4,e5,e6,e7,e8,e9,tag,mac,ip,hip,pip,plen,gw,lab,lab2⟩] [(0,.cells 111 [.nils,.int .i64 40,.mp 1]),(1,.mpc [] [])]=
 bif decide (0<=rd/\rd < 256 ^ 8/\((8:Nat):Int)<=40/\(40:Int)<=65536)then(bif decide (18=18/\0<=(IntKind.u64.wrap tag)/\(IntKind.u64.wrap tag) < 256 ^ 4/\((18+4:Nat):Int)<=40/\(40:Int)<=65536)then(bif decide (22=22/\0<=(IntKind.u64.wrap plen)/\(IntKind.u64.wrap plen) < 256 ^ 1/\((22+1:Nat):Int)<=40/\(40:Int)<=65536)then(bif decide (23=23/\0<=(IntKind.u64.wrap pip)/\(IntKind.u64.wrap pip) < 256 ^ 4/\((23+4:Nat):Int)<=40/\(40:Int)<=65536)then(bif decide (27=27/\0<=(IntKind.u64.wrap gw)/\(IntKind.u64.wrap gw) < 256 ^ 4/\((27+4:Nat):Int)<=40/\(40:Int)<=65536)then(bif decide (31=31/\0<=(IntKind.u64.wrap lab)/\(IntKind.u64.wrap lab) < 256 ^ 3/\((31+3:Nat):Int)<=40/\(40:Int)<=65536)then(.ret (.tup []) [(0,some (.cells 111 [.qs 2 1 0 34,.int .i64 40,.mp 1])),(2,some (.seq 5 (be rd 8++[.int .u8 e0,.int .u8 e1,.int .u8 e2,.int .u8 e3,.int .u8 e4,.int .u8 e5,.int .u8 e6,.int .u8 e7,.int .u8 e8,.int .u8 e9]++be (IntKind.u64.wrap tag) 4++be (IntKind.u64.wrap plen) 1++be (IntKind.u64.wrap pip) 4++be (IntKind.u64.wrap gw) 4++be (IntKind.u64.wrap lab) 3)))])else .fail)else .fail)else .fail)else .fail)else .fail)else .fail:=by kernel_rfl
theorem FX:Known Tryz.prog 184 (fH kv):=(aj bOk Tryz.func184 rfl).weak (by
 intro args H v ups h
 obtain⟨n,hok,rfl,rfl,rfl,rfl⟩:=hJ h
 obtain⟨kind,rd,e0,e1,e2,e3,e4,e5,e6,e7,e8,e9,tag,mac,ip,hip,pip,plen,gw,lab,lab2⟩:=n
 obtain⟨rd0,rd1,tag0,tag1,mac0,mac1,ip0,ip1,pip0,pip1,pl0,pl1,gw0,gw1,lab0,lab1,lac0,lac1⟩:=hok
 simp only at rd0 rd1 tag0 tag1 mac0 mac1 ip0 ip1 pip0 pip1 pl0 pl1 gw0 gw1 lab0 lab1 lac0 lac1
 rw[FW]
 have w1:=bM tag0 (by omega)
 have w2:=bM ip0 (by omega)
 have w3:=bM pip0 (by omega)
 have w4:=bM pl0 (by omega)
 have w5:=bM gw0 (by omega)
 have w6:=bM lab0 (by omega)
 have w7:=bM lac0 (by omega)
 rw[dT0 (by omega),dT0 (by omega),dT0 (by omega),dT0 (by omega),dT0 (by omega),dT0 (by omega)]
 simp only[w1,w2,w3,w4,w5,w6,w7]
 rfl)
noncomputable abbrev κc:=tbl [(82,fQ),(169,fH ko),(174,fH da),(180,fH kp),(182,fH kq),(184,fH kv),(28,kz)]
theorem cOk:KOk Tryz.prog κc:=ac gT (ac FO (ac FQ (ac FT (ac FV (ac FX (ac rA ok0))))))
def ey(val:Nl->List SV)(n:Nl):List SV:=[.int .u8 (IntKind.u8.wrap n.kind),.int .u8 (IntKind.u8.wrap ((val n).length:Int))]++val n
noncomputable def xc(val:Nl->List SV)(n:Nl):CTree:=
 bif decide ((40:Int)=40/\OkP n)then bif decide ((val n).length=(val n).length/\(val n).length<=65536)then
  (bif decide ((val n).length=(val n).length)then
   (bif decide (2+(val n).length<=9223372036854775807)&&decide ((2+(val n).length) * 1<=140737488355328)then .ret (.qs 0 1 0 (2+(val n).length)) [(0,some (.seq 5 (ey val n)))]else .fail)
   else bif decide (0+(val n).length<=(val n).length)then
    (bif decide (2+(((val n).drop 0).take (val n).length).length<=9223372036854775807)&&decide ((2+(((val n).drop 0).take (val n).length).length) * 1<=140737488355328)then .ret (.qs 0 1 0 (2+(((val n).drop 0).take (val n).length).length)) [(0,some (.seq 5 ([.int .u8 (IntKind.u8.wrap n.kind),.int .u8 (IntKind.u8.wrap ((val n).length:Int))]++(((val n).drop 0).take (val n).length))))]else .fail)else .fail)
  else .fail else .fail
theorem sU(n:Nl):(ko n).length<=40/\(da n).length<=40/\(kp n).length<=40/\(kq n).length<=40/\(kv n).length<=40:=by
 refine⟨by simp[ko,ah],?_,by simp[kp,ah],by simp[kq,ah],by simp[kv,ah]⟩
 cases h:n.hip <;> cases h2:(n.lab2 !=0) <;> simp[da,ah,h,h2]
theorem lP{val:Nl->List SV}{n:Nl}(hl:(val n).length<=40)(hok:OkP n):ae (xc val n)=some (.qs 0 1 0 (ey val n).length,[(0,some (.seq 5 (ey val n)))]):=by
 unfold xc
 rw[dT0 (show(40:Int)=40/\OkP n from⟨rfl,hok⟩),dT0 (show _/\(val n).length<=65536 from⟨rfl,by omega⟩),dT0 rfl,dT0 (by omega),dT0 (by omega)]
 simp[ae,ey,Nat.add_comm];omega
theorem Jn(kind rd e0 e1 e2 e3 e4 e5 e6 e7 e8 e9 tag mac ip:Int)(hip:Bool)(pip plen gw lab lab2:Int):opn κc Tryz.f106 [Nl.v ⟨kind,rd,e0,e1,e2,e3,e4,e5,e6,e7,e8,e9,tag,mac,ip,hip,pip,plen,gw,lab,lab2⟩,.iface 215 (.agg [])] []=xc ko ⟨kind,rd,e0,e1,e2,e3,e4,e5,e6,e7,e8,e9,tag,mac,ip,hip,pip,plen,gw,lab,lab2⟩:=by kernel_rfl
theorem Jo(kind rd e0 e1 e2 e3 e4 e5 e6 e7 e8 e9 tag mac ip:Int)(hip:Bool)(pip plen gw lab lab2:Int):opn κc Tryz.f106 [Nl.v ⟨kind,rd,e0,e1,e2,e3,e4,e5,e6,e7,e8,e9,tag,mac,ip,hip,pip,plen,gw,lab,lab2⟩,.iface 216 (.agg [])] []=xc da ⟨kind,rd,e0,e1,e2,e3,e4,e5,e6,e7,e8,e9,tag,mac,ip,hip,pip,plen,gw,lab,lab2⟩:=by kernel_rfl
theorem Jp(kind rd e0 e1 e2 e3 e4 e5 e6 e7 e8 e9 tag mac ip:Int)(hip:Bool)(pip plen gw lab lab2:Int):opn κc Tryz.f106 [Nl.v ⟨kind,rd,e0,e1,e2,e3,e4,e5,e6,e7,e8,e9,tag,mac,ip,hip,pip,plen,gw,lab,lab2⟩,.iface 217 (.agg [])] []=xc kp ⟨kind,rd,e0,e1,e2,e3,e4,e5,e6,e7,e8,e9,tag,mac,ip,hip,pip,plen,gw,lab,lab2⟩:=by kernel_rfl
theorem Jq(kind rd e0 e1 e2 e3 e4 e5 e6 e7 e8 e9 tag mac ip:Int)(hip:Bool)(pip plen gw lab lab2:Int):opn κc Tryz.f106 [Nl.v ⟨kind,rd,e0,e1,e2,e3,e4,e5,e6,e7,e8,e9,tag,mac,ip,hip,pip,plen,gw,lab,lab2⟩,.iface 218 (.agg [])] []=xc kq ⟨kind,rd,e0,e1,e2,e3,e4,e5,e6,e7,e8,e9,tag,mac,ip,hip,pip,plen,gw,lab,lab2⟩:=by kernel_rfl
theorem Jr(kind rd e0 e1 e2 e3 e4 e5 e6 e7 e8 e9 tag mac ip:Int)(hip:Bool)(pip plen gw lab lab2:Int):opn κc Tryz.f106 [Nl.v ⟨kind,rd,e0,e1,e2,e3,e4,e5,e6,e7,e8,e9,tag,mac,ip,hip,pip,plen,gw,lab,lab2⟩,.iface 219 (.agg [])] []=xc kv ⟨kind,rd,e0,e1,e2,e3,e4,e5,e6,e7,e8,e9,tag,mac,ip,hip,pip,plen,gw,lab,lab2⟩:=by kernel_rfl
def valOf(t:Nat):Option (Nl->List SV):=bif Nat.beq t 215 then some ko else bif Nat.beq t 216 then some da else bif Nat.beq t 217 then some kp else bif Nat.beq t 218 then some kq else bif Nat.beq t 219 then some kv else none
noncomputable def lQ:ag:=fun args H=>match args,H with
 | [x,.iface t (.agg [])],[]=>match zR x,valOf t with
  | some n,some val=>.ite (decide (OkP n)) (.ret (.qs 0 1 0 (ey val n).length) [(0,some (.seq 5 (ey val n)))]) .fail
  | _,_=>.fail
 | _,_=>.fail
theorem uX      :Known Tryz.prog 106 lQ      :=(aj        cOk Tryz.func106 rfl).weak (by
 intro args H v ups h
 unfold lQ at h
 split at h
 . rename_i x t
   split at h
   . rename_i n val hn hv
     rw[aa,cond_eq_ite]at h
     split at h
     . rename_i hc
       have hok:OkP n:=by simpa using hc
       rw[sD hn]
       obtain⟨kind,rd,e0,e1,e2,e3,e4,e5,e6,e7,e8,e9,tag,mac,ip,hip,pip,plen,gw,lab,lab2⟩:=n
       obtain⟨l1,l2,l3,l4,l5⟩:=sU ⟨kind,rd,e0,e1,e2,e3,e4,e5,e6,e7,e8,e9,tag,mac,ip,hip,pip,plen,gw,lab,lab2⟩
       unfold valOf at hv
       cases h1:Nat.beq t 215 with
       | true=>rw[h1]at hv;cases hv;cases nE h1;rw[Jn,lP l1 hok];exact h
       | false=>
       cases h2:Nat.beq t 216 with
       | true=>rw[h1,h2]at hv;cases hv;cases nE h2;rw[Jo,lP l2 hok];exact h
       | false=>
       cases h3:Nat.beq t 217 with
       | true=>rw[h1,h2,h3]at hv;cases hv;cases nE h3;rw[Jp,lP l3 hok];exact h
       | false=>
       cases h4:Nat.beq t 218 with
       | true=>rw[h1,h2,h3,h4]at hv;cases hv;cases nE h4;rw[Jq,lP l4 hok];exact h
       | false=>
       cases h5:Nat.beq t 219 with
       | true=>rw[h1,h2,h3,h4,h5]at hv;cases hv;cases nE h5;rw[Jr,lP l5 hok];exact h
       | false=>rw[h1,h2,h3,h4,h5]at hv;cases hv
     . cases h
   . cases h
 . cases h)
def nb(n:Nl):List SV:=bif n.kind==1 then ey ko n else bif n.kind==2 then ey da n else bif n.kind==3 then ey kp n else bif n.kind==4 then ey kq n else ey kv n
noncomputable def lR:ag:=fun args H=>match args,H with
 | [x],[]=>match zR x with
  | some n=>.ite (decide (chk n=0/\OkP n)) (.ret (.tup [.qs 0 1 0 (nb n).length,.int .i64 0]) [(0,some (.seq 5 (nb n)))]) .fail
  | none=>.fail
 | _,_=>.fail
theorem uY         {args:List SV}{H:HpL}{v:SV}{ups:List (Nat × Option Chunk)}(h:ae   (lR       args H)=some (v,ups)):
  ∃ n:Nl,chk n=0/\OkP n/\args=[n.v]/\H=[]/\v= .tup [.qs 0 1 0 (nb n).length,.int .i64 0]/\ups=[(0,some (.seq 5 (nb n)))]:=by
 unfold lR at h
 split at h
 . rename_i x
   split at h
   . rename_i n hn
     rw[aa,cond_eq_ite]at h
     split at h
     . rename_i hc
       have hc2:chk n=0/\OkP n:=by simpa using hc
       cases h
       exact⟨n,hc2.1,hc2.2,by rw[sD hn],rfl,rfl,rfl⟩
     . cases h
   . cases h
 . cases h
theorem Cp{n:Nl}(h:chk n=0):n.kind=1\/n.kind=2\/n.kind=3\/n.kind=4\/n.kind=5:=by
 by_cases hk:1<=n.kind/\n.kind<=5
 . omega
 . exfalso
   have hc:(decide (n.kind < 1)||decide (n.kind > 5))=true:=by
    simp only[Bool.or_eq_true,decide_eq_true_eq];omega
   unfold chk at h
   rw[hc]at h
   cases h
noncomputable abbrev κd:=tbl [(82,fQ),(106,lQ)]
theorem dOk:KOk Tryz.prog κd:=ac gT (ac uX ok0)
theorem Js(rd e0 e1 e2 e3 e4 e5 e6 e7 e8 e9 tag mac ip:Int)(hip:Bool)(pip plen gw lab lab2:Int):opn κd Tryz.f83 [Nl.v ⟨1,rd,e0,e1,e2,e3,e4,e5,e6,e7,e8,e9,tag,mac,ip,hip,pip,plen,gw,lab,lab2⟩] []=bif chk ⟨1,rd,e0,e1,e2,e3,e4,e5,e6,e7,e8,e9,tag,mac,ip,hip,pip,plen,gw,lab,lab2⟩!=0 then .ret (.tup [.nils,.int .i64 (chk ⟨1,rd,e0,e1,e2,e3,e4,e5,e6,e7,e8,e9,tag,mac,ip,hip,pip,plen,gw,lab,lab2⟩)]) []else bif decide (OkP ⟨1,rd,e0,e1,e2,e3,e4,e5,e6,e7,e8,e9,tag,mac,ip,hip,pip,plen,gw,lab,lab2⟩)then .ret (.tup [.qs 0 1 0 (ey ko ⟨1,rd,e0,e1,e2,e3,e4,e5,e6,e7,e8,e9,tag,mac,ip,hip,pip,plen,gw,lab,lab2⟩).length,.int .i64 0]) [(0,some (.seq 5 (ey ko ⟨1,rd,e0,e1,e2,e3,e4,e5,e6,e7,e8,e9,tag,mac,ip,hip,pip,plen,gw,lab,lab2⟩)))]else .fail:=by kernel_rfl
theorem FD(rd e0 e1 e2 e3 e4 e5 e6 e7 e8 e9 tag mac ip:Int)(hip:Bool)(pip plen gw lab lab2:Int)(hc:chk ⟨1,rd,e0,e1,e2,e3,e4,e5,e6,e7,e8,e9,tag,mac,ip,hip,pip,plen,gw,lab,lab2⟩=0)(hok:OkP ⟨1,rd,e0,e1,e2,e3,e4,e5,e6,e7,e8,e9,tag,mac,ip,hip,pip,plen,gw,lab,lab2⟩):ae (opn κd Tryz.f83 [Nl.v ⟨1,rd,e0,e1,e2,e3,e4,e5,e6,e7,e8,e9,tag,mac,ip,hip,pip,plen,gw,lab,lab2⟩] [])=some (.tup [.qs 0 1 0 (nb ⟨1,rd,e0,e1,e2,e3,e4,e5,e6,e7,e8,e9,tag,mac,ip,hip,pip,plen,gw,lab,lab2⟩).length,.int .i64 0],[(0,some (.seq 5 (nb ⟨1,rd,e0,e1,e2,e3,e4,e5,e6,e7,e8,e9,tag,mac,ip,hip,pip,plen,gw,lab,lab2⟩)))]):=by
 rw[Js,hc,dT0 hok]
 rfl
theorem Jt(rd e0 e1 e2 e3 e4 e5 e6 e7 e8 e9 tag mac ip:Int)(hip:Bool)(pip plen gw lab lab2:Int):opn κd Tryz.f83 [Nl.v ⟨2,rd,e0,e1,e2,e3,e4,e5,e6,e7,e8,e9,tag,mac,ip,hip,pip,plen,gw,lab,lab2⟩] []=bif chk ⟨2,rd,e0,e1,e2,e3,e4,e5,e6,e7,e8,e9,tag,mac,ip,hip,pip,plen,gw,lab,lab2⟩!=0 then .ret (.tup [.nils,.int .i64 (chk ⟨2,rd,e0,e1,e2,e3,e4,e5,e6,e7,e8,e9,tag,mac,ip,hip,pip,plen,gw,lab,lab2⟩)]) []else bif decide (OkP ⟨2,rd,e0,e1,e2,e3,e4,e5,e6,e7,e8,e9,tag,mac,ip,hip,pip,plen,gw,lab,lab2⟩)then .ret (.tup [.qs 0 1 0 (ey da ⟨2,rd,e0,e1,e2,e3,e4,e5,e6,e7,e8,e9,tag,mac,ip,hip,pip,plen,gw,lab,lab2⟩).length,.int .i64 0]) [(0,some (.seq 5 (ey da ⟨2,rd,e0,e1,e2,e3,e4,e5,e6,e7,e8,e9,tag,mac,ip,hip,pip,plen,gw,lab,lab2⟩)))]else .fail:=by kernel_rfl
theorem FE(rd e0 e1 e2 e3 e4 e5 e6 e7 e8 e9 tag mac ip:Int)(hip:Bool)(pip plen gw lab lab2:Int)(hc:chk ⟨2,rd,e0,e1,e2,e3,e4,e5,e6,e7,e8,e9,tag,mac,ip,hip,pip,plen,gw,lab,lab2⟩=0)(hok:OkP ⟨2,rd,e0,e1,e2,e3,e4,e5,e6,e7,e8,e9,tag,mac,ip,hip,pip,plen,gw,lab,lab2⟩):ae (opn κd Tryz.f83 [Nl.v ⟨2,rd,e0,e1,e2,e3,e4,e5,e6,e7,e8,e9,tag,mac,ip,hip,pip,plen,gw,lab,lab2⟩] [])=some (.tup [.qs 0 1 0 (nb ⟨2,rd,e0,e1,e2,e3,e4,e5,e6,e7,e8,e9,tag,mac,ip,hip,pip,plen,gw,lab,lab2⟩).length,.int .i64 0],[(0,some (.seq 5 (nb ⟨2,rd,e0,e1,e2,e3,e4,e5,e6,e7,e8,e9,tag,mac,ip,hip,pip,plen,gw,lab,lab2⟩)))]):=by
 rw[Jt,hc,dT0 hok]
 rfl
theorem Ju(rd e0 e1 e2 e3 e4 e5 e6 e7 e8 e9 tag mac ip:Int)(hip:Bool)(pip plen gw lab lab2:Int):opn κd Tryz.f83 [Nl.v ⟨3,rd,e0,e1,e2,e3,e4,e5,e6,e7,e8,e9,tag,mac,ip,hip,pip,plen,gw,lab,lab2⟩] []=bif chk ⟨3,rd,e0,e1,e2,e3,e4,e5,e6,e7,e8,e9,tag,mac,ip,hip,pip,plen,gw,lab,lab2⟩!=0 then .ret (.tup [.nils,.int .i64 (chk ⟨3,rd,e0,e1,e2,e3,e4,e5,e6,e7,e8,e9,tag,mac,ip,hip,pip,plen,gw,lab,lab2⟩)]) []else bif decide (OkP ⟨3,rd,e0,e1,e2,e3,e4,e5,e6,e7,e8,e9,tag,mac,ip,hip,pip,plen,gw,lab,lab2⟩)then .ret (.tup [.qs 0 1 0 (ey kp ⟨3,rd,e0,e1,e2,e3,e4,e5,e6,e7,e8,e9,tag,mac,ip,hip,pip,plen,gw,lab,lab2⟩).length,.int .i64 0]) [(0,some (.seq 5 (ey kp ⟨3,rd,e0,e1,e2,e3,e4,e5,e6,e7,e8,e9,tag,mac,ip,hip,pip,plen,gw,lab,lab2⟩)))]else .fail:=by kernel_rfl
theorem FF(rd e0 e1 e2 e3 e4 e5 e6 e7 e8 e9 tag mac ip:Int)(hip:Bool)(pip plen gw lab lab2:Int)(hc:chk ⟨3,rd,e0,e1,e2,e3,e4,e5,e6,e7,e8,e9,tag,mac,ip,hip,pip,plen,gw,lab,lab2⟩=0)(hok:OkP ⟨3,rd,e0,e1,e2,e3,e4,e5,e6,e7,e8,e9,tag,mac,ip,hip,pip,plen,gw,lab,lab2⟩):ae (opn κd Tryz.f83 [Nl.v ⟨3,rd,e0,e1,e2,e3,e4,e5,e6,e7,e8,e9,tag,mac,ip,hip,pip,plen,gw,lab,lab2⟩] [])=some (.tup [.qs 0 1 0 (nb ⟨3,rd,e0,e1,e2,e3,e4,e5,e6,e7,e8,e9,tag,mac,ip,hip,pip,plen,gw,lab,lab2⟩).length,.int .i64 0],[(0,some (.seq 5 (nb ⟨3,rd,e0,e1,e2,e3,e4,e5,e6,e7,e8,e9,tag,mac,ip,hip,pip,plen,gw,lab,lab2⟩)))]):=by
 rw[Ju,hc,dT0 hok]
 rfl
theorem Jv(rd e0 e1 e2 e3 e4 e5 e6 e7 e8 e9 tag mac ip:Int)(hip:Bool)(pip plen gw lab lab2:Int):opn κd Tryz.f83 [Nl.v ⟨4,rd,e0,e1,e2,e3,e4,e5,e6,e7,e8,e9,tag,mac,ip,hip,pip,plen,gw,lab,lab2⟩] []=bif chk ⟨4,rd,e0,e1,e2,e3,e4,e5,e6,e7,e8,e9,tag,mac,ip,hip,pip,plen,gw,lab,lab2⟩!=0 then .ret (.tup [.nils,.int .i64 (chk ⟨4,rd,e0,e1,e2,e3,e4,e5,e6,e7,e8,e9,tag,mac,ip,hip,pip,plen,gw,lab,lab2⟩)]) []else bif decide (OkP ⟨4,rd,e0,e1,e2,e3,e4,e5,e6,e7,e8,e9,tag,mac,ip,hip,pip,plen,gw,lab,lab2⟩)then .ret (.tup [.qs 0 1 0 (ey kq ⟨4,rd,e0,e1,e2,e3,e4,e5,e6,e7,e8,e9,tag,mac,ip,hip,pip,plen,gw,lab,lab2⟩).length,.int .i64 0]) [(0,some (.seq 5 (ey kq ⟨4,rd,e0,e1,e2,e3,e4,e5,e6,e7,e8,e9,tag,mac,ip,hip,pip,plen,gw,lab,lab2⟩)))]else .fail:=by kernel_rfl
theorem FG(rd e0 e1 e2 e3 e4 e5 e6 e7 e8 e9 tag mac ip:Int)(hip:Bool)(pip plen gw lab lab2:Int)(hc:chk ⟨4,rd,e0,e1,e2,e3,e4,e5,e6,e7,e8,e9,tag,mac,ip,hip,pip,plen,gw,lab,lab2⟩=0)(hok:OkP ⟨4,rd,e0,e1,e2,e3,e4,e5,e6,e7,e8,e9,tag,mac,ip,hip,pip,plen,gw,lab,lab2⟩):ae (opn κd Tryz.f83 [Nl.v ⟨4,rd,e0,e1,e2,e3,e4,e5,e6,e7,e8,e9,tag,mac,ip,hip,pip,plen,gw,lab,lab2⟩] [])=some (.tup [.qs 0 1 0 (nb ⟨4,rd,e0,e1,e2,e3,e4,e5,e6,e7,e8,e9,tag,mac,ip,hip,pip,plen,gw,lab,lab2⟩).length,.int .i64 0],[(0,some (.seq 5 (nb ⟨4,rd,e0,e1,e2,e3,e4,e5,e6,e7,e8,e9,tag,mac,ip,hip,pip,plen,gw,lab,lab2⟩)))]):=by
 rw[Jv,hc,dT0 hok]
 rfl
theorem Jw(rd e0 e1 e2 e3 e4 e5 e6 e7 e8 e9 tag mac ip:Int)(hip:Bool)(pip plen gw lab lab2:Int):opn κd Tryz.f83 [Nl.v ⟨5,rd,e0,e1,e2,e3,e4,e5,e6,e7,e8,e9,tag,mac,ip,hip,pip,plen,gw,lab,lab2⟩] []=bif chk ⟨5,rd,e0,e1,e2,e3,e4,e5,e6,e7,e8,e9,tag,mac,ip,hip,pip,plen,gw,lab,lab2⟩!=0 then .ret (.tup [.nils,.int .i64 (chk ⟨5,rd,e0,e1,e2,e3,e4,e5,e6,e7,e8,e9,tag,mac,ip,hip,pip,plen,gw,lab,lab2⟩)]) []else bif decide (OkP ⟨5,rd,e0,e1,e2,e3,e4,e5,e6,e7,e8,e9,tag,mac,ip,hip,pip,plen,gw,lab,lab2⟩)then .ret (.tup [.qs 0 1 0 (ey kv ⟨5,rd,e0,e1,e2,e3,e4,e5,e6,e7,e8,e9,tag,mac,ip,hip,pip,plen,gw,lab,lab2⟩).length,.int .i64 0]) [(0,some (.seq 5 (ey kv ⟨5,rd,e0,e1,e2,e3,e4,e5,e6,e7,e8,e9,tag,mac,ip,hip,pip,plen,gw,lab,lab2⟩)))]else .fail:=by kernel_rfl
theorem FH(rd e0 e1 e2 e3 e4 e5 e6 e7 e8 e9 tag mac ip:Int)(hip:Bool)(pip plen gw lab lab2:Int)(hc:chk ⟨5,rd,e0,e1,e2,e3,e4,e5,e6,e7,e8,e9,tag,mac,ip,hip,pip,plen,gw,lab,lab2⟩=0)(hok:OkP ⟨5,rd,e0,e1,e2,e3,e4,e5,e6,e7,e8,e9,tag,mac,ip,hip,pip,plen,gw,lab,lab2⟩):ae (opn κd Tryz.f83 [Nl.v ⟨5,rd,e0,e1,e2,e3,e4,e5,e6,e7,e8,e9,tag,mac,ip,hip,pip,plen,gw,lab,lab2⟩] [])=some (.tup [.qs 0 1 0 (nb ⟨5,rd,e0,e1,e2,e3,e4,e5,e6,e7,e8,e9,tag,mac,ip,hip,pip,plen,gw,lab,lab2⟩).length,.int .i64 0],[(0,some (.seq 5 (nb ⟨5,rd,e0,e1,e2,e3,e4,e5,e6,e7,e8,e9,tag,mac,ip,hip,pip,plen,gw,lab,lab2⟩)))]):=by
 rw[Jw,hc,dT0 hok]
 rfl
theorem Cq:Known Tryz.prog 83 lR:=(aj dOk Tryz.func83 rfl).weak (by
 intro args H v ups h
 obtain⟨n,hc,hok,rfl,rfl,rfl,rfl⟩:=uY h
 obtain⟨kind,rd,e0,e1,e2,e3,e4,e5,e6,e7,e8,e9,tag,mac,ip,hip,pip,plen,gw,lab,lab2⟩:=n
 obtain hk | hk | hk | hk | hk:=Cp hc <;> cases hk
 . exact FD _ _ _ _ _ _ _ _ _ _ _ _ _ _ _ _ _ _ _ _ hc hok
 . exact FE _ _ _ _ _ _ _ _ _ _ _ _ _ _ _ _ _ _ _ _ hc hok
 . exact FF _ _ _ _ _ _ _ _ _ _ _ _ _ _ _ _ _ _ _ _ hc hok
 . exact FG _ _ _ _ _ _ _ _ _ _ _ _ _ _ _ _ _ _ _ _ hc hok
 . exact FH _ _ _ _ _ _ _ _ _ _ _ _ _ _ _ _ _ _ _ _ hc hok)
def Dy(k:Nat):Bool:=decide (k<=9223372036854775807)&&decide (k * 1<=140737488355328)
theorem Gy{k:Nat}(h:k<=1000000):Dy k=true:=by
 unfold Dy
 rw[dT0 (by omega),dT0 (by omega)];rfl
end Go.Proofs.YtnlmhpancboddaaGreat
namespace Go.Proofs.YtnlmhpancboddaaGreat
open Go.Am
set_option maxRecDepth 100000
end Go.Proofs.YtnlmhpancboddaaGreat
