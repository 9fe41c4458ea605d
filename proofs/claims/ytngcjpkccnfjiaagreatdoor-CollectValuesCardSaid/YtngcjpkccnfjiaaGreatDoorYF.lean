/- Parts of lists; the search in a list. -/
import Derived.Test.YtngcjpkccnfjiaaGreatDoorYE
import Derived.Test.YtngcjpkccnfjiaaGreatDoorProg
import Derived.Test.YtngcjpkccnfjiaaGreatDoorYC
import Derived.KernelRfl
namespace Go.Proofs.YtngcjpkccnfjiaaGreatDoor
open Go Go.Ev
structure SI (h:Hp)(a:Option Addr)(n c:Nat)(W:List Int):Prop where
 at_:IntsAt h a n W
 cap: ∃vis,Ev.seen h 3 1 (.slice a n c)=some vis∧n≤vis∧vis<unk∧(a=none→vis=0)
theorem SI.to {h:Hp}(h':Hp) [k:Ft h h'] {a:Option Addr}{n c:Nat}{W:List Int}(s:SI h a n c W):SI h' a n c W:=by
 obtain⟨vis,e,q⟩:=s.cap
 refine⟨s.at_.to h',vis,?_,q⟩
 rw[←e]
 cases a with
 |none=>rfl
 |some ad=>
  obtain⟨o,off,vw⟩:=ad
  cases vw with
  |some _=>rfl
  |none=>
   simp only[Ev.seen]
   rcases s.at_.2 with ⟨_,h0⟩|⟨b,off',cs,e',m,h1,h2,h3,_⟩
   · cases h0
   · injection h1 with h1;injection h1 with h1
     subst h1
     rw[k.get o h2]
theorem SI.seen_to {h:Hp}(h':Hp) [k:Ft h h'] {a:Option Addr}{n c:Nat}{W:List Int}(s:SI h a n c W):Ev.seen h' 3 1 (.slice a n c)=Ev.seen h 3 1 (.slice a n c):=by
 cases a with
 |none=>rfl
 |some ad=>
  obtain⟨o,off,vw⟩:=ad
  cases vw with
  |some _=>rfl
  |none=>
   simp only[Ev.seen]
   rcases s.at_.2 with ⟨_,h0⟩|⟨b,off',cs,e',m,h1,h2,h3,_⟩
   · cases h0
   · injection h1 with h1;injection h1 with h1
     subst h1
     rw[k.get o h2]
theorem SI.fix {h:Hp}{a:Option Addr}{n c:Nat}{W:List Int}(s:IntsAt h a n W)(hn:n≤c)(hc:c<unk)(h0:a=none→c=0):SI h a n c W:=by
 refine⟨s,c,?_,hn,hc,h0⟩
 have hb:Nat.beq c unk=false:=by rw[Bool.eq_false_iff];intro hh;have:=Nat.eq_of_beq_eq_true hh;omega
 rcases s.2 with ⟨_,rfl⟩|⟨b,off',cs,e',m,rfl,h2,h3,_⟩
 · rfl
 · simp only[Ev.seen,hb,cond_false]
theorem SI.acc {h:Hp}{base:Nat}{a:Option Addr}{n c:Nat}{W:List Int}(s:AccI 3 h base a n c W)(hl:W.length<1000000000):SI h a n c W:=by
 have X:=s.ints
 have hn:=X.1
 refine⟨X,n,?_,Nat.le_refl _,by rw[hn];unfold unk;omega,?_⟩
 · rcases s with ⟨rfl,rfl,rfl,h4⟩|⟨o,rfl,rfl,h3,h4,h5,h6⟩
   · rfl
   · simp only[Ev.seen,Nat.beq_refl,cond_true,h6]
     have e5:Nat.blt 0 1=true:=rfl
     rw[e5]
     show some (((W.map (Value.int .i64)).length-0)/1)=some n
     rw[List.length_map,Nat.sub_zero,Nat.div_one,hn]
 · rintro rfl
   rcases s with ⟨_,h0,_⟩|⟨o,h0,_⟩
   · exact h0
   · cases h0
theorem bounds_lo {n vis l:Nat}(h1:l≤n):bounds n vis (some (.int .i64 (Int.ofNat l))) none none=some (l,n,vis):=by
 unfold bounds boundM boundH boundL boundV
 simp only[Option.bind_some]
 rw[ble_t h1];rfl
theorem bounds_hi {n vis r:Nat}(h2:r≤vis):bounds n vis none (some (.int .i64 (Int.ofNat r))) none=some (0,r,vis):=by
 unfold bounds boundM boundH boundL boundV
 simp only[Option.bind_some,Option.map_some]
 rw[ble_t h2];rfl
theorem bounds_lh {n vis l r:Nat}(h1:l≤r)(h2:r≤vis):bounds n vis (some (.int .i64 (Int.ofNat l))) (some (.int .i64 (Int.ofNat r))) none=some (l,r,vis):=by
 unfold bounds boundM boundH boundL boundV
 simp only[Option.bind_some]
 rw[ble_t h2]
 simp only[cond_true,Option.bind_some]
 rw[ble_t h1];rfl
theorem sz3:sz Tryz.prog 3=some 1:=by kernel_rfl
theorem SI.part {h:Hp}{a:Option Addr}{n c:Nat}{W:List Int}(s:SI h a n c W){l r:Nat}(h1:l≤r)(h2:r≤W.length){lo hi:Option Value}(hb: ∀vis,n≤vis→bounds n vis lo hi none=some (l,r,vis)):
 ∃a' c',sliceV Tryz.prog h 22 (.slice a n c) lo hi none=some (.slice a' (r-l) c')∧SI h a' (r-l) c' ((W.drop l).take (r-l)):=by
 obtain⟨vis,hs,hv,hvu,h0⟩:=s.cap
 have hn:=s.at_.1
 have hlen:((W.drop l).take (r-l)).length=r-l:=by simp;omega
 unfold sliceV
 rw[Tryz.underlying22]
 simp only[sz3,bind,Option.bind_some,hs,hb vis hv]
 rcases s.at_.2 with ⟨rfl,rfl⟩|⟨b,off,cs,e',m,rfl,h3,h4,h5,h6⟩
 · have h0:=h0 rfl
   have hn:n=0:=hn
   subst h0 hn
   have:r=0:=by simpa using h2
   subst this
   have:l=0:=by omega
   subst this
   refine⟨none,0,rfl,?_⟩
   simp only[Nat.sub_self,List.take_zero]
   exact SI.fix (SlAt.nil ..) (Nat.le_refl _) (by decide) fun _=>rfl
 · have part: ∀o2,(r-l=0∧o2=off∨o2=off+l*1)→IntsAt h (some ⟨b,o2,none⟩) (r-l) ((W.drop l).take (r-l)):=by
    intro o2 ho2
    refine⟨hlen.symm,.inr ⟨b,o2,cs,e',m,rfl,h3,h4,?_,fun i hi=> ?_⟩⟩
    · rw[hlen];omega
    · have hi2:i<r-l:=by rw[hlen]at hi;exact hi
      rcases ho2 with ⟨h0,_⟩|rfl
      · omega
      · have:=h6 (l+i) (by omega)
        rw[show off+l*1+i*1=off+(l+i)*1 by omega]
        rw[show((W.drop l).take (r-l))[i]=W[l+i] by simp]
        exact this
   by_cases hc:c=unk
   · subst hc
     simp only[Nat.beq_refl,Option.isNone_none,Bool.and_self,cond_true]
     refine⟨_,_,rfl,part _ (.inr rfl),?_⟩
     have hs:Ev.seen h 3 1 (.slice (some ⟨b,off,none⟩) n unk)=some vis:=hs
     simp only[Ev.seen,Nat.beq_refl,cond_true,h4]at hs ⊢
     cases m with
     |ro=>cases hs
     |fix=>cases hs
     |grow=>
      obtain⟨hq,hs⟩:=cond_some hs
      simp only[hq,cond_true]
      refine⟨_,rfl,?_,?_,fun h=>by cases h⟩
      · rw[Nat.div_one];omega
      · have:=Option.some.inj hs
        rw[Nat.div_one]at this ⊢
        omega
   · have hcb:Nat.beq c unk=false:=by rw[Bool.eq_false_iff];intro hh;exact hc (Nat.eq_of_beq_eq_true hh)
     have hs:Ev.seen h 3 1 (.slice (some ⟨b,off,none⟩) n c)=some vis:=hs
     simp only[Ev.seen,hcb,cond_false]at hs
     have hcv:c=vis:=Option.some.inj hs
     subst hcv
     simp only[hcb,Bool.false_and,cond_false]
     rw[blt_t hvu]
     simp only[cond_true]
     refine⟨_,_,rfl,SI.fix (part _ ?_) (by omega) (by omega) (fun h=>by cases h)⟩
     cases hml:Nat.beq c l with
     |true=>have:=Nat.eq_of_beq_eq_true hml;exact .inl ⟨by omega,rfl⟩
     |false=>exact .inr rfl
theorem lp132 {O:CallF}{h:Hp}{a:Option Addr}{n c:Nat}{xs:List Int}(X:IntsAt h a n xs)(hl:xs.length<1000000){g1:Nat}{fi ca:Array Value}{p:Int→Bool}(hp: ∀x∈xs,EvT O g1 (fi.toList++[.int .i64 x]++ca.toList) h (.bool (p x)) h){Q:Value→Hp→Prop}(Qt: ∀x:Int,0≤x→xs.any p=true→Q (.int .i64 x) h)(Qf:xs.any p=false→Q (.int .i64 (-1)) h)(x4:Int):
 ∀(d k:Nat),k+d=xs.length→(xs.take k).any p=false→I132_0 O Q a n c g1 fi ca g1 fi ca x4 (Int.ofNat k) h:=by
 have hn:=X.1
 intro d
 induction d with
 |zero=>
  intro k hk ht
  refine I132_0.of _ _ _ _ _ _ _ _ _ _ _ ?_
  unfold T132_0
  refine vcond_f (by rw[ltI_nat];exact blt_f (by omega)) (Qf ?_)
  rwa [List.take_of_length_le (by omega)]at ht
 |succ d ih=>
  intro k hk ht
  refine I132_0.of _ _ _ _ _ _ _ _ _ _ _ ?_
  unfold T132_0
  have hk':k<xs.length:=by omega
  refine vcond_t (by rw[ltI_nat];exact blt_t (by omega)) (isNat_i (X.rd hk' ⟨_,_,hp _ (List.getElem_mem hk'),vcond_split (fun h1=>Qt _ (Int.natCast_nonneg k) ?_) fun h1=> ?_⟩))
  · exact List.any_eq_true.2 ⟨_,List.getElem_mem hk',h1⟩
  · rw[wrap_succ (by omega)]
    refine ih (k+1) (by omega) ?_
    rw[List.take_add_one,List.any_append,ht,List.getElem?_eq_getElem hk']
    simp[h1]
theorem SI.slice_to {h:Hp}(h':Hp) [k:Ft h h'] {a:Option Addr}{n c:Nat}{W:List Int}(s:SI h a n c W)(lo hi:Option Value):sliceV Tryz.prog h' 22 (.slice a n c) lo hi none=sliceV Tryz.prog h 22 (.slice a n c) lo hi none:=by
 unfold sliceV
 rw[Tryz.underlying22]
 simp only[sz3,bind,Option.bind_some,s.seen_to h']
section
variable {O:CallF}(hO:Oth O)
include hO
theorem ct76 {h:Hp}{a:Option Addr}{n c:Nat}{xs:List Int}(X:IntsAt h a n xs)(hl:xs.length<1000000){g1:Nat}{fi ca:Array Value}{p:Int→Bool}(hp: ∀x∈xs,EvT O g1 (fi.toList++[.int .i64 x]++ca.toList) h (.bool (p x)) h):
 EvT O 76 [.slice a n c,.func (.func g1) fi ca] h (.bool (xs.any p)) h:=by
 have r:Ret Tryz.prog O 132 [.slice a n c,.func (.func g1) fi ca] h fun v h'=> ∃x,v= .int .i64 x∧h'=h∧(ltI x 0= !(xs.any p)):=by
  refine rk132 _ _ _ _ _ _ (hO _ _ _ (by decide)) ?_
  unfold T132
  exact lp132 X hl hp (fun x hx ha=>⟨x,rfl,rfl,by rw[ha];exact ltI_f (by omega)⟩) (fun ha=>⟨-1,rfl,rfl,by rw[ha];rfl⟩) 0 xs.length 0 (by omega) rfl
 obtain⟨v,h',e,x,rfl,rfl,hx⟩:=r
 have r2:Ret Tryz.prog O 76 [.slice a n c,.func (.func g1) fi ca] h' fun v h2=>v= .bool (xs.any p)∧h2=h':=by
  refine rk76 _ _ _ _ _ _ (hO _ _ _ (by decide)) ?_
  unfold T76
  refine⟨_,_,e,?_,rfl⟩
  rw[hx,Bool.not_not]
 obtain⟨v,h2,e2,rfl,rfl⟩:=r2
 exact e2
theorem ct123 (x:Int)(h:Hp):EvT O 123 [.int .i64 x] h (.bool (x !=0)) h:=by
 have r:Ret Tryz.prog O 123 [.int .i64 x] h fun v h2=>v= .bool (x !=0)∧h2=h:=by
  refine rk123 _ (hO _ _ _ (by decide)) ?_
  unfold T123
  refine⟨?_,rfl⟩
  congr 1
  rw[Bool.eq_iff_iff];simp[eqI_eq]
 obtain⟨v,h2,e2,rfl,rfl⟩:=r
 exact e2
theorem ct125 {h:Hp}{a:Option Addr}{n c:Nat}{begin:List Bool}(B:BoolsAt h a n begin){w:Int}(hw:In64 w){b1:Nat}(hb:readAt h b1 0 1=some [.slice a n c]):EvT O 125 [.int .i64 w,.pointer (some ⟨b1,0,none⟩)] h (.bool (!(wordB begin w))) h:=by
 have r:Ret Tryz.prog O 125 [.int .i64 w,.pointer (some ⟨b1,0,none⟩)] h fun v h2=>v= .bool (!(wordB begin w))∧h2=h:=by
  refine rk125 _ _ _ (hO _ _ _ (by decide)) ?_
  unfold T125
  exact⟨_,_,_,hb,_,_,ct100 hO B hw,rfl,rfl⟩
 obtain⟨v,h2,e2,rfl,rfl⟩:=r
 exact e2
theorem ct126 {h:Hp}{a:Option Addr}{n c:Nat}{begin:List Bool}(B:BoolsAt h a n begin){w k:Int}(hw:In64 w){b1 b2:Nat}(hb:readAt h b1 0 1=some [.slice a n c])(hb2:readAt h b2 0 1=some [.int .i64 k]):EvT O 126 [.int .i64 w,.pointer (some ⟨b1,0,none⟩),.pointer (some ⟨b2,0,none⟩)] h (.bool (!(fieldB begin k w))) h:=by
 have r:Ret Tryz.prog O 126 [.int .i64 w,.pointer (some ⟨b1,0,none⟩),.pointer (some ⟨b2,0,none⟩)] h fun v h2=>v= .bool (!(fieldB begin k w))∧h2=h:=by
  refine rk126 _ _ _ _ _ (hO _ _ _ (by decide)) ?_
  unfold T126
  exact⟨_,_,_,hb,_,hb2,_,_,ct78 hO B hw,rfl,rfl⟩
 obtain⟨v,h2,e2,rfl,rfl⟩:=r
 exact e2
end
set_option maxRecDepth 100000
def Lp.begun (r:Lp):Lp:=⟨1,r.pend,r.t,r.ps,r.asg,r.body⟩
structure But (L:Nat)(h h':Hp):Prop where
 get: ∀o,o≠L→h'.get o=h.get o
 nx:h'.nx=h.nx
 gd:h'.gd=h.gd
theorem put_but {h:Hp}{L:Nat}{x:Option Ob}(hg:h.guarded L=false): ∃h',h.put L x=some h'∧h'.get L=x∧But L h h':=by
 have: ∃h',h.put L x=some h':=by unfold Hp.put;rw[hg];exact⟨_,rfl⟩
 obtain⟨h',hp⟩:=this
 obtain⟨p1,p2,_,p4⟩:=Hp.get_put hp
 have p4: ∀q,h'.get q=if q=L then x else h.get q:=p4
 exact⟨h',hp,by rw[p4,if_pos rfl],fun o ho=>by rw[p4,if_neg ho],p1,p2⟩
theorem vbeg_t {L:Nat}{h:Hp}{K:Hp→Prop}{r:Lp}(hg:h.get L=some (.loop r))(hs:r.st=0)(hu:h.guarded L=false)(next: ∀h',h'.get L=some (.loop (Lp.begun r))→But L h h'→K h'):vbeg L h K:=by
 unfold vbeg roundIn
 rw[hg]
 simp only[hs,Nat.beq_refl,cond_true]
 obtain⟨h',hp,g,b⟩:=put_but (x:=some (.loop (Lp.begun r))) hu
 rw[show h.put L (some (.loop ⟨1,r.pend,r.t,r.ps,r.asg,r.body⟩))=some h' from hp]
 exact next h' g b
theorem vout_n {L:Nat}{h:Hp}{Q:Value→Hp→Prop}{r:Lp}(hg:h.get L=some (.loop (Lp.begun r)))(hs:r.st=0)(hp:r.pend=none)(hu:h.guarded L=false)(next: ∀h',h'.get L=some (.loop r)→But L h h'→Q (.bool true) h'):vout L .normal h Q:=by
 unfold vout roundOut
 rw[hg]
 obtain⟨h',hq,g,b⟩:=put_but (x:=some (.loop r)) hu
 have e:(⟨bif isNone (jumpOf .normal)then 0 else 2,jumpOf .normal,(Lp.begun r).t,(Lp.begun r).ps,(Lp.begun r).asg,(Lp.begun r).body⟩:Lp)=r:=by
  obtain⟨st,pend,t,ps,asg,body⟩:=r
  simp only at hs hp
  subst hs hp;rfl
 simp only[e,hq,Option.map_some]
 exact next h' g b
theorem vout_r {L:Nat}{h:Hp}{Q:Value→Hp→Prop}{r:Lp}(hg:h.get L=some (.loop (Lp.begun r)))(hu:h.guarded L=false)(next: ∀h' r',h'.get L=some (.loop r')→r'.st=2→r'.pend=some .ret→But L h h'→Q (.bool false) h'):vout L .ret h Q:=by
 unfold vout roundOut
 rw[hg]
 obtain⟨h',hq,g,b⟩:=put_but (x:=some (.loop ⟨2,some .ret,r.t,r.ps,r.asg,r.body⟩)) hu
 show(match (h.put L (some (.loop ⟨2,some .ret,r.t,r.ps,r.asg,r.body⟩))).map fun h'=>(Value.bool false,h')with
  |some r=>Q r.1 r.2
  |none=>False)
 rw[hq]
 exact next h' _ g rfl rfl b
theorem del_but (h:Hp)(L:Nat):But L h (h.del L):=⟨fun o ho=>by show Tr.get none (Tr.upd none h.t L none) o=_;rw[Tr.get_upd,if_neg ho];rfl,rfl,rfl⟩
theorem vend_n {L:Nat}{h:Hp}{N R:Hp→Prop}{r:Lp}(hg:h.get L=some (.loop r))(hs:r.st≠1)(hp:r.pend=none)(hu:h.guarded L=false)(next:But L h (h.del L)→N (h.del L)):vend L h N R:=by
 unfold vend
 refine vreq_t (by rw[hu];rfl) ?_
 have:h.pend L=some none:=by
  unfold Hp.pend
  rw[hg]
  have:Nat.beq r.st 1=false:=by rw[Bool.eq_false_iff];intro hh;exact hs (Nat.eq_of_beq_eq_true hh)
  simp only[this,cond_false,hp]
 rw[this]
 exact next (del_but h L)
theorem vend_r {L:Nat}{h:Hp}{N R:Hp→Prop}{r:Lp}(hg:h.get L=some (.loop r))(hs:r.st≠1)(hp:r.pend=some .ret)(hu:h.guarded L=false)(next:But L h (h.del L)→R (h.del L)):vend L h N R:=by
 unfold vend
 refine vreq_t (by rw[hu];rfl) ?_
 have:h.pend L=some (some .ret):=by
  unfold Hp.pend
  rw[hg]
  have:Nat.beq r.st 1=false:=by rw[Bool.eq_false_iff];intro hh;exact hs (Nat.eq_of_beq_eq_true hh)
  simp only[this,cond_false,hp]
 rw[this]
 exact next (del_but h L)
theorem But.kp {L m:Nat}{h h':Hp}(b:But L h h')(hm:m≤L)(hL:L<h.nx):Kp m h h':=⟨fun o ho=>b.get o (by omega),by rw[b.nx];exact Nat.le_refl _,b.gd,fun f o ho=>by rw[b.nx]at ho;rw[b.get o (by omega)];exact f o ho⟩
def fieldsW (W:List Int)(p:Nat):List Int:=(W.drop (p+1)).take (hdS (W.getD p 0)).toNat
theorem cellsG_le {W:List Int}{top:Nat}: ∀ {f p:Nat}{l:List Nat},cellsG W top f p=some l→p≤top:=by
 intro f p l h
 cases f with
 |zero=>cases h
 |succ f=>
  unfold cellsG at h
  split at h
  · omega
  · split at h
    · omega
    · cases h
theorem cellsG_cons {W:List Int}{top:Nat}{f p:Nat}{l:List Nat}(h:cellsG W top (f+1) p=some l):(p<top∧0≤W.getD p 0∧goodB (hdS (W.getD p 0)) (hdK (W.getD p 0))=true∧ ∃l',l=p::l'∧cellsG W top f (p+1+(hdS (W.getD p 0)).toNat)=some l')∨(p=top∧l=[]):=by
 unfold cellsG at h
 split at h
 · split at h
   · cases h
   · rename_i h1 h2
     obtain⟨l',h3,h4⟩:=Option.map_eq_some_iff.1 h
     exact .inl ⟨h1,by omega,by cases hg:goodB (hdS (W.getD p 0)) (hdK (W.getD p 0))<;>simp_all,l',h4.symm,h3⟩
 · split at h
   · exact .inr ⟨‹_›,(Option.some.inj h).symm⟩
   · cases h
section
variable {O:CallF}(hO:Oth O)
include hO
theorem lp138 {aw:Option Addr}{nw cw:Nat}{W:List Int}{top:Nat}(hR: ∀x∈W,In64 x)(htop:top≤W.length)(hl:W.length<1000000){y b1 b2 b3:Nat}{Inv:List Nat→Hp→Prop}{Brk:Hp→Prop}
 (hI: ∀l g,Inv l g→g.Ok∧readAt g b2 0 1=some [.int .i64 (Int.ofNat top)]∧readAt g b3 0 1=some [.slice aw nw cw]∧SI g aw nw cw W)
 (hS: ∀l g g',Inv l g→Kp g.nx g g'→Inv l g')
 (hr: ∀p l g a n c,Inv (p::l) g→p<top→0≤W.getD p 0→goodB (hdS (W.getD p 0)) (hdK (W.getD p 0))=true→SI g a n c (fieldsW W p)→Ret Tryz.prog O (yB+y) [.int .i64 (Int.ofNat p),.slice a n c] g fun v g'=>(v= .bool true∧Inv l g')∨(v= .bool false∧Brk g')):
 ∀(f p:Nat) (l:List Nat) (g:Hp),cellsG W top f p=some l→Inv l g→I138_0 O (fun v g'=>v=undef∧(Inv [] g'∨Brk g')) y b1 0 b2 0 b3 0 (Int.ofNat p) g:=by
 intro f
 induction f with
 |zero=>intro p l g hc;cases hc
 |succ f ih=>
  intro p l g hc hi
  refine I138_0.of _ _ _ _ _ _ _ _ ?_
  unfold T138_0
  obtain⟨ok,r2,r3,si⟩:=hI _ _ hi
  refine⟨_,r2,?_⟩
  rcases cellsG_cons hc with ⟨h1,h2,h3,l',rfl,h4⟩|⟨rfl,rfl⟩
  · have hpW:p<W.length:=by omega
    have gW:W.getD p 0=W[p]:=by simp[List.getD,List.getElem?_eq_getElem hpW]
    refine vcond_t (by rw[ltI_nat];exact blt_t h1) ⟨_,_,_,r3,isNat_i (si.at_.rd hpW (ct86 hO ok (hR _ (List.getElem_mem hpW)) fun g2 k2=> ?_))⟩
    have hi2:=hS _ _ _ hi k2
    obtain⟨ok2,_,r32,si2⟩:=hI _ _ hi2
    have hle:=cellsG_le h4
    obtain⟨s1,s2⟩:=hdS_bnd h2 h3
    rw[gW]at s1 s2 hle h4
    obtain⟨m,hm⟩: ∃m:Nat,hdS W[p]=Int.ofNat m:=Int.eq_ofNat_of_zero_le s1
    have hm2:m≤20:=by rw[hm]at s2;exact Int.ofNat_le.1 s2
    rw[hm]at hle h4
    have hle:p+1+m≤top:=hle
    have e0:wrapF .i64 (Int.ofNat p+1)=Int.ofNat (p+1):=wrap_succ (by omega)
    have e1:wrapF .i64 (Int.ofNat (p+1)+hdS W[p])=Int.ofNat (p+1+m):=by
     rw[hm,wrap64 (by simp;omega) (by simp;omega)];simp
    rw[e0,e1]
    obtain⟨a',c',es,sp⟩:=si2.part (l:=p+1) (r:=p+1+m) (by omega) (by omega) (lo:=some (.int .i64 (Int.ofNat (p+1)))) (hi:=some (.int .i64 (Int.ofNat (p+1+m)))) (fun vis hv=>bounds_lh (by omega) (by have:=si2.at_.1;omega))
    refine⟨_,_,_,r32,_,_,_,es,?_⟩
    have hf:(W.drop (p+1)).take (p+1+m-(p+1))=fieldsW W p:=by
     unfold fieldsW
     rw[gW,hm]
     congr 1
     show p+1+m-(p+1)=m
     omega
    rw[hf]at sp
    obtain⟨v,g3,e3,hv⟩:=hr p l' g2 _ _ _ hi2 h1 h2 h3 sp
    rcases hv with ⟨rfl,hi3⟩|⟨rfl,hb⟩
    · refine⟨_,_,e3,vcond_f rfl ?_⟩
      exact ih (p+1+m) l' g3 h4 hi3
    · exact⟨_,_,e3,vcond_t rfl ⟨rfl,.inr hb⟩⟩
  · exact vcond_f (by rw[ltI_nat];exact blt_f (by omega)) ⟨rfl,.inl hi⟩
theorem range138 {aw:Option Addr}{nw cw:Nat}{W:List Int}{top:Nat}(hR: ∀x∈W,In64 x)(htop:top≤W.length)(hl:W.length<1000000){b1 b2 b3:Nat}{Inv:Lp→List Nat→Hp→Prop}{Brk:Hp→Prop}{h:Hp}{r0:Lp}{p f:Nat}{l:List Nat}
 (hc:cellsG W top f p=some l) (rb:readAt (h.add (.loop r0)) b1 0 1=some [.int .i64 (Int.ofNat p)]) (h0:Inv r0 l (h.add (.loop r0)))
 (hI: ∀l g,Inv r0 l g→g.Ok∧readAt g b2 0 1=some [.int .i64 (Int.ofNat top)]∧readAt g b3 0 1=some [.slice aw nw cw]∧SI g aw nw cw W)
 (hS: ∀l g g',Inv r0 l g→Kp g.nx g g'→Inv r0 l g')
 (hr: ∀p l g a n c,Inv r0 (p::l) g→p<top→0≤W.getD p 0→goodB (hdS (W.getD p 0)) (hdK (W.getD p 0))=true→SI g a n c (fieldsW W p)→Ret Tryz.prog O (yB+h.nx) [.int .i64 (Int.ofNat p),.slice a n c] g fun v g'=>(v= .bool true∧Inv r0 l g')∨(v= .bool false∧Brk g'))
 {N R:Hp→Prop} (hN: ∀g,Inv r0 [] g→vend h.nx g N R) (hB: ∀g,Brk g→vend h.nx g N R):
 ∃h2,EvT O 138 [.func (.yield h.nx) #[] #[],.pointer (some ⟨b1,0,none⟩),.pointer (some ⟨b2,0,none⟩),.pointer (some ⟨b3,0,none⟩)] (h.add (.loop r0)) undef h2∧vend h.nx h2 N R:=by
 have r:Ret Tryz.prog O 138 [.func (.yield h.nx) #[] #[],.pointer (some ⟨b1,0,none⟩),.pointer (some ⟨b2,0,none⟩),.pointer (some ⟨b3,0,none⟩)] (h.add (.loop r0)) fun v g'=>v=undef∧(Inv r0 [] g'∨Brk g'):=by
  refine rk138 _ _ _ _ _ _ _ (hO _ _ _ (by decide)) ?_
  unfold T138
  exact⟨_,rb,lp138 hO (Inv:=Inv r0) hR htop hl hI hS hr f p l _ hc h0⟩
 obtain⟨v,h2,e,rfl,hv⟩:=r
 exact⟨h2,e,hv.elim (hN _) (hB _)⟩
theorem ct105 {h:Hp}{a:Option Addr}{n c:Nat}{x y:Int}{K:Nat→Array Value→Array Value→Hp→Prop}(next: ∀g1 g2 g3,g1=h.add (.cells [.slice a n c] 22 .fix)→g2=g1.add (.cells [.int .i64 x] 3 .fix)→g3=g2.add (.cells [.int .i64 y] 3 .fix)→K 138 #[] #[.pointer (some ⟨g1.nx,0,none⟩),.pointer (some ⟨g2.nx,0,none⟩),.pointer (some ⟨h.nx,0,none⟩)] g3):
 ∃k fi ca h',EvT O 105 [.slice a n c,.int .i64 x,.int .i64 y] h (.func (.func k) fi ca) h'∧K k fi ca h':=by
 have r:Ret Tryz.prog O 105 [.slice a n c,.int .i64 x,.int .i64 y] h fun v h'=> ∃k fi ca,v= .func (.func k) fi ca∧K k fi ca h':=by
  refine rk105 _ _ _ _ _ (hO _ _ _ (by decide)) ?_
  unfold T105
  intro g1 g2 g3
  exact⟨138,#[],_,rfl,next g1 g2 g3 rfl rfl rfl⟩
 obtain⟨v,h',e,k,fi,ca,rfl,hk⟩:=r
 exact⟨k,fi,ca,h',e,hk⟩
omit hO in
theorem body138:(Nat.blt 138 yB&&hasBody Tryz.prog 138)=true:=by kernel_rfl
end
def beginP (W:List Int)(l:List Nat):List Bool:=setAll (List.replicate W.length false) l
def okc (W:List Int)(begin:List Bool)(p:Nat):Bool:=(fieldsW W p).all (fieldB begin (hdK (W.getD p 0)))
def checkP (W:List Int)(top:Int)(R:List Int):Option (List Nat):=
 if W.length<1∨200<W.length∨top<1∨(W.length:Int)<top∨W.getD 0 0≠0∨10<R.length then none
 else if (W.drop top.toNat).any (· !=0)then none
 else match cellsG W top.toNat (top.toNat+1) 1 with
  |none=>none
  |some l=>if R.any (fun w=> !(wordB (beginP W l) w))then none else if l.all (okc W (beginP W l))then some l else none
theorem SlAt.but {α:Type}{w:Nat}{R:Enc α}(hR: ∀h h' x vs,R h x vs→R h' x vs){h h':Hp}{L:Nat}{r:Lp}(b:But L h h')(hL:h.get L=some (.loop r)){a:Option Addr}{n:Nat}{xs:List α}(H:SlAt w R h a n xs):SlAt w R h' a n xs:=by
 refine⟨H.1,H.2.imp id ?_⟩
 rintro⟨o,off,c,e,m,h1,h2,h3,h4,h5⟩
 refine⟨o,off,c,e,m,h1,by rw[b.nx];exact h2,?_,h4,fun i hi=>hR _ _ _ _ (h5 i hi)⟩
 rw[b.get o (fun hh=>by subst hh;rw[hL]at h3;cases h3)]
 exact h3
theorem IntsAt.but {h h':Hp}{L:Nat}{r:Lp}(b:But L h h')(hL:h.get L=some (.loop r)){a:Option Addr}{n:Nat}{xs:List Int}(H:IntsAt h a n xs):IntsAt h' a n xs:=SlAt.but (fun _ _ _ _ h=>h) b hL H
theorem yB_ne {L:Nat}:yB+L≠14∧yB+L≠54:=⟨Nat.ne_of_gt (Nat.lt_of_lt_of_le (by decide:14<yB) (Nat.le_add_right ..)),Nat.ne_of_gt (Nat.lt_of_lt_of_le (by decide:54<yB) (Nat.le_add_right ..))⟩
theorem one_wr {h:Hp}{b:Nat}{v w:Value}{e:TypeId}(g:h.get b=some (.cells [v] e .fix))(gd:h.guarded b=false)(h1:one w=true):canW h b 0 [w]=true∧(h.wr b 0 [w]).get b=some (.cells [w] e .fix):=by
 have a:[w].all one=true:=by simp[h1]
 exact⟨canW_t g (by decide) gd (by simp) a,wr_get g (by decide) gd (by simp) a⟩
theorem IntsAt.rd0 {g h:Hp}{a:Option Addr}{n:Nat}{xs:List Int}(H:IntsAt g a n xs) [Ft g h] (hk:0<xs.length){K:Int→Prop}(next:K xs[0]):
 isAddr a fun b off=>vreq (Nat.blt 0 n) (∃x,readAt h b (off+0) 1=some [.int .i64 x]∧K x):=IntsAt.rd H hk next
section
variable {O:CallF}(hO:Oth O)
include hO
def QC (g:Hp)(W:List Int)(top:Int)(R:List Int):Value→Hp→Prop:=fun v h'=> ∃a n c x,v= .tuple #[.slice a n c,.int .i64 x]∧Kp g.nx g h'∧match checkP W top R with
 |none=>x=2
 |some l=>x=0∧BoolsAt h' a n (beginP W l)
omit hO in
theorem bad_block {g h:Hp}{b2 b3:Nat}{v w:Value}(ok:g.Ok)(kp:Kp g.nx g h)(g2:h.get b2=some (.cells [v] 102 .fix))(g3:h.get b3=some (.cells [w] 27 .fix))(h2:g.nx≤b2)(h3:g.nx≤b3)(hne:b2≠b3){K:Value→Hp→Prop}
 (next: ∀h',Kp g.nx g h'→h'.get b2=some (.cells [.slice none 0 0] 102 .fix)→h'.get b3=some (.cells [.int .i64 2] 27 .fix)→(∀o,o≠b2→o≠b3→h'.get o=h.get o)→h'.nx=h.nx→K (.tuple #[.slice none 0 0,.int .i64 2]) h'):
 vreq (canW h b2 0 [.slice none 0 0]) (let k1:Hp:=h.wr b2 0 [.slice none 0 0]
  vreq (canW k1 b3 0 [.int .i64 2]) (let k2:Hp:=k1.wr b3 0 [.int .i64 2]
   ∃a n c,readAt k2 b2 0 1=some [.slice a n c]∧ ∃x,readAt k2 b3 0 1=some [.int .i64 x]∧K (.tuple #[.slice a n c,.int .i64 x]) k2)):=by
 have gd:GdLt h g.nx:=ok.lt.kp kp
 obtain⟨c1,w1⟩:=one_wr g2 (gd.free h2) (w:= .slice none 0 0) rfl
 refine vreq_t c1 ?_
 intro k1
 have g3':k1.get b3=some (.cells [w] 27 .fix):=(wr_get_ne _ _ _ _ (Ne.symm hne)).trans g3
 have gd1:GdLt k1 g.nx:=fun q hq=>gd q (by rwa [show k1.gd=h.gd from gd_wr ..]at hq)
 obtain⟨c2,w2⟩:=one_wr g3' (gd1.free h3) (w:= .int .i64 2) rfl
 refine vreq_t c2 ?_
 intro k2
 have w1':k2.get b2=some (.cells [.slice none 0 0] 102 .fix):=(wr_get_ne _ _ _ _ hne).trans w1
 refine⟨_,_,_,read1 (i:=0) w1' rfl,_,read1 (i:=0) w2 rfl,next k2 ((kp.wr h2 _ _).wr h3 _ _) w1' w2 (fun o h4 h5=>(wr_get_ne _ _ _ _ h5).trans (wr_get_ne _ _ _ _ h4)) ?_⟩
 rw[nx_wr,nx_wr]
theorem ct65 {g:Hp}(ok:g.Ok){aw:Option Addr}{nw cw:Nat}{W:List Int}{top:Int}(HW:SI g aw nw cw W)(hW: ∀x∈W,In64 x){ar:Option Addr}{nr cr:Nat}{R:List Int}(HR:IntsAt g ar nr R)(hR: ∀x∈R,In64 x)(tb:Tb g):
 Ret Tryz.prog O 65 [.agg #[.slice aw nw cw,.int .i64 top,.slice ar nr cr]] g (QC g W top R):=by
 refine rk65 _ _ _ _ _ _ _ (hO _ _ _ (by decide)) ?_
 unfold T65
 intro g1 g2 g3
 have hn:=HW.at_.1
 have hnr:=HR.1
 have n1:g1.nx=g.nx+1:=rfl
 have n2:g2.nx=g.nx+2:=rfl
 have n3:g3.nx=g.nx+3:=rfl
 have k3:Kp g.nx g g3:=(((Kp.refl _ g).add (Nat.le_refl _) _).add (Nat.le_succ _) _).add (by rw[nx_add,nx_add];omega) _
 have s3:g3.get g.nx=some (.cells [.slice aw nw cw,.int .i64 top,.slice ar nr cr] 24 .fix):=by
  rw[show g3.get g.nx=_ from get_add_ne (by omega),show g2.get g.nx=_ from get_add_ne (by omega)];exact get_add_same ..
 have p2:g3.get g1.nx=some (.cells [.slice none 0 0] 102 .fix):=by
  rw[show g3.get g1.nx=_ from get_add_ne (by omega)];exact get_add_same ..
 have p3:g3.get g2.nx=some (.cells [.int .i64 0] 27 .fix):=get_add_same ..
 have bad:checkP W top R=none→I65_0 O (QC g W top R) aw nw cw top ar nr cr g.nx 0 g1.nx 0 g2.nx 0 g3:=fun hc=>by
  refine I65_0.of _ _ _ _ _ _ _ _ _ _ _ _ _ ?_
  unfold T65_0
  exact bad_block ok k3 p2 p3 (by omega) (by omega) (by omega) fun h' k _ _ _ _=>⟨_,_,_,_,rfl,k,by rw[hc]⟩
 haveI f3:Ft g g3:=k3.ex (Nat.le_refl _)
 refine⟨_,_,_,read1 (i:=0) s3 rfl,vcond_split (fun h1=>bad ?_) fun h1=>vcond_split (fun h2=>bad ?_) fun h2=> ?_⟩
 · have h1:=lt_of_t h1
   unfold checkP;rw[if_pos (.inl (by rw[hn]at h1;exact Int.ofNat_lt.1 h1))]
 · have h2:=lt_of_t h2
   unfold checkP;rw[if_pos (.inr (.inl (by rw[hn]at h2;exact Int.ofNat_lt.1 h2)))]
 have h1:1≤W.length:=by have:=not_lt_of_f h1;rw[hn]at this;simp at this;omega
 have h2:W.length≤200:=by have:=not_lt_of_f h2;rw[hn]at this;simp at this;omega
 refine⟨_,read1 (i:=1) s3 rfl,vcond_split (fun h3=>bad ?_) fun h3=> ?_⟩
 · unfold checkP;rw[if_pos (.inr (.inr (.inl (lt_of_t h3))))]
 refine⟨_,read1 (i:=1) s3 rfl,vcond_split (fun h4=>bad ?_) fun h4=> ?_⟩
 · unfold checkP;rw[if_pos (.inr (.inr (.inr (.inl (by have:=lt_of_t h4;rw[hn]at this;exact this)))))]
 obtain⟨tp,rfl⟩: ∃m:Nat,top=Int.ofNat m:=Int.eq_ofNat_of_zero_le (by have:=not_lt_of_f h3;omega)
 have h3:1≤tp:=by have:=not_lt_of_f h3;simp at this;omega
 have h4:tp≤W.length:=by have:=not_lt_of_f h4;rw[hn]at this;exact Int.ofNat_le.1 (by simpa using this)
 have gW:W.getD 0 0=W[0]:=by simp[List.getD,List.getElem?_eq_getElem h1]
 refine⟨_,_,_,read1 (i:=0) s3 rfl,?_⟩
 refine IntsAt.get HW.at_ (k:=0) h1 fun b0 f0 _ hb0 hr0=>vreq_t (blt_t (by omega)) ⟨_,by rw[readAt_ex (g:=g) hb0];exact hr0,?_⟩
 refine vcond_split (fun h5=>bad ?_) fun h5=> ?_
 · unfold checkP;rw[if_pos (.inr (.inr (.inr (.inr (.inl (by rw[gW];exact ne_of_f (by simpa using h5)))))))]
 have h5:W.getD 0 0=0:=by rw[gW];exact eq_of_t (by simpa using h5)
 refine⟨_,_,_,read1 (i:=2) s3 rfl,vcond_split (fun h6=>bad ?_) fun h6=> ?_⟩
 · unfold checkP;rw[if_pos (.inr (.inr (.inr (.inr (.inr (by have:=lt_of_t h6;rw[hnr]at this;simp at this;omega))))))]
 have h6:R.length≤10:=by have:=not_lt_of_f h6;rw[hnr]at this;simp at this;omega
 have c0:checkP W (Int.ofNat tp) R=if (W.drop tp).any (· !=0)then none
  else match cellsG W tp (tp+1) 1 with
   |none=>none
   |some l=>if R.any (fun w=> !(wordB (beginP W l) w))then none else if l.all (okc W (beginP W l))then some l else none:=by
  unfold checkP
  rw[if_neg ?_]
  · rfl
  · rintro(h|h|h|h|h|h)
    · omega
    · omega
    · have:(Int.ofNat tp:Int)=(tp:Int):=rfl
      omega
    · have:(Int.ofNat tp:Int)=(tp:Int):=rfl
      omega
    · exact h h5
    · omega
 obtain⟨a',c',es,sp⟩:=(HW.to g3).part (l:=tp) (r:=W.length) h4 (Nat.le_refl _) (lo:=some (.int .i64 (Int.ofNat tp))) (hi:=none) (fun vis hv=>by rw[hn];exact bounds_lo h4)
 refine⟨_,_,_,read1 (i:=0) s3 rfl,_,read1 (i:=1) s3 rfl,_,_,_,es,_,_,ct76 hO sp.at_ (by simp;omega) (p:=fun x=>x !=0) (fun x _=>ct123 hO x g3),?_⟩
 have hdt:(W.drop tp).take (W.length-tp)=W.drop tp:=List.take_of_length_le (by simp)
 rw[hdt]
 refine vcond_split (fun h7=> ?_) fun h7=> ?_
 · exact bad_block ok k3 p2 p3 (by omega) (by omega) (by omega) fun h' k _ _ _ _=>⟨_,_,_,_,rfl,k,by rw[c0,if_pos h7]⟩
 rw[if_neg (by rw[h7];exact Bool.false_ne_true)]at c0
 refine⟨_,_,_,_,_,_,_,by rw[readAt_get s3 (by simp)];rfl,?_⟩
 have ok3:g3.Ok:=ok.kp k3
 have n0:0<g.nx:=by have:=tb.1;omega
 refine ct124 hO ok3 (HW.at_.to g3) hW h3 h4 (by omega) (tb.kp k3 n0) (fun a n c h44 k4 hc=> ?_) fun l a n c h44 hc k4 B fresh=> ?_
 · intro g45
   have k44:Kp g.nx g h44:=k3.trans (k4.le (by omega))
   have ok44:h44.Ok:=ok.kp k44
   have m4:=k4.nx
   have q2:h44.get g1.nx=_:=(k4.get g1.nx (by omega)).trans p2
   have q3:h44.get g2.nx=_:=(k4.get g2.nx (by omega)).trans p3
   have k45:Kp g.nx g g45:=k44.add k44.nx _
   have gd45:GdLt g45 g.nx:=ok.lt.kp k45
   obtain⟨c1,w1⟩:=one_wr (show g45.get h44.nx=_ from get_add_same ..) (gd45.free k44.nx) (w:= .slice a n c) rfl
   refine vreq_t c1 ?_
   intro g46
   have k46:Kp g.nx g g46:=k45.wr k44.nx _ _
   refine vcond_t rfl ?_
   have r2:g46.get g1.nx=_:=(wr_get_ne _ _ _ _ (by omega)).trans ((get_add_ne (by omega)).trans q2)
   have r3:g46.get g2.nx=_:=(wr_get_ne _ _ _ _ (by omega)).trans ((get_add_ne (by omega)).trans q3)
   exact bad_block ok k46 r2 r3 (by omega) (by omega) (by omega) fun h' k _ _ _ _=>⟨_,_,_,_,rfl,k,by rw[c0,hc]⟩
 · intro g45
   rw[hc]at c0
   simp only at c0
   have k44:Kp g.nx g h44:=k3.trans (k4.le (by omega))
   have ok44:h44.Ok:=ok.kp k44
   have m4:=k4.nx
   have q1:h44.get g.nx=_:=(k4.get g.nx (by omega)).trans s3
   have q2:h44.get g1.nx=_:=(k4.get g1.nx (by omega)).trans p2
   have q3:h44.get g2.nx=_:=(k4.get g2.nx (by omega)).trans p3
   have k45:Kp g.nx g g45:=k44.add k44.nx _
   have gd45:GdLt g45 g.nx:=ok.lt.kp k45
   obtain⟨c1,w1⟩:=one_wr (show g45.get h44.nx=_ from get_add_same ..) (gd45.free k44.nx) (w:= .slice a n c) rfl
   refine vreq_t c1 ?_
   intro g46
   have n46:g46.nx=h44.nx+1:=by show(Hp.wr _ _ _ _).nx=_;rw[nx_wr,nx_add]
   have e46:Kp h44.nx h44 g46:=((Kp.refl _ h44).add (Nat.le_refl _) _).wr (Nat.le_refl _) _ _
   have k46:Kp g.nx g g46:=k45.wr k44.nx _ _
   have r1:g46.get g.nx=_:=(e46.get _ (by omega)).trans q1
   have r2:g46.get g1.nx=_:=(e46.get _ (by omega)).trans q2
   have r3:g46.get g2.nx=_:=(e46.get _ (by omega)).trans q3
   haveI f46:Ft g g46:=k46.ex (Nat.le_refl _)
   haveI e46':Ft h44 g46:=e46.ex (Nat.le_refl _)
   have B46:BoolsAt g46 a n (beginP W l):=B.to g46
   refine vcond_f rfl ⟨_,_,_,read1 (i:=2) r1 rfl,_,_,ct76 hO (HR.to g46) (by omega) (p:=fun w=> !(wordB (beginP W l) w)) (fun x hx=>ct125 hO B46 (hR x hx) (read1 (i:=0) w1 rfl)),vcond_split (fun h8=> ?_) fun h8=> ?_⟩
   · exact bad_block ok k46 r2 r3 (by omega) (by omega) (by omega) fun h' k _ _ _ _=>⟨_,_,_,_,rfl,k,by rw[c0,if_pos h8]⟩
   rw[if_neg (by rw[h8];exact Bool.false_ne_true)]at c0
   refine⟨_,_,_,read1 (i:=0) r1 rfl,_,read1 (i:=1) r1 rfl,ct105 hO fun u1 u2 u3 eu1 eu2 eu3=>vreq_t body138 ?_⟩
   have nu1:u1.nx=h44.nx+2:=by rw[eu1,nx_add,n46]
   have nu2:u2.nx=h44.nx+3:=by rw[eu2,nx_add,nu1]
   have nu3:u3.nx=h44.nx+4:=by rw[eu3,nx_add,nu2]
   have eu:Kp h44.nx h44 u3:=by
    rw[eu3,eu2,eu1]
    exact((e46.add e46.nx _).add (by rw[nx_add];omega) _).add (by rw[nx_add,nx_add];omega) _
   have v5:u3.get h44.nx=some (.cells [.slice a n c] 102 .fix):=by
    rw[eu3,get_add_ne (by omega),eu2,get_add_ne (by omega),eu1,get_add_ne (by omega)];exact w1
   have vw:u3.get g46.nx=some (.cells [.slice aw nw cw] 22 .fix):=by
    rw[eu3,get_add_ne (by omega),eu2,get_add_ne (by omega),eu1];exact get_add_same ..
   have vf:u3.get u1.nx=some (.cells [.int .i64 1] 3 .fix):=by
    rw[eu3,get_add_ne (by omega),eu2];exact get_add_same ..
   have vt:u3.get u2.nx=some (.cells [.int .i64 (Int.ofNat tp)] 3 .fix):=by rw[eu3];exact get_add_same ..
   have ku:Kp g.nx g u3:=k44.trans (eu.le k44.nx)
   have hne:u3.nx≠g.nx:=by have:=ku.nx;omega
   refine range138 hO (aw:=aw) (nw:=nw) (cw:=cw) (h:=u3) (Inv:=fun r0 l' x=>Kp u3.nx (u3.add (.loop r0)) x∧x.Ok∧u3.nx<x.nx∧x.get u3.nx=some (.loop r0)∧l.all (okc W (beginP W l))=l'.all (okc W (beginP W l)))
    (Brk:=fun x=>Kp g.nx g x∧u3.nx<x.nx∧(∃r',x.get u3.nx=some (.loop r')∧r'.st=2∧r'.pend=some .ret)∧x.get g1.nx=some (.cells [.slice none 0 0] 102 .fix)∧x.get g2.nx=some (.cells [.int .i64 2] 27 .fix)∧l.all (okc W (beginP W l))=false)
    hW h4 (by omega) hc (read1 (i:=0) ((get_add_ne (by omega)).trans vf) rfl) ⟨Kp.refl _ _,(ok.kp ku).add _,Nat.lt_succ_self _,get_add_same ..,rfl⟩ ?_ ?_ ?_ ?_ ?_
   · rintro l' x ⟨kx,okx,nx,gx,_⟩
     have kx0:Kp u3.nx u3 x:=((Kp.refl _ u3).add (Nat.le_refl _) _).trans kx
     refine⟨okx,read1 (i:=0) ((kx0.get _ (by omega)).trans vt) rfl,read1 (i:=0) ((kx0.get _ (by omega)).trans vw) rfl,?_⟩
     haveI:Ft g x:=(ku.trans (kx0.le ku.nx)).ex (Nat.le_refl _)
     exact HW.to x
   · rintro l' x x' ⟨kx,okx,nx,gx,ha⟩ k
     exact⟨kx.trans (k.le (by omega)),okx.kp k,Nat.lt_of_lt_of_le nx k.nx,(k.get _ nx).trans gx,ha⟩
   · rintro p l' x a3 n3 c3 ⟨kx,okx,nx,gx,ha⟩ hpt hp0 hgd sp
     have kx0:Kp u3.nx u3 x:=((Kp.refl _ u3).add (Nat.le_refl _) _).trans kx
     have kgx:Kp g.nx g x:=ku.trans (kx0.le ku.nx)
     have gdx:GdLt x g.nx:=ok.lt.kp kgx
     refine rd65_0 (hO:=hO _ _ _ yB_ne) (hg:=gx) (hh:= ?_) ..
     unfold TR65_0
     refine vbeg_t gx rfl (gdx.free ku.nx) fun x1 gx1 bx1=> ?_
     have b1:Kp u3.nx x x1:=bx1.kp (Nat.le_refl _) nx
     have nx1:x1.nx=x.nx:=bx1.nx
     have u1k:Kp u3.nx u3 x1:=kx0.trans b1
     have s1:x1.get g.nx=_:=(u1k.get _ (by omega)).trans ((eu.get _ (by omega)).trans q1)
     have kg1:Kp g.nx g x1:=kgx.trans (b1.le ku.nx)
     have ok1:x1.Ok:=okx.kp b1
     haveI:Ft g x1:=kg1.ex (Nat.le_refl _)
     have hpW:p<W.length:=by omega
     have gWp:W.getD p 0=W[p]:=by simp[List.getD,List.getElem?_eq_getElem hpW]
     refine⟨_,_,_,read1 (i:=0) s1 rfl,isNat_i (HW.at_.rd (k:=p) hpW (ct86 hO ok1 (hW _ (List.getElem_mem hpW)) fun x2 k2=> ?_))⟩
     intro x3
     have ok2:x2.Ok:=ok1.kp k2
     have m2:=k2.nx
     have k2u:Kp u3.nx x x2:=b1.trans (k2.le (by omega))
     have gd2:GdLt x2 g.nx:=ok.lt.kp (kgx.trans (k2u.le ku.nx))
     obtain⟨d1,w2⟩:=one_wr (show x3.get x2.nx=_ from get_add_same ..) (gd2.free (h:=x3) (by have:=(kgx.trans (k2u.le ku.nx)).nx;omega)) (w:= .int .i64 (hdK W[p])) rfl
     refine vreq_t d1 ?_
     intro x4
     have k4':Kp x2.nx x2 x4:=((Kp.refl _ x2).add (Nat.le_refl _) _).wr (Nat.le_refl _) _ _
     have n4:x4.nx=x2.nx+1:=by show(Hp.wr _ _ _ _).nx=_;rw[nx_wr,nx_add]
     have k4u:Kp u3.nx x x4:=k2u.trans (k4'.le (by omega))
     have k41:Kp x1.nx x1 x4:=k2.trans (k4'.le m2)
     haveI:Ft x1 x4:=k41.ex (Nat.le_refl _)
     have F4:IntsAt x4 a3 n3 (fieldsW W p):=(IntsAt.but bx1 gx sp.at_).to x4
     have u4k:Kp u3.nx u3 x4:=kx0.trans k4u
     haveI:Ft h44 x4:=(eu.trans (u4k.le (by omega))).ex (Nat.le_refl _)
     have B4:BoolsAt x4 a n (beginP W l):=B.to x4
     have v54:x4.get h44.nx=_:=(u4k.get _ (by omega)).trans v5
     have fl:(fieldsW W p).length<1000000:=by unfold fieldsW;simp;omega
     have kg4:Kp g.nx g x4:=kgx.trans (k4u.le ku.nx)
     have gd4:GdLt x4 g.nx:=ok.lt.kp kg4
     have gl4:x4.get u3.nx=_:=(k41.get _ (by omega)).trans gx1
     have r42:x4.get g1.nx=_:=(u4k.get _ (by omega)).trans ((eu.get _ (by omega)).trans q2)
     have r43:x4.get g2.nx=_:=(u4k.get _ (by omega)).trans ((eu.get _ (by omega)).trans q3)
     refine⟨_,_,ct76 hO F4 fl (p:=fun w=> !(fieldB (beginP W l) (hdK W[p]) w)) (fun w hw=>ct126 hO B4 (hW _ (List.mem_of_mem_drop (List.mem_of_mem_take hw))) (read1 (i:=0) v54 rfl) (read1 (i:=0) w2 rfl)),vcond_split (fun h9=> ?_) fun h9=> ?_⟩
     · obtain⟨d2,w3⟩:=one_wr r42 (gd4.free (by omega)) (w:= .slice none 0 0) rfl
       refine vreq_t d2 ?_
       intro x5
       have gd5:GdLt x5 g.nx:=fun q hq=>gd4 q (by rwa [show x5.gd=x4.gd from gd_wr ..]at hq)
       have r53:x5.get g2.nx=_:=(wr_get_ne _ _ _ _ (by omega)).trans r43
       obtain⟨d3,w4⟩:=one_wr r53 (gd5.free (by omega)) (w:= .int .i64 2) rfl
       refine vreq_t d3 ?_
       intro x6
       have gd6:GdLt x6 g.nx:=fun q hq=>gd5 q (by rwa [show x6.gd=x5.gd from gd_wr ..]at hq)
       have gl6:x6.get u3.nx=_:=(wr_get_ne _ _ _ _ (by omega)).trans ((wr_get_ne _ _ _ _ (by omega)).trans gl4)
       have w36:x6.get g1.nx=_:=(wr_get_ne _ _ _ _ (by omega)).trans w3
       have n6:x6.nx=x4.nx:=by show(Hp.wr _ _ _ _).nx=_;rw[nx_wr];exact nx_wr ..
       refine vout_r gl6 (gd6.free ku.nx) fun x7 r' gr e1 e2 b7=> .inr ⟨rfl,?_,by rw[b7.nx];omega,⟨r',gr,e1,e2⟩,(b7.get _ (by omega)).trans w36,(b7.get _ (by omega)).trans w4,?_⟩
       · exact((kg4.wr (by omega) _ _).wr (by omega) _ _).trans (b7.kp ku.nx (by omega))
       · rw[ha,List.all_cons]
         have:okc W (beginP W l) p=false:=by
          unfold okc
          rw[gWp]
          cases hall:(fieldsW W p).all (fieldB (beginP W l) (hdK W[p]))with
          |false=>rfl
          |true=>
           obtain⟨w,hw,hf⟩:=List.any_eq_true.1 h9
           rw[List.all_eq_true.1 hall w hw]at hf
           cases hf
         rw[this,Bool.false_and]
     · refine vout_n gl4 rfl rfl (gd4.free ku.nx) fun x7 gl7 b7=> .inl ⟨rfl,?_,?_,by rw[b7.nx];omega,gl7,?_⟩
       · exact kx.trans (k4u.trans (b7.kp (Nat.le_refl _) (by omega)))
       · exact okx.kp (k4u.trans (b7.kp (Nat.le_refl _) (by omega)))
       · rw[ha,List.all_cons]
         have:okc W (beginP W l) p=true:=by
          unfold okc
          rw[gWp,List.all_eq_true]
          intro w hw
          have:=List.any_eq_false.1 h9 w hw
          simpa using this
         rw[this,Bool.true_and]
   · rintro x ⟨kx,okx,nx,gx,ha⟩
     have kx0:Kp u3.nx u3 x:=((Kp.refl _ u3).add (Nat.le_refl _) _).trans kx
     have kgx:Kp g.nx g x:=ku.trans (kx0.le ku.nx)
     have gdx:GdLt x g.nx:=ok.lt.kp kgx
     refine vend_n gx (by show(0:Nat)≠1;decide) rfl (gdx.free ku.nx) fun bd=> ?_
     have kd:Kp u3.nx x (x.del u3.nx):=bd.kp (Nat.le_refl _) nx
     have nd:(x.del u3.nx).nx=x.nx:=bd.nx
     have kud:Kp u3.nx u3 (x.del u3.nx):=kx0.trans kd
     have kgd:Kp g.nx g (x.del u3.nx):=kgx.trans (kd.le ku.nx)
     have gdd:GdLt (x.del u3.nx) g.nx:=ok.lt.kp kgd
     have v5d:(x.del u3.nx).get h44.nx=_:=(kud.get _ (by omega)).trans v5
     have rd2:(x.del u3.nx).get g1.nx=_:=(kud.get _ (by omega)).trans ((eu.get _ (by omega)).trans q2)
     have rd3:(x.del u3.nx).get g2.nx=_:=(kud.get _ (by omega)).trans ((eu.get _ (by omega)).trans q3)
     generalize hy:x.del u3.nx=y at *
     refine⟨_,_,_,read1 (i:=0) v5d rfl,?_⟩
     obtain⟨d2,w3⟩:=one_wr rd2 (gdd.free (by omega)) (w:= .slice a n c) rfl
     refine vreq_t d2 ?_
     intro y1
     have gd1:GdLt y1 g.nx:=fun q hq=>gdd q (by rwa [show y1.gd=y.gd from gd_wr ..]at hq)
     have rd3':y1.get g2.nx=_:=(wr_get_ne _ _ _ _ (by omega)).trans rd3
     obtain⟨d3,w4⟩:=one_wr rd3' (gd1.free (by omega)) (w:= .int .i64 0) rfl
     refine vreq_t d3 ?_
     intro y2
     have w3':y2.get g1.nx=_:=(wr_get_ne _ _ _ _ (by omega)).trans w3
     refine⟨_,_,_,read1 (i:=0) w3' rfl,_,read1 (i:=0) w4 rfl,_,_,_,_,rfl,(kgd.wr (by omega) _ _).wr (by omega) _ _,?_⟩
     rw[c0,if_pos (by rw[ha];rfl)]
     refine⟨rfl,?_⟩
     haveI:Ft h44 y:=(eu.trans (kud.le (by omega))).ex (Nat.le_refl _)
     refine(B.to y).keep (fun b off hb=> ?_) (by rw[show y2.nx=y.nx by show(Hp.wr _ _ _ _).nx=_;rw[nx_wr];exact nx_wr ..];exact Nat.le_refl _) (fun _ _ h=>h)
     have:=fresh b off hb
     exact(wr_get_ne _ _ _ _ (by omega)).trans (wr_get_ne _ _ _ _ (by omega))
   · rintro x ⟨kx,nx,⟨r',gr,e1,e2⟩,x2,x3,ha⟩
     have gdx:GdLt x g.nx:=ok.lt.kp kx
     refine vend_r gr (by rw[e1];decide) e2 (gdx.free ku.nx) fun bd=> ?_
     refine⟨_,_,_,read1 (i:=0) ((bd.get _ (by omega)).trans x2) rfl,_,read1 (i:=0) ((bd.get _ (by omega)).trans x3) rfl,_,_,_,_,rfl,kx.trans (bd.kp ku.nx nx),?_⟩
     rw[c0,if_neg (by rw[ha];exact Bool.false_ne_true)]
end
set_option linter.unusedVariables false
noncomputable def b62:Code:=(Tryz.f62.body).getD .skip
noncomputable def stk62_0:List KI:=[.code (sub [1,1,1,1,0,1,0] b62),.blk 0,.code (sub [1,1,1,1,1] b62)]
noncomputable def stk62_1:List KI:=[.code (sub [1,1,1,1,1,1,0,1,0] b62),.blk 2,.code (sub [1,1,1,1,1,1,1] b62)]
def lv62:List (Nat×List Nat):=[(0,[2,6,7,8,9,10,41,42,43]),(2,[6,7,8,9,10,13,56,57,58])]
def I62_0 (O:CallF)(Q:Value→Hp→Prop)(a0_0:Option Addr)(n0_0 c0_0:Nat)(x0_1:Int)(a0_2:Option Addr)(n0_2 c0_2:Nat)(x1:Int)(a2:Option Addr)(n2 c2 b6 f6 b9 f9 b10 f10:Nat)(a41:Option Addr)(n41 c41:Nat)(x42 x43:Int)(h:Hp):Prop:=RKL Tryz.prog O Tryz.f62 stk62_0 90 [2,6,7,8,9,10,41,42,43] [.slice a2 n2 c2,.pointer (some ⟨b6,f6,none⟩),.slice none 0 0,.pointer none,.pointer (some ⟨b9,f9,none⟩),.pointer (some ⟨b10,f10,none⟩),.slice a41 n41 c41,.int .i64 x42,.int .i64 x43] h Q
def I62_1 (O:CallF)(Q:Value→Hp→Prop)(a0_0:Option Addr)(n0_0 c0_0:Nat)(x0_1:Int)(a0_2:Option Addr)(n0_2 c0_2:Nat)(x1:Int)(a2:Option Addr)(n2 c2 b6 f6 b9 f9 b10 f10:Nat)(a13:Option Addr)(n13 c13:Nat)(x58:Int)(h:Hp):Prop:=RKL Tryz.prog O Tryz.f62 stk62_1 90 [6,7,8,9,10,13,56,57,58] [.pointer (some ⟨b6,f6,none⟩),.slice none 0 0,.pointer none,.pointer (some ⟨b9,f9,none⟩),.pointer (some ⟨b10,f10,none⟩),.slice a13 n13 c13,.slice a2 n2 c2,.int .i64 (Int.ofNat n2),.int .i64 x58] h Q
def T62 (O:CallF)(Q:Value→Hp→Prop)(a0_0:Option Addr)(n0_0 c0_0:Nat)(x0_1:Int)(a0_2:Option Addr)(n0_2 c0_2:Nat)(x1:Int)(a2:Option Addr)(n2 c2:Nat)(h:Hp):Prop:=
 let g1:=h.add (.cells [.slice a0_0 n0_0 c0_0,.int .i64 x0_1,.slice a0_2 n0_2 c0_2] 24 .fix)
 let g2:=g1.add (.cells [.slice none 0 0,.int .i64 0,.slice none 0 0] 24 .fix)
 let g3:=g2.rsv 15
 ∃a4 n5 c6,readAt g3 h.nx 0 1=some [.slice a4 n5 c6]∧
 ∃a7 n8 c9,readAt g3 h.nx 0 1=some [.slice a7 n8 c9]∧
 ∃a10 n11 c12,readAt g3 h.nx 0 1=some [.slice a10 n11 c12]∧
 vreq (Nat.ble n8 n8)
 (vreq (Nat.ble (n8*8) 281474976710656)
 (vreq (Nat.blt n8 big)
 (vreq (g3.free (g2.nx+6))
 (let g13:=g3.lay (g2.nx+6) (.cells (List.flatten (List.replicate n8 [.int .i64 0])) 3 .fix)
 vreq (Nat.ble n11 n11)
 (vreq (Nat.ble (n11*8) 281474976710656)
 (vreq (Nat.blt n11 big)
 (vreq (g13.free (g2.nx+10))
 (let g14:=g13.lay (g2.nx+10) (.cells (List.flatten (List.replicate n11 [.int .i64 0])) 3 .fix)
 vreq (g14.free (g2.nx+13))
 (let g15:=g14.lay (g2.nx+13) (.cells [.slice a4 n5 c6,.int .i64 x1,.slice (some ⟨(g2.nx+6),0,none⟩) n8 n8,.slice none 0 0,.slice (some ⟨(g2.nx+10),0,none⟩) n11 n11,.int .i64 x1] 113 .fix)
 let g16:=g15.rsv 9
 ∃a17 n18 c19,readAt g16 (g2.nx+13) 4 1=some [.slice a17 n18 c19]∧
 ∃a20 n21 c22,readAt g16 h.nx 0 1=some [.slice a20 n21 c22]∧
 ∃a23 n24 c25,sliceV Tryz.prog g16 22 (.slice a20 n21 c22) none (some (.int .i64 x1)) none=some (.slice a23 n24 c25)∧
 ∃x26 h27,copyV Tryz.prog (g16.grd []) 22 (.slice a17 n18 c19) (.slice a23 n24 c25)=some (.int .i64 x26,h27)∧
 let g28:=h27.rst g16
 let g29:=g28.add (.cells [.slice none 0 0,.int .i64 0,.slice none 0 0] 24 .fix)
 vreq (canW g29 g28.nx 0 [.slice none 0 0,.int .i64 0,.slice none 0 0])
 (let g30:=g29.wr g28.nx 0 [.slice none 0 0,.int .i64 0,.slice none 0 0]
 ∃a31 n32 c33,readAt g30 h.nx 2 1=some [.slice a31 n32 c33]∧
 I62_0 O Q a0_0 n0_0 c0_0 x0_1 a0_2 n0_2 c0_2 x1 a2 n2 c2 g1.nx 0 (g2.nx+13) 0 g28.nx 0 a31 n32 c33 (Int.ofNat n32) 0 g30))))))))))
theorem rk62 {O Q} (a0_0 n0_0 c0_0 x0_1 a0_2 n0_2 c0_2 x1 a2 n2 c2){h:Hp}(hO:O 62 [.agg #[.slice a0_0 n0_0 c0_0,.int .i64 x0_1,.slice a0_2 n0_2 c0_2],.int .i64 x1,.slice a2 n2 c2] h=none)(hh:T62 O Q a0_0 n0_0 c0_0 x0_1 a0_2 n0_2 c0_2 x1 a2 n2 c2 h):Ret Tryz.prog O 62 [.agg #[.slice a0_0 n0_0 c0_0,.int .i64 x0_1,.slice a0_2 n0_2 c0_2],.int .i64 x1,.slice a2 n2 c2] h Q:=
 .of (c:=b62) Tryz.func62 (by kernel_rfl) hO (V_ok (tb:=lv62) (cuts:=[]) 500 (Eq.mp (by kernel_rfl) hh))
def T62_0 (O:CallF)(Q:Value→Hp→Prop)(a0_0:Option Addr)(n0_0 c0_0:Nat)(x0_1:Int)(a0_2:Option Addr)(n0_2 c0_2:Nat)(x1:Int)(a2:Option Addr)(n2 c2 b6 f6 b9 f9 b10 f10:Nat)(a41:Option Addr)(n41 c41:Nat)(x42 x43:Int)(h:Hp):Prop:=
 vcond (ltI x43 x42)
 (isNat x43 fun n101=>
 isAddr a41 fun b102 f103=>
 vreq (Nat.blt n101 n41)
 (∃x104,readAt h b102 (f103+(n101*1)) 1=some [.int .i64 x104]∧
 let g105:=h.rsv 9
 ∃a106 n107 c108,readAt g105 b10 (f10+2) 1=some [.slice a106 n107 c108]∧
 ∃x109 h110,EvC Tryz.prog O 117 [.pointer (some ⟨b9,f9,none⟩),.int .i64 x104] (g105.grd [b10]) (.int .i64 x109) h110∧
 let g111:=h110.rst g105
 vreq (g111.free (h.nx+5))
 (let g112:=g111.lay (h.nx+5) (.cells [.int .i64 x109] 3 .fix)
 ∃a113 n114 c115 h116,appendV Tryz.prog (g112.grd []) 22 22 (.slice a106 n107 c108) (.slice (some ⟨(h.nx+5),0,none⟩) 1 1)=some (.slice a113 n114 c115,h116)∧
 let g117:=h116.rst g112
 vreq (canW (g117.grd []) b10 (f10+2) [.slice a113 n114 c115])
 (let g118:=(g117.grd []).wr b10 (f10+2) [.slice a113 n114 c115]
 let g119:=g118.rst g117
 I62_0 O Q a0_0 n0_0 c0_0 x0_1 a0_2 n0_2 c0_2 x1 a2 n2 c2 b6 f6 b9 f9 b10 f10 a41 n41 c41 x42 (wrapF .i64 (x43+1)) g119))))
 (I62_1 O Q a0_0 n0_0 c0_0 x0_1 a0_2 n0_2 c0_2 x1 a2 n2 c2 b6 f6 b9 f9 b10 f10 none 0 0 0 h)
theorem I62_0.of {O Q} (a0_0 n0_0 c0_0 x0_1 a0_2 n0_2 c0_2 x1 a2 n2 c2 b6 f6 b9 f9 b10 f10 a41 n41 c41 x42 x43){h:Hp}(hh:T62_0 O Q a0_0 n0_0 c0_0 x0_1 a0_2 n0_2 c0_2 x1 a2 n2 c2 b6 f6 b9 f9 b10 f10 a41 n41 c41 x42 x43 h):I62_0 O Q a0_0 n0_0 c0_0 x0_1 a0_2 n0_2 c0_2 x1 a2 n2 c2 b6 f6 b9 f9 b10 f10 a41 n41 c41 x42 x43 h:=
 RKL.of (tb:=lv62) (cuts:=[]) 500 fun _=>Eq.mp (by kernel_rfl) hh
def T62_1 (O:CallF)(Q:Value→Hp→Prop)(a0_0:Option Addr)(n0_0 c0_0:Nat)(x0_1:Int)(a0_2:Option Addr)(n0_2 c0_2:Nat)(x1:Int)(a2:Option Addr)(n2 c2 b6 f6 b9 f9 b10 f10:Nat)(a13:Option Addr)(n13 c13:Nat)(x58:Int)(h:Hp):Prop:=
 vcond (ltI x58 (Int.ofNat n2))
 (isNat x58 fun n201=>
 isAddr a2 fun b202 f203=>
 vreq (Nat.blt n201 n2)
 (∃x204,readAt h b202 (f203+(n201*1)) 1=some [.int .i64 x204]∧
 ∃x205 h206,EvC Tryz.prog O 117 [.pointer (some ⟨b9,f9,none⟩),.int .i64 x204] h (.int .i64 x205) h206∧
 let g207:=h206.add (.cells [.int .i64 x205] 3 .fix)
 ∃a208 n209 c210 h211,appendV Tryz.prog g207 22 22 (.slice a13 n13 c13) (.slice (some ⟨h206.nx,0,none⟩) 1 1)=some (.slice a208 n209 c210,h211)∧
 I62_1 O Q a0_0 n0_0 c0_0 x0_1 a0_2 n0_2 c0_2 x1 a2 n2 c2 b6 f6 b9 f9 b10 f10 a208 n209 c210 (wrapF .i64 (x58+1)) h211))
 (∃h212,EvC Tryz.prog O 118 [.pointer (some ⟨b9,f9,none⟩),.int .i64 1,.func (.func 119) #[] #[],.func (.func 117) #[.pointer (some ⟨b9,f9,none⟩)] #[]] h undef h212∧
 ∃h213,EvC Tryz.prog O 118 [.pointer (some ⟨b9,f9,none⟩),.int .i64 1,.func (.func 120) #[] #[],.func (.func 121) #[.pointer (some ⟨b9,f9,none⟩)] #[]] h212 undef h213∧
 let g214:=h213.rsv 12
 ∃a215 n216 c217,readAt g214 b9 (f9+4) 1=some [.slice a215 n216 c217]∧
 ∃x218,readAt g214 b9 (f9+5) 1=some [.int .i64 x218]∧
 vreq (canW (g214.grd [b9]) b10 (f10+0) [.slice a215 n216 c217])
 (let g219:=(g214.grd [b9]).wr b10 (f10+0) [.slice a215 n216 c217]
 let g220:=g219.rst g214
 vreq (canW (g220.grd []) b10 (f10+1) [.int .i64 x218])
 (let g221:=(g220.grd []).wr b10 (f10+1) [.int .i64 x218]
 let g222:=g221.rst g220
 ∃a223 n224 c225 x226 a227 n228 c229,readAt g222 b10 f10 3=some [.slice a223 n224 c225,.int .i64 x226,.slice a227 n228 c229]∧
 vreq (canW g222 b6 f6 [.slice a223 n224 c225,.int .i64 x226,.slice a227 n228 c229])
 (let g230:=g222.wr b6 f6 [.slice a223 n224 c225,.int .i64 x226,.slice a227 n228 c229]
 ∃a231 n232 c233 x234 a235 n236 c237,readAt g230 b6 f6 3=some [.slice a231 n232 c233,.int .i64 x234,.slice a235 n236 c237]∧
 Q (.tuple #[.agg #[.slice a231 n232 c233,.int .i64 x234,.slice a235 n236 c237],.slice a13 n13 c13,.pointer (some ⟨b9,f9,none⟩)]) g230))))
theorem I62_1.of {O Q} (a0_0 n0_0 c0_0 x0_1 a0_2 n0_2 c0_2 x1 a2 n2 c2 b6 f6 b9 f9 b10 f10 a13 n13 c13 x58){h:Hp}(hh:T62_1 O Q a0_0 n0_0 c0_0 x0_1 a0_2 n0_2 c0_2 x1 a2 n2 c2 b6 f6 b9 f9 b10 f10 a13 n13 c13 x58 h):I62_1 O Q a0_0 n0_0 c0_0 x0_1 a0_2 n0_2 c0_2 x1 a2 n2 c2 b6 f6 b9 f9 b10 f10 a13 n13 c13 x58 h:=
 RKL.of (tb:=lv62) (cuts:=[]) 500 fun _=>Eq.mp (by kernel_rfl) hh
noncomputable def b117:Code:=(Tryz.f117.body).getD .skip
def lv117:List (Nat×List Nat):=[]
def T117 (O:CallF)(Q:Value→Hp→Prop)(b0 f0:Nat)(x1:Int)(h:Hp):Prop:=
 vcond (!(eqI (Int.tmod x1 2) 0))
 (Q (.int .i64 x1) h)
 (∃x1',readAt h b0 (f0+1) 1=some [.int .i64 x1']∧
 vcond (ltI (wrapF .i64 (Int.tdiv x1 2)) (maxI x1' 1))
 (Q (.int .i64 x1) h)
 (∃a2 n3 c4,readAt h b0 (f0+2) 1=some [.slice a2 n3 c4]∧
 isNat (wrapF .i64 (Int.tdiv x1 2)) fun n5=>
 isAddr a2 fun b6 f7=>
 vreq (Nat.blt n5 n3)
 (∃x8,readAt h b6 (f7+(n5*1)) 1=some [.int .i64 x8]∧
 vcond (!(eqI x8 0))
 (∃a9 n10 c11,readAt h b0 (f0+2) 1=some [.slice a9 n10 c11]∧
 isNat (wrapF .i64 (Int.tdiv x1 2)) fun n12=>
 isAddr a9 fun b13 f14=>
 vreq (Nat.blt n12 n10)
 (∃x15,readAt h b13 (f14+(n12*1)) 1=some [.int .i64 x15]∧
 Q (.int .i64 (wrapF .i64 (2*x15))) h))
 (let g16:=h.rsv 11
 ∃a17 n18 c19,readAt g16 b0 (f0+2) 1=some [.slice a17 n18 c19]∧
 ∃x20,readAt g16 b0 (f0+5) 1=some [.int .i64 x20]∧
 isNat (wrapF .i64 (Int.tdiv x1 2)) fun n21=>
 isAddr a17 fun b22 f23=>
 vreq (Nat.blt n21 n18)
 (vreq (canW (g16.grd []) b22 (f23+(n21*1)) [.int .i64 x20])
 (let g24:=(g16.grd []).wr b22 (f23+(n21*1)) [.int .i64 x20]
 let g25:=g24.rst g16
 ∃a26 n27 c28,readAt g25 b0 (f0+3) 1=some [.slice a26 n27 c28]∧
 let g29:=g25.add (.cells [.int .i64 (wrapF .i64 (Int.tdiv x1 2))] 3 .fix)
 ∃a30 n31 c32 h33,appendV Tryz.prog g29 22 22 (.slice a26 n27 c28) (.slice (some ⟨g25.nx,0,none⟩) 1 1)=some (.slice a30 n31 c32,h33)∧
 vreq (canW h33 b0 (f0+3) [.slice a30 n31 c32])
 (let g34:=h33.wr b0 (f0+3) [.slice a30 n31 c32]
 let g35:=g34.rsv 36
 ∃x36,readAt g35 b0 (f0+5) 1=some [.int .i64 x36]∧
 ∃a37 n38 c39,readAt g35 b0 (f0+4) 1=some [.slice a37 n38 c39]∧
 ∃x40,readAt g35 b0 (f0+5) 1=some [.int .i64 x40]∧
 ∃a41 n42 c43,sliceV Tryz.prog g35 22 (.slice a37 n38 c39) (some (.int .i64 x40)) none none=some (.slice a41 n42 c43)∧
 ∃a44 n45 c46,readAt g35 b0 (f0+0) 1=some [.slice a44 n45 c46]∧
 ∃a47 n48 c49,readAt g35 b0 (f0+0) 1=some [.slice a47 n48 c49]∧
 isNat (wrapF .i64 (Int.tdiv x1 2)) fun n50=>
 isAddr a47 fun b51 f52=>
 vreq (Nat.blt n50 n48)
 (∃x53,readAt g35 b51 (f52+(n50*1)) 1=some [.int .i64 x53]∧
 ∃x54 x55 h56,EvC Tryz.prog O 86 [.int .i64 x53] (g35.grd (b0::(blocksOf (.slice a37 n38 c39)++(b0::(b0::(b0::[])))))) (.agg #[.int .i64 x54,.int .i64 x55]) h56∧
 let g57:=h56.rst g35
 ∃a58 n59 c60,sliceV Tryz.prog g57 22 (.slice a44 n45 c46) (some (.int .i64 (wrapF .i64 (Int.tdiv x1 2)))) (some (.int .i64 (wrapF .i64 ((wrapF .i64 ((wrapF .i64 (Int.tdiv x1 2))+1))+x54)))) none=some (.slice a58 n59 c60)∧
 ∃x61 h62,copyV Tryz.prog (g57.grd [b0]) 22 (.slice a41 n42 c43) (.slice a58 n59 c60)=some (.int .i64 x61,h62)∧
 let g63:=h62.rst g57
 vreq (canW (g63.grd []) b0 (f0+5) [.int .i64 (wrapF .i64 (x36+x61))])
 (let g64:=(g63.grd []).wr b0 (f0+5) [.int .i64 (wrapF .i64 (x36+x61))]
 let g65:=g64.rst g63
 ∃a66 n67 c68,readAt g65 b0 (f0+2) 1=some [.slice a66 n67 c68]∧
 isNat (wrapF .i64 (Int.tdiv x1 2)) fun n69=>
 isAddr a66 fun b70 f71=>
 vreq (Nat.blt n69 n67)
 (∃x72,readAt g65 b70 (f71+(n69*1)) 1=some [.int .i64 x72]∧
 Q (.int .i64 (wrapF .i64 (2*x72))) g65))))))))))
theorem rk117 {O Q} (b0 f0 x1){h:Hp}(hO:O 117 [.pointer (some ⟨b0,f0,none⟩),.int .i64 x1] h=none)(hh:T117 O Q b0 f0 x1 h):Ret Tryz.prog O 117 [.pointer (some ⟨b0,f0,none⟩),.int .i64 x1] h Q:=
 .of (c:=b117) Tryz.func117 (by kernel_rfl) hO (V_ok (tb:=lv117) (cuts:=[]) 500 (Eq.mp (by kernel_rfl) hh))
noncomputable def b118:Code:=(Tryz.f118.body).getD .skip
noncomputable def stk118_0:List KI:=[.code (sub [1,0] b118),.blk 0]
noncomputable def stk118_1:List KI:=[.code (sub [1,0,0,1,0,1,0,1,0,1,0] b118),.blk 2,.code (sub [1,0,0,1,0,1,1] b118),.blk 1,.code (sub [1,0] b118),.blk 0]
def lv118:List (Nat×List Nat):=[(0,[0,2,3,8]),(2,[0,2,3,8,9,10])]
def I118_0 (O:CallF)(Q:Value→Hp→Prop)(b0 f0:Nat)(x1:Int)(g2:Nat)(fi2 ca2:Array Value)(g3:Nat)(fi3 ca3:Array Value)(g2s:Nat)(fi2s ca2s:Array Value)(g3s:Nat)(fi3s ca3s:Array Value)(x8:Int)(h:Hp):Prop:=RKL Tryz.prog O Tryz.f118 stk118_0 61 [0,2,3,8] [.pointer (some ⟨b0,f0,none⟩),.func (.func g2s) fi2s ca2s,.func (.func g3s) fi3s ca3s,.int .i64 x8] h Q
def I118_1 (O:CallF)(Q:Value→Hp→Prop)(b0 f0:Nat)(x1:Int)(g2:Nat)(fi2 ca2:Array Value)(g3:Nat)(fi3 ca3:Array Value)(g2s:Nat)(fi2s ca2s:Array Value)(g3s:Nat)(fi3s ca3s:Array Value)(x8:Int)(b9 f9:Nat)(x10:Int)(h:Hp):Prop:=RKL Tryz.prog O Tryz.f118 stk118_1 61 [0,2,3,8,9,10] [.pointer (some ⟨b0,f0,none⟩),.func (.func g2s) fi2s ca2s,.func (.func g3s) fi3s ca3s,.int .i64 x8,.pointer (some ⟨b9,f9,none⟩),.int .i64 x10] h Q
def T118 (O:CallF)(Q:Value→Hp→Prop)(b0 f0:Nat)(x1:Int)(g2:Nat)(fi2 ca2:Array Value)(g3:Nat)(fi3 ca3:Array Value)(h:Hp):Prop:=
 I118_0 O Q b0 f0 x1 g2 fi2 ca2 g3 fi3 ca3 g2 fi2 ca2 g3 fi3 ca3 x1 h
theorem rk118 {O Q} (b0 f0 x1 g2 fi2 ca2 g3 fi3 ca3){h:Hp}(hO:O 118 [.pointer (some ⟨b0,f0,none⟩),.int .i64 x1,.func (.func g2) fi2 ca2,.func (.func g3) fi3 ca3] h=none)(hh:T118 O Q b0 f0 x1 g2 fi2 ca2 g3 fi3 ca3 h):Ret Tryz.prog O 118 [.pointer (some ⟨b0,f0,none⟩),.int .i64 x1,.func (.func g2) fi2 ca2,.func (.func g3) fi3 ca3] h Q:=
 .of (c:=b118) Tryz.func118 (by kernel_rfl) hO (V_ok (tb:=lv118) (cuts:=[]) 500 (Eq.mp (by kernel_rfl) hh))
def T118_0 (O:CallF)(Q:Value→Hp→Prop)(b0 f0:Nat)(x1:Int)(g2:Nat)(fi2 ca2:Array Value)(g3:Nat)(fi3 ca3:Array Value)(g2s:Nat)(fi2s ca2s:Array Value)(g3s:Nat)(fi3s ca3s:Array Value)(x8:Int)(h:Hp):Prop:=
 ∃x101,readAt h b0 (f0+5) 1=some [.int .i64 x101]∧
 vcond (ltI x8 x101)
 (∃a102 n103 c104,readAt h b0 (f0+4) 1=some [.slice a102 n103 c104]∧
 isNat x8 fun n105=>
 isAddr a102 fun b106 f107=>
 vreq (Nat.blt n105 n103)
 (∃x108,readAt h b106 (f107+(n105*1)) 1=some [.int .i64 x108]∧
 ∃x109 x110 h111,EvC Tryz.prog O 86 [.int .i64 x108] h (.agg #[.int .i64 x109,.int .i64 x110]) h111∧
 let g112:=h111.add (.cells [.int .i64 0,.int .i64 0] 117 .fix)
 vreq (canW g112 h111.nx 0 [.int .i64 x109,.int .i64 x110])
 (let g113:=g112.wr h111.nx 0 [.int .i64 x109,.int .i64 x110]
 ∃x114 x115,readAt g113 h111.nx 0 2=some [.int .i64 x114,.int .i64 x115]∧
 ∃q116 h117,EvC Tryz.prog O g2s (fi2s.toList++[.agg #[.int .i64 x114,.int .i64 x115]]++ca2s.toList) g113 (.bool q116) h117∧
 vcond q116
 (I118_1 O Q b0 f0 x1 g2 fi2 ca2 g3 fi3 ca3 g2s fi2s ca2s g3s fi3s ca3s x8 h111.nx 0 (wrapF .i64 (x8+1)) h117)
 (∃x118,readAt h117 h111.nx 0 1=some [.int .i64 x118]∧
 I118_0 O Q b0 f0 x1 g2 fi2 ca2 g3 fi3 ca3 g2s fi2s ca2s g3s fi3s ca3s (wrapF .i64 (x8+(wrapF .i64 (1+x118)))) h117))))
 (Q undef h)
theorem I118_0.of {O Q} (b0 f0 x1 g2 fi2 ca2 g3 fi3 ca3 g2s fi2s ca2s g3s fi3s ca3s x8){h:Hp}(hh:T118_0 O Q b0 f0 x1 g2 fi2 ca2 g3 fi3 ca3 g2s fi2s ca2s g3s fi3s ca3s x8 h):I118_0 O Q b0 f0 x1 g2 fi2 ca2 g3 fi3 ca3 g2s fi2s ca2s g3s fi3s ca3s x8 h:=
 RKL.of (tb:=lv118) (cuts:=[]) 500 fun _=>Eq.mp (by kernel_rfl) hh
def T118_1 (O:CallF)(Q:Value→Hp→Prop)(b0 f0:Nat)(x1:Int)(g2:Nat)(fi2 ca2:Array Value)(g3:Nat)(fi3 ca3:Array Value)(g2s:Nat)(fi2s ca2s:Array Value)(g3s:Nat)(fi3s ca3s:Array Value)(x8:Int)(b9 f9:Nat)(x10:Int)(h:Hp):Prop:=
 ∃x201,readAt h b9 (f9+0) 1=some [.int .i64 x201]∧
 vcond (!(ltI (wrapF .i64 (x8+x201)) x10))
 (∃a202 n203 c204,readAt h b0 (f0+4) 1=some [.slice a202 n203 c204]∧
 isNat x10 fun n205=>
 isAddr a202 fun b206 f207=>
 vreq (Nat.blt n205 n203)
 (∃x208,readAt h b206 (f207+(n205*1)) 1=some [.int .i64 x208]∧
 ∃x209 h210,EvC Tryz.prog O g3s (fi3s.toList++[.int .i64 x208]++ca3s.toList) h (.int .i64 x209) h210∧
 ∃a211 n212 c213,readAt h210 b0 (f0+4) 1=some [.slice a211 n212 c213]∧
 isNat x10 fun n214=>
 isAddr a211 fun b215 f216=>
 vreq (Nat.blt n214 n212)
 (vreq (canW h210 b215 (f216+(n214*1)) [.int .i64 x209])
 (let g217:=h210.wr b215 (f216+(n214*1)) [.int .i64 x209]
 I118_1 O Q b0 f0 x1 g2 fi2 ca2 g3 fi3 ca3 g2s fi2s ca2s g3s fi3s ca3s x8 b9 f9 (wrapF .i64 (x10+1)) g217))))
 (∃x218,readAt h b9 (f9+0) 1=some [.int .i64 x218]∧
 I118_0 O Q b0 f0 x1 g2 fi2 ca2 g3 fi3 ca3 g2s fi2s ca2s g3s fi3s ca3s (wrapF .i64 (x8+(wrapF .i64 (1+x218)))) h)
theorem I118_1.of {O Q} (b0 f0 x1 g2 fi2 ca2 g3 fi3 ca3 g2s fi2s ca2s g3s fi3s ca3s x8 b9 f9 x10){h:Hp}(hh:T118_1 O Q b0 f0 x1 g2 fi2 ca2 g3 fi3 ca3 g2s fi2s ca2s g3s fi3s ca3s x8 b9 f9 x10 h):I118_1 O Q b0 f0 x1 g2 fi2 ca2 g3 fi3 ca3 g2s fi2s ca2s g3s fi3s ca3s x8 b9 f9 x10 h:=
 RKL.of (tb:=lv118) (cuts:=[]) 500 fun _=>Eq.mp (by kernel_rfl) hh
noncomputable def b120:Code:=(Tryz.f120.body).getD .skip
def lv120:List (Nat×List Nat):=[]
def T120 (O:CallF)(Q:Value→Hp→Prop)(x0_0 x0_1:Int)(h:Hp):Prop:=
 let g1:=h.add (.cells [.int .i64 x0_0,.int .i64 x0_1] 117 .fix)
 ∃x2,readAt g1 h.nx 1 1=some [.int .i64 x2]∧
 Q (.bool (eqI x2 5)) g1
theorem rk120 {O Q} (x0_0 x0_1){h:Hp}(hO:O 120 [.agg #[.int .i64 x0_0,.int .i64 x0_1]] h=none)(hh:T120 O Q x0_0 x0_1 h):Ret Tryz.prog O 120 [.agg #[.int .i64 x0_0,.int .i64 x0_1]] h Q:=
 .of (c:=b120) Tryz.func120 (by kernel_rfl) hO (V_ok (tb:=lv120) (cuts:=[]) 500 (Eq.mp (by kernel_rfl) hh))
noncomputable def b121:Code:=(Tryz.f121.body).getD .skip
def lv121:List (Nat×List Nat):=[]
def T121 (O:CallF)(Q:Value→Hp→Prop)(b0 f0:Nat)(x1:Int)(h:Hp):Prop:=
 vcond (!(eqI (Int.tmod x1 2) 0))
 (Q (.int .i64 x1) h)
 (∃x1',readAt h b0 (f0+1) 1=some [.int .i64 x1']∧
 vcond (ltI (wrapF .i64 (Int.tdiv x1 2)) (maxI x1' 1))
 (Q (.int .i64 x1) h)
 (∃a2 n3 c4,readAt h b0 (f0+2) 1=some [.slice a2 n3 c4]∧
 isNat (wrapF .i64 (Int.tdiv x1 2)) fun n5=>
 isAddr a2 fun b6 f7=>
 vreq (Nat.blt n5 n3)
 (∃x8,readAt h b6 (f7+(n5*1)) 1=some [.int .i64 x8]∧
 Q (.int .i64 (wrapF .i64 (2*x8))) h)))
theorem rk121 {O Q} (b0 f0 x1){h:Hp}(hO:O 121 [.pointer (some ⟨b0,f0,none⟩),.int .i64 x1] h=none)(hh:T121 O Q b0 f0 x1 h):Ret Tryz.prog O 121 [.pointer (some ⟨b0,f0,none⟩),.int .i64 x1] h Q:=
 .of (c:=b121) Tryz.func121 (by kernel_rfl) hO (V_ok (tb:=lv121) (cuts:=[]) 500 (Eq.mp (by kernel_rfl) hh))
noncomputable def b38:Code:=(Tryz.f38.body).getD .skip
noncomputable def b20:Code:=(Tryz.f20.body).getD .skip
structure Mv where
 T:List Nat
 ord:List Nat
 D:List Int
 top:Nat
def chunkW (W:List Int)(a:Nat):List Int:=(W.drop a).take (1+(hdS (W.getD a 0)).toNat)
def moveO (W:List Int)(fr:Nat)(s:Mv)(w:Int):Option (Mv×Int):=
 if Int.tmod w 2≠0 then some (s,w)
 else if Int.tdiv w 2<((max fr 1:Nat):Int)then some (s,w)
 else if (Int.tdiv w 2).toNat<s.T.length then
  (if s.T.getD (Int.tdiv w 2).toNat 0≠0 then some (s,2*(s.T.getD (Int.tdiv w 2).toNat 0:Int))
  else if (Int.tdiv w 2).toNat<W.length∧0≤hdS (W.getD (Int.tdiv w 2).toNat 0)∧hdS (W.getD (Int.tdiv w 2).toNat 0)≤20∧(Int.tdiv w 2).toNat+1+(hdS (W.getD (Int.tdiv w 2).toNat 0)).toNat≤W.length∧1≤s.top∧s.top+1+(hdS (W.getD (Int.tdiv w 2).toNat 0)).toNat≤s.D.length∧s.ord.length≤s.D.length then
   some (⟨s.T.set (Int.tdiv w 2).toNat s.top,s.ord++[(Int.tdiv w 2).toNat],putAt s.D s.top (chunkW W (Int.tdiv w 2).toNat),s.top+1+(hdS (W.getD (Int.tdiv w 2).toNat 0)).toNat⟩,2*(s.top:Int))
  else none)
 else none
def weakO (_W:List Int)(fr:Nat)(s:Mv)(w:Int):Option (Mv×Int):=
 if Int.tmod w 2≠0 then some (s,w)
 else if Int.tdiv w 2<((max fr 1:Nat):Int)then some (s,w)
 else if (Int.tdiv w 2).toNat<s.T.length then some (s,2*(s.T.getD (Int.tdiv w 2).toNat 0:Int))else none
structure Pl where
 M:Nat
 oT:Nat
 oW:Nat
 aw:Option Addr
 nw:Nat
 cw:Nat
 fr:Nat
 n:Nat
 B:Nat
structure Pl.Ok (p:Pl)(g:Hp)(W:List Int):Prop where
 M:g.nx≤p.M
 oT:g.nx≤p.oT
 oW:g.nx≤p.oW
 tM:p.oT<p.M
 wM:p.oW<p.M
 tw:p.oT≠p.oW
 B:p.M<p.B
 HW:SI g p.aw p.nw p.cw W
 r: ∀x∈W,In64 x
 l:W.length<1000000
 n:p.n<1000000
structure MvAt (p:Pl)(h:Hp)(s:Mv)(ao:Option Addr)(no co:Nat):Prop where
 M:h.get p.M=some (.cells [.slice p.aw p.nw p.cw,.int .i64 (Int.ofNat p.fr),.slice (some ⟨p.oT,0,none⟩) p.n p.n,.slice ao no co,.slice (some ⟨p.oW,0,none⟩) p.n p.n,.int .i64 (Int.ofNat s.top)] 113 .fix)
 T:h.get p.oT=some (.cells (s.T.map fun t=>Value.int .i64 (Int.ofNat t)) 3 .fix)
 D:h.get p.oW=some (.cells (s.D.map (Value.int .i64)) 3 .fix)
 A:AccI 3 h p.B ao no co (s.ord.map Int.ofNat)
 lT:s.T.length=p.n
 lD:s.D.length=p.n
 bT: ∀t∈s.T,t≤p.n
 bD: ∀x∈s.D,In64 x
 nx:p.B≤h.nx
structure Mvd (p:Pl)(h h':Hp)(ao ao':Option Addr):Prop where
 get: ∀o,o<h.nx→o≠p.M→o≠p.oT→o≠p.oW→(∀off,ao≠some ⟨o,off,none⟩)→h'.get o=h.get o
 nx:h.nx≤h'.nx
 gd:h'.gd=h.gd
 fr:h.Fresh→h'.Fresh
 ao:ao'=ao∨ ∀b off,ao'=some ⟨b,off,none⟩→h.nx≤b
theorem Mvd.refl (p:Pl)(h:Hp)(ao:Option Addr):Mvd p h h ao ao:=⟨fun _ _ _ _ _ _=>rfl,Nat.le_refl _,rfl,id,.inl rfl⟩
theorem Mvd.trans {p:Pl}{h h' h'':Hp}{a a' a'':Option Addr}(x:Mvd p h h' a a')(y:Mvd p h' h'' a' a''):Mvd p h h'' a a'':=by
 refine⟨fun o ho h1 h2 h3 h4=>(y.get o (Nat.lt_of_lt_of_le ho x.nx) h1 h2 h3 fun off=> ?_).trans (x.get o ho h1 h2 h3 h4),Nat.le_trans x.nx y.nx,y.gd.trans x.gd,fun f=>y.fr (x.fr f),?_⟩
 · rcases x.ao with e|e
   · rw[e];exact h4 off
   · intro hh;have:=e o off hh;omega
 · rcases y.ao with e|e
   · rw[e];exact x.ao
   · exact .inr fun b off hb=>Nat.le_trans x.nx (e b off hb)
theorem Mvd.kp {p:Pl}{g h h':Hp}{W:List Int}{a a':Option Addr}{s:Mv}{no co:Nat}(x:Mvd p h h' a a')(P:p.Ok g W)(k:Kp g.nx g h)(m:MvAt p h s a no co):Kp g.nx g h':=by
 refine⟨fun o ho=>(x.get o (Nat.lt_of_lt_of_le ho k.nx) (by have:=P.M;omega) (by have:=P.oT;omega) (by have:=P.oW;omega) fun off hh=> ?_).trans (k.get o ho),Nat.le_trans k.nx x.nx,x.gd.trans k.gd,fun f=>x.fr (k.fr f)⟩
 have:=m.A.fresh hh
 have:=P.M
 have:=P.B
 omega
theorem Mvd.ok {p:Pl}{h h':Hp}{a a':Option Addr}(x:Mvd p h h' a a')(ok:h.Ok):h'.Ok:=⟨fun q hq=>by rw[x.gd]at hq;exact Nat.lt_of_lt_of_le (ok.gd q hq) x.nx,x.fr ok.fr⟩
theorem Mvd.kpn {p:Pl}{h h':Hp}{a:Option Addr}(k:Kp h.nx h h'):Mvd p h h' a a:=⟨fun o ho _ _ _ _=>k.get o ho,k.nx,k.gd,k.fr,.inl rfl⟩
theorem MvAt.kp {p:Pl}{g h h':Hp}{W:List Int}{s:Mv}{a:Option Addr}{n c:Nat}(m:MvAt p h s a n c)(P:p.Ok g W)(k:Kp h.nx h h'):MvAt p h' s a n c:=by
 have:=m.nx
 have:=P.tM
 have:=P.wM
 have:=P.B
 exact⟨(k.get _ (by omega)).trans m.M,(k.get _ (by omega)).trans m.T,(k.get _ (by omega)).trans m.D,m.A.keep (fun o ho _=>k.get o ho) k.nx,m.lT,m.lD,m.bT,m.bD,Nat.le_trans m.nx k.nx⟩
theorem MvAt.ne {p:Pl}{h:Hp}{s:Mv}{a:Option Addr}{n c:Nat}(m:MvAt p h s a n c){o off:Nat}(ho:o<p.B):a≠some ⟨o,off,none⟩:=fun hh=>by have:=m.A.fresh hh;omega
structure Gd (p:Pl)(h:Hp):Prop where
 lt:GdLt h p.B
 M:h.guarded p.M=false
 T:h.guarded p.oT=false
 W:h.guarded p.oW=false
theorem Gd.of {p:Pl}{h h':Hp}(g:Gd p h)(e:h'.gd=h.gd):Gd p h':=by
 have: ∀o,h'.guarded o=h.guarded o:=fun o=>by unfold Hp.guarded;rw[e]
 exact⟨fun q hq=>g.lt q (by rwa [e]at hq),by rw[this];exact g.M,by rw[this];exact g.T,by rw[this];exact g.W⟩
theorem intsCells {h:Hp}{o:Nat}{e:TypeId}{m:Md}{xs:List Int}(hg:h.get o=some (.cells (xs.map (Value.int .i64)) e m))(ho:o<h.nx):IntsAt h (some ⟨o,0,none⟩) xs.length xs:=by
 refine⟨rfl,.inr ⟨o,0,_,e,m,rfl,ho,hg,by simp,fun i hi=> ?_⟩⟩
 show _=[Value.int .i64 _]
 rw[Nat.zero_add,Nat.mul_one,List.drop_eq_getElem_cons (by simpa using hi)]
 simp
theorem AppT22:AppT Tryz.prog 22 3 1 8:=⟨Tryz.underlying22,by kernel_rfl⟩
theorem el22:elemT Tryz.prog 22=some 3:=by unfold elemT;rw[Tryz.underlying22]
theorem copy_ints {h:Hp}{o off n m c2 c1:Nat}{ds xs:List Int}{a:Option Addr}{e:TypeId}{md:Md}(hg:h.get o=some (.cells (ds.map (Value.int .i64)) e md))(hm:md≠ .ro)(hu:h.guarded o=false)(hn:off+n≤ds.length)(X:IntsAt h a m xs):
 ∃h',copyV Tryz.prog h 22 (.slice (some ⟨o,off,none⟩) n c1) (.slice a m c2)=some (.int .i64 (Int.ofNat (Nat.min m n)),h')∧h'.get o=some (.cells ((putAt ds off (xs.take (Nat.min m n))).map (Value.int .i64)) e md)∧(∀q,q≠o→h'.get q=h.get q)∧h'.nx=h.nx∧h'.gd=h.gd∧(h.Fresh→h'.Fresh):=by
 have hX:=X.1
 unfold copyV
 rw[el22]
 simp only[Option.bind_some,sz3,lenV]
 have pm: ∀(ds xs:List Int) (k:Nat),(putAt ds k xs).map (Value.int .i64)=putAt (ds.map (Value.int .i64)) k (xs.map (Value.int .i64)):=by
  intro ds
  induction ds with
  |nil=>intro xs k;cases k<;>cases xs<;>rfl
  |cons d ds ih=>
   intro xs k
   cases k with
   |zero=>cases xs with
    |nil=>rfl
    |cons x xs=>show _::_=_::_;rw[ih]
   |succ k=>show _::_=_::_;rw[ih]
 cases hz:Nat.beq (Nat.min m n) 0 with
 |true=>
  have hz:=Nat.eq_of_beq_eq_true hz
  rw[hz]
  refine⟨h,rfl,?_,fun _ _=>rfl,rfl,rfl,id⟩
  rw[List.take_zero,hg]
  have: ∀(ds:List Int) (k:Nat),k≤ds.length→putAt ds k []=ds:=by
   intro ds
   induction ds with
   |nil=>intro k hk;cases k<;>rfl
   |cons d ds ih=>intro k hk;cases k with
    |zero=>rfl
    |succ k=>show d::putAt ds k []=_;rw[ih k (by simpa using hk)]
  rw[this _ _ (by omega)]
 |false=>
  simp only[cond_false]
  have hpos:0<Nat.min m n:=by
   rcases Nat.eq_zero_or_pos (Nat.min m n)with h0|h0
   · rw[h0]at hz;cases hz
   · exact h0
  have hmin:Nat.min m n≤m:=Nat.min_le_left _ _
  have hmin2:Nat.min m n≤n:=Nat.min_le_right _ _
  have src:copySrc h 1 (Nat.min m n) (.slice a m c2)=some ((xs.take (Nat.min m n)).map (Value.int .i64)):=by
   rcases X.2 with ⟨rfl,rfl⟩|⟨b,off',cs,e',m',rfl,h2,h3,h4,h5⟩
   · simp at hX;omega
   · simp only[copySrc]
     rw[Nat.mul_one,readAt_get h3 (by omega)]
     congr 1
     refine List.ext_getElem (by simp;omega) fun i hi hi'=> ?_
     have hi2:i<xs.length:=by simp at hi';omega
     have h7:(cs.drop (off'+i*1)).take 1=[.int .i64 xs[i]]:=h5 i hi2
     rw[Nat.mul_one,List.drop_eq_getElem_cons (show off'+i<cs.length by omega)]at h7
     simp only[List.take_succ_cons,List.take_zero,List.cons.injEq,and_true]at h7
     simp[h7]
  rw[src]
  have h1:((xs.take (Nat.min m n)).map (Value.int .i64)).all one=true:=by rw[List.all_map];exact List.all_eq_true.2 fun _ _=>rfl
  simp only[Option.bind_some,h1,cond_true]
  have hl:off+((xs.take (Nat.min m n)).map (Value.int .i64)).length≤(ds.map (Value.int .i64)).length:=by simp;omega
  obtain⟨h',hw,hg'⟩:=writeAt_mk hg hm hu hl h1
  have hwr:h.wr o off ((xs.take (Nat.min m n)).map (Value.int .i64))=h':=by unfold Hp.wr;rw[hw]
  rw[hw]
  refine⟨h',rfl,by rw[hg',pm],fun q hq=> ?_,?_,?_,fun f=> ?_⟩
  · rw[←hwr];exact wr_get_ne _ _ _ _ hq
  · rw[←hwr];exact nx_wr ..
  · rw[←hwr];exact gd_wr ..
  · rw[←hwr];exact f.wr _ _ _
theorem MvAt.rd {p:Pl}{h:Hp}{s:Mv}{a:Option Addr}{n c:Nat}(m:MvAt p h s a n c){i:Nat}{v:Value}(hv:[Value.slice p.aw p.nw p.cw,.int .i64 (Int.ofNat p.fr),.slice (some ⟨p.oT,0,none⟩) p.n p.n,.slice a n c,.slice (some ⟨p.oW,0,none⟩) p.n p.n,.int .i64 (Int.ofNat s.top)][i]? =some v):readAt h p.M i 1=some [v]:=read1 m.M hv
theorem MvAt.rdT {p:Pl}{h:Hp}{s:Mv}{a:Option Addr}{n c:Nat}(m:MvAt p h s a n c){i:Nat}(hi:i<s.T.length):readAt h p.oT (0+i*1) 1=some [.int .i64 (Int.ofNat (s.T.getD i 0))]:=by
 rw[Nat.zero_add,Nat.mul_one]
 exact read1 m.T (by simp[List.getElem?_eq_getElem hi,List.getD])
theorem appI2 {P:Program}{e sT:TypeId}(T:AppT P sT e 1 8){h:Hp}{base:Nat}{a:Option Addr}{n c:Nat}{xs:List Int}(A:AccI e h base a n c xs)(hb:base≤h.nx)(hg:GdLt h base)(hl:xs.length<1000000000){x:Int}
 {K:Option Addr→Nat→Nat→Hp→Prop} (next: ∀a' n' c' h',AccI e h' base a' n' c' (xs++[x])→AppK h h' a→Kp base h h'→a'=some ⟨h.nx+1,0,none⟩→K a' n' c' h'):
 ∃a' n' c' h',appendV P (h.add (.cells [.int .i64 x] e .fix)) sT sT (.slice a n c) (.slice (some ⟨h.nx,0,none⟩) 1 1)=some (.slice a' n' c',h')∧K a' n' c' h':=by
 obtain⟨a',n',c',h',e1,A',k⟩:=app_int T A hb hg hl x
 have A1:AccI e (h.add (.cells [.int .i64 x] e .fix)) base a n c xs:=A.keep (fun o ho _=>get_add_ne (by omega)) (by rw[nx_add];omega)
 exact⟨a',n',c',h',e1,next a' n' c' h' A' k (k.kp A hb) (append_new T A1 ⟨_,_,_,rfl⟩ (src_get (n:=1) (c:=1) (esz:=1) (off:=0) (read1 (i:=0) (v:= .int .i64 x) (get_add_same ..) rfl)) rfl (by decide) e1)⟩
theorem mem_putAt {α:Type}{x:α}: ∀(ds xs:List α)(k:Nat),x∈putAt ds k xs→x∈ds∨x∈xs:=by
 intro ds
 induction ds with
 |nil=>intro xs k h;cases k<;>cases xs<;>exact .inl h
 |cons d ds ih=>
  intro xs k h
  cases k with
  |zero=>cases xs with
   |nil=>exact .inl h
   |cons y ys=>
    rcases List.mem_cons.1 (show x∈y::putAt ds 0 ys from h)with rfl|h
    · exact .inr (List.mem_cons_self ..)
    · exact(ih ys 0 h).imp (List.mem_cons_of_mem _) (List.mem_cons_of_mem _)
  |succ k=>
   rcases List.mem_cons.1 (show x∈d::putAt ds k xs from h)with rfl|h
   · exact .inl (List.mem_cons_self ..)
   · exact(ih xs k h).imp (List.mem_cons_of_mem _) id
theorem slice_fix {h:Hp}{o n l:Nat}(hl:l<n)(hn:n<1000000):sliceV Tryz.prog h 22 (.slice (some ⟨o,0,none⟩) n n) (some (.int .i64 (Int.ofNat l))) none none=some (.slice (some ⟨o,l,none⟩) (n-l) (n-l)):=by
 have hb:Nat.beq n unk=false:=by rw[Bool.eq_false_iff];intro hh;have:=Nat.eq_of_beq_eq_true hh;have:unk=18446744073709551616:=rfl;omega
 have hs:Ev.seen h 3 1 (.slice (some ⟨o,0,none⟩) n n)=some n:=by simp only[Ev.seen,hb,cond_false]
 have hlb:Nat.beq n l=false:=by rw[Bool.eq_false_iff];intro hh;have:=Nat.eq_of_beq_eq_true hh;omega
 unfold sliceV
 rw[Tryz.underlying22]
 simp only[sz3,bind,Option.bind_some,hs,bounds_lo (vis:=n) (show l≤n by omega),hb,Bool.false_and,cond_false,hlb]
 rw[blt_t (by have:unk=18446744073709551616:=rfl;omega)]
 simp
theorem nt_f {b:Bool}(h:(!b)=true):b=false:=by cases b;rfl;cases h
theorem nt_t {b:Bool}(h:(!b)=false):b=true:=by cases b;cases h;rfl
theorem dbl64 {x n:Nat}(h:x≤n)(hn:n<1000000):wrapF .i64 (2*Int.ofNat x)=2*(x:Int):=by
 rw[wrap64 (by simp;omega) (by simp;omega)];rfl
theorem maxI_nat (a b:Nat):maxI (Int.ofNat a) (Int.ofNat b)=((max a b:Nat):Int):=by
 unfold maxI
 rw[ltI_nat]
 by_cases h:a<b
 · rw[blt_t h];show Int.ofNat b=_;rw[Nat.max_eq_right (by omega)];rfl
 · rw[blt_f h];show Int.ofNat a=_;rw[Nat.max_eq_left (by omega)];rfl
section
variable {O:CallF}(hO:Oth O)
include hO
theorem ct121 {p:Pl}{g h:Hp}{W:List Int}{s s':Mv}{ao:Option Addr}{no co:Nat}(P:p.Ok g W)(m:MvAt p h s ao no co){w v:Int}(hw:In64 w)(hs:weakO W p.fr s w=some (s',v)):
 Ret Tryz.prog O 121 [.pointer (some ⟨p.M,0,none⟩),.int .i64 w] h fun v' h'=>v'= .int .i64 v∧s'=s∧h'=h:=by
 refine rk121 _ _ _ (hO _ _ _ (by decide)) ?_
 unfold T121
 unfold weakO at hs
 rw[hw.half]
 refine vcond_split (fun h1=> ?_) fun h1=> ?_
 · rw[if_pos (ne_of_f (by simpa using h1))]at hs
   injection hs with hs;injection hs with e1 e2;subst e1 e2
   exact⟨rfl,rfl,rfl⟩
 have h1:=eq_of_t (by simpa using h1)
 rw[if_neg (by simpa using h1)]at hs
 refine⟨_,m.rd (i:=1) rfl,?_⟩
 rw[show maxI (Int.ofNat p.fr) 1=((max p.fr 1:Nat):Int) from maxI_nat p.fr 1]
 refine vcond_split (fun h2=> ?_) fun h2=> ?_
 · rw[if_pos (lt_of_t h2)]at hs
   injection hs with hs;injection hs with e1 e2;subst e1 e2
   exact⟨rfl,rfl,rfl⟩
 have h2:=not_lt_of_f h2
 rw[if_neg h2]at hs
 have h0:0≤Int.tdiv w 2:=by have:(0:Int)≤((max p.fr 1:Nat):Int):=Int.natCast_nonneg _;omega
 obtain⟨a,ha⟩: ∃a:Nat,Int.tdiv w 2=Int.ofNat a:=Int.eq_ofNat_of_zero_le h0
 rw[ha]at hs ⊢
 simp only[show(Int.ofNat a).toNat=a from rfl]at hs
 split at hs
 · rename_i h3
   injection hs with hs;injection hs with e1 e2;subst e1 e2
   refine⟨_,_,_,m.rd (i:=2) rfl,isNat_i ?_⟩
   show vreq _ _
   refine vreq_t (blt_t (by have:=m.lT;omega)) ⟨_,m.rdT h3,?_,rfl,rfl⟩
   have hb:s.T.getD a 0≤p.n:=by
    rw[show s.T.getD a 0=s.T[a] by simp[List.getD,List.getElem?_eq_getElem h3]]
    exact m.bT _ (List.getElem_mem h3)
   rw[dbl64 hb P.n]
 · cases hs
theorem ct117 {p:Pl}{g h:Hp}{W:List Int}{s s':Mv}{ao:Option Addr}{no co:Nat}(P:p.Ok g W)(ok:h.Ok)(gd:Gd p h)(k:Ft g h)(m:MvAt p h s ao no co){w v:Int}(hw:In64 w)(hs:moveO W p.fr s w=some (s',v)):
 Ret Tryz.prog O 117 [.pointer (some ⟨p.M,0,none⟩),.int .i64 w] h fun v' h'=>v'= .int .i64 v∧ ∃ao' no' co',MvAt p h' s' ao' no' co'∧Mvd p h h' ao ao':=by
 refine rk117 _ _ _ (hO _ _ _ (by decide)) ?_
 unfold T117
 unfold moveO at hs
 rw[hw.half]
 refine vcond_split (fun h1=> ?_) fun h1=> ?_
 · rw[if_pos (ne_of_f (by simpa using h1))]at hs
   injection hs with hs;injection hs with e1 e2;subst e1 e2
   exact⟨rfl,_,_,_,m,.refl ..⟩
 have h1:=eq_of_t (by simpa using h1)
 rw[if_neg (by simpa using h1)]at hs
 refine⟨_,m.rd (i:=1) rfl,?_⟩
 rw[show maxI (Int.ofNat p.fr) 1=((max p.fr 1:Nat):Int) from maxI_nat p.fr 1]
 refine vcond_split (fun h2=> ?_) fun h2=> ?_
 · rw[if_pos (lt_of_t h2)]at hs
   injection hs with hs;injection hs with e1 e2;subst e1 e2
   exact⟨rfl,_,_,_,m,.refl ..⟩
 have h2:=not_lt_of_f h2
 rw[if_neg h2]at hs
 have h0:0≤Int.tdiv w 2:=by have:(0:Int)≤((max p.fr 1:Nat):Int):=Int.natCast_nonneg _;omega
 obtain⟨a,ha⟩: ∃a:Nat,Int.tdiv w 2=Int.ofNat a:=Int.eq_ofNat_of_zero_le h0
 rw[ha]at hs ⊢
 simp only[show(Int.ofNat a).toNat=a from rfl]at hs
 have Pn:=P.n
 split at hs
 · rename_i h3
   have h3n:a<p.n:=by have:=m.lT;omega
   refine⟨_,_,_,m.rd (i:=2) rfl,isNat_i ?_⟩
   show vreq _ _
   refine vreq_t (blt_t h3n) ⟨_,m.rdT h3,vcond_split (fun h4=> ?_) fun h4=> ?_⟩
   · have h4:s.T.getD a 0≠0:=fun hh=>ne_of_f (nt_f h4) (by rw[hh];rfl)
     rw[if_pos h4]at hs
     injection hs with hs;injection hs with e1 e2;subst e1 e2
     refine⟨_,_,_,m.rd (i:=2) rfl,isNat_i ?_⟩
     show vreq _ _
     refine vreq_t (blt_t h3n) ⟨_,m.rdT h3,?_,_,_,_,m,.refl ..⟩
     have hb:s.T.getD a 0≤p.n:=by
      rw[show s.T.getD a 0=s.T[a] by simp[List.getD,List.getElem?_eq_getElem h3]]
      exact m.bT _ (List.getElem_mem h3)
     rw[dbl64 hb P.n]
   · have h4:s.T.getD a 0=0:=Int.ofNat_inj.1 (eq_of_t (nt_t h4))
     rw[if_neg (not_not_intro h4)]at hs
     split at hs
     · rename_i h5
       injection hs with hs;injection hs with e1 e2;subst e1 e2
       obtain⟨h5,h6,h7,h8,h9,h10,h11⟩:=h5
       obtain⟨sz,hsz⟩: ∃m:Nat,hdS (W.getD a 0)=Int.ofNat m:=Int.eq_ofNat_of_zero_le h6
       have hsz2:sz≤20:=by rw[hsz]at h7;exact Int.ofNat_le.1 h7
       have tsz:(hdS (W.getD a 0)).toNat=sz:=by rw[hsz];rfl
       rw[tsz]at h8 h10 ⊢
       have hTl:=m.lT
       have hDl:=m.lD
       have PM:=P.M
       have PT:=P.oT
       have PW:=P.oW
       have PtM:=P.tM
       have PwM:=P.wM
       have Ptw:=P.tw
       have PB:=P.B
       have mnx:=m.nx
       have gWa:W.getD a 0=W[a]:=by simp[List.getD,List.getElem?_eq_getElem h5]
       intro g16
       have e16: ∀q,g16.get q=h.get q:=fun q=>rfl
       have r16: ∀ {i v},[Value.slice p.aw p.nw p.cw,.int .i64 (Int.ofNat p.fr),.slice (some ⟨p.oT,0,none⟩) p.n p.n,.slice ao no co,.slice (some ⟨p.oW,0,none⟩) p.n p.n,.int .i64 (Int.ofNat s.top)][i]? =some v→readAt g16 p.M i 1=some [v]:=fun hv=>read1 (by rw[e16];exact m.M) hv
       refine⟨_,_,_,r16 (i:=2) rfl,_,r16 (i:=5) rfl,isNat_i ?_⟩
       show vreq _ _
       have T16:(g16.grd []).get p.oT=some (.cells (s.T.map fun t=>Value.int .i64 (Int.ofNat t)) 3 .fix):=m.T
       have u16:(g16.grd []).guarded p.oT=false:=gd.T
       have l16:0+a*1+ [Value.int .i64 (Int.ofNat s.top)].length≤(s.T.map fun t=>Value.int .i64 (Int.ofNat t)).length:=by simp;omega
       refine vreq_t (blt_t h3n) (vreq_t (canW_t T16 (by decide) u16 l16 rfl) ?_)
       intro g24 g25
       have T25:g25.get p.oT=some (.cells ((s.T.set a s.top).map fun t=>Value.int .i64 (Int.ofNat t)) 3 .fix):=by
        have:=wr_get T16 (by decide) u16 l16 rfl
        rw[show g25.get p.oT=_ from this,Nat.zero_add,Nat.mul_one,putAt_map (fun t:Nat=>Value.int .i64 (Int.ofNat t)) h3]
       have e25: ∀q,q≠p.oT→g25.get q=h.get q:=fun q hq=>by show Hp.get _ q=_;rw[show g25.get q=_ from wr_get_ne _ _ _ _ hq];rfl
       have n25:g25.nx=h.nx+11:=nx_wr ..
       have d25:g25.gd=h.gd:=rfl
       have ok25:g25.Ok:=⟨fun q hq=>Nat.lt_of_lt_of_le (ok.gd q hq) (by rw[n25];omega),fun q hq=>by
        rw[n25]at hq
        rw[e25 q (by omega)]
        exact ok.fr q (by omega)⟩
       have A25:AccI 3 g25 p.B ao no co (s.ord.map Int.ofNat):=m.A.keep (fun o ho ha=>e25 o fun hh=>m.ne (o:=o) (off:=0) (by omega) ha) (by omega)
       have M25:=(e25 p.M (by omega)).trans m.M
       have D25:=(e25 p.oW (Ne.symm Ptw)).trans m.D
       refine⟨_,_,_,read1 M25 (i:=3) rfl,?_⟩
       intro g29
       refine appI2 AppT22 A25 (by omega) gd.lt (by simp;omega) fun a30 n31 c32 h33 A33 k33 kB new=> ?_
       have n33:=k33.nx
       have d33:h33.gd=h.gd:=k33.gd
       have gd33:Gd p h33:=gd.of d33
       have M33:=(kB.get p.M PB).trans M25
       have l33:0+3+ [Value.slice a30 n31 c32].length≤ [Value.slice p.aw p.nw p.cw,.int .i64 (Int.ofNat p.fr),.slice (some ⟨p.oT,0,none⟩) p.n p.n,.slice ao no co,.slice (some ⟨p.oW,0,none⟩) p.n p.n,.int .i64 (Int.ofNat s.top)].length:=by show 4≤6;decide
       refine vreq_t (canW_t M33 (by decide) gd33.M l33 rfl) ?_
       intro g34 g35
       have M35:g35.get p.M=some (.cells [.slice p.aw p.nw p.cw,.int .i64 (Int.ofNat p.fr),.slice (some ⟨p.oT,0,none⟩) p.n p.n,.slice a30 n31 c32,.slice (some ⟨p.oW,0,none⟩) p.n p.n,.int .i64 (Int.ofNat s.top)] 113 .fix):=wr_get M33 (by decide) gd33.M l33 rfl
       have e35: ∀q,q≠p.M→g35.get q=h33.get q:=fun q hq=>wr_get_ne _ _ _ _ hq
       have n35:g35.nx=h33.nx+36:=by show(Hp.wr _ _ _ _).nx+36=_;rw[nx_wr]
       have d35:g35.gd=h.gd:=by show(Hp.wr _ _ _ _).gd=_;rw[gd_wr];exact d33
       have T35:g35.get p.oT=_:=(e35 _ (by omega)).trans ((kB.get _ (by omega)).trans T25)
       have D35:g35.get p.oW=_:=(e35 _ (by omega)).trans ((kB.get _ (by omega)).trans D25)
       have ok35:g35.Ok:=((ok25.kp kB).wr _ _ _).rsv _
       refine⟨_,read1 M35 (i:=5) rfl,_,_,_,read1 M35 (i:=4) rfl,_,read1 M35 (i:=5) rfl,_,_,_,slice_fix (by omega) Pn,_,_,_,read1 M35 (i:=0) rfl,_,_,_,read1 M35 (i:=0) rfl,isNat_i ?_⟩
       have kg35:Ft g g35:=⟨fun o ho=>(e35 o (by omega)).trans ((kB.get o (by omega)).trans ((e25 o (by omega)).trans (k.get o ho))),by have:=k.nx;omega⟩
       haveI:Ft g g35:=kg35
       have hk:=k.nx
       refine P.HW.at_.rd (k:=a) h5 ?_
       have okg:(g35.grd (p.M::(blocksOf (.slice (some ⟨p.oW,0,none⟩) p.n p.n)++(p.M::(p.M::(p.M::[])))))).Ok:=ok35.grd fun q hq=>by
        simp only[blocksOf,List.mem_cons,List.mem_append,List.not_mem_nil,or_false]at hq
        omega
       refine ct86 hO okg (P.r _ (List.getElem_mem h5)) fun h56 k56=> ?_
       intro g57
       rw[←gWa,hsz]
       have n56:g35.nx≤h56.nx:=k56.nx
       have e57: ∀q,q<g35.nx→g57.get q=g35.get q:=fun q hq=>k56.get q hq
       have d57:g57.gd=h.gd:=d35
       have ok57:g57.Ok:=⟨fun q hq=>Nat.lt_of_lt_of_le (ok35.gd q hq) n56,k56.fr okg.fr⟩
       have w1:wrapF .i64 (Int.ofNat a+1)=Int.ofNat (a+1):=wrap_succ (by have:=P.l;omega)
       have w2:wrapF .i64 (Int.ofNat (a+1)+Int.ofNat sz)=Int.ofNat (a+1+sz):=by
        rw[wrap64 (by simp;omega) (by have:=P.l;simp;omega)];simp
       rw[w1,w2]
       have kg57:Ft g g57:=⟨fun o ho=>(e57 o (by omega)).trans (kg35.get o ho),by show g.nx≤h56.nx;omega⟩
       haveI:Ft g g57:=kg57
       obtain⟨a',c',es,sp⟩:=(P.HW.to g57).part (l:=a) (r:=a+1+sz) (by omega) h8 (lo:=some (.int .i64 (Int.ofNat a))) (hi:=some (.int .i64 (Int.ofNat (a+1+sz)))) (fun vis hv=>bounds_lh (by omega) (by have:=P.HW.at_.1;omega))
       refine⟨_,_,_,es,?_⟩
       have D57:(g57.grd [p.M]).get p.oW=_:=(e57 _ (by omega)).trans D35
       have u57:(g57.grd [p.M]).guarded p.oW=false:=by
        have:=(gd.of d57).W
        unfold Hp.guarded at this ⊢
        show(p.M::g57.gd).any _=false
        rw[List.any_cons,this,Bool.or_false,Bool.eq_false_iff]
        intro hh
        have:=Nat.eq_of_beq_eq_true hh
        omega
       have X57:IntsAt (g57.grd [p.M]) a' (a+1+sz-a) ((W.drop a).take (a+1+sz-a)):=sp.at_.keep (fun _ _ _=>rfl) (Nat.le_refl _) (fun _ _ h=>h)
       obtain⟨h62,ec,D62,e62,n62,d62,f62⟩:=copy_ints (c1:=p.n-s.top) (c2:=c') D57 (by decide) u57 (off:=s.top) (n:=p.n-s.top) (by omega) X57
       have hmin:Nat.min (a+1+sz-a) (p.n-s.top)=1+sz:=by
        show min _ _=_
        omega
       rw[hmin]at ec D62
       have hch:((W.drop a).take (a+1+sz-a)).take (1+sz)=chunkW W a:=by
        unfold chunkW
        rw[tsz,List.take_take]
        congr 1
        omega
       rw[hch]at D62
       refine⟨_,_,ec,?_⟩
       intro g63
       have M63:(g63.grd []).get p.M=_:=(e62 _ (by omega)).trans ((e57 _ (by omega)).trans M35)
       have d63:g63.gd=h.gd:=d57
       have gd63:Gd p (g63.grd []):=gd.of d63
       have l63:0+5+ [Value.int .i64 (wrapF .i64 (Int.ofNat s.top+Int.ofNat (1+sz)))].length≤ [Value.slice p.aw p.nw p.cw,.int .i64 (Int.ofNat p.fr),.slice (some ⟨p.oT,0,none⟩) p.n p.n,.slice a30 n31 c32,.slice (some ⟨p.oW,0,none⟩) p.n p.n,.int .i64 (Int.ofNat s.top)].length:=by show 6≤6;decide
       refine vreq_t (canW_t M63 (by decide) gd63.M l63 rfl) ?_
       intro g64 g65
       have w3:wrapF .i64 (Int.ofNat s.top+Int.ofNat (1+sz))=Int.ofNat (s.top+1+sz):=by
        rw[wrap64 (by simp;omega) (by simp;omega)];simp;omega
       have M65:g65.get p.M=some (.cells [.slice p.aw p.nw p.cw,.int .i64 (Int.ofNat p.fr),.slice (some ⟨p.oT,0,none⟩) p.n p.n,.slice a30 n31 c32,.slice (some ⟨p.oW,0,none⟩) p.n p.n,.int .i64 (Int.ofNat (s.top+1+sz))] 113 .fix):=by
        have:=wr_get M63 (by decide) gd63.M l63 rfl
        rw[show g65.get p.M=_ from this,w3];rfl
       have e65: ∀q,q≠p.M→g65.get q=h62.get q:=fun q hq=>wr_get_ne _ _ _ _ hq
       have n65:g65.nx=h56.nx:=by show(Hp.wr _ _ _ _).nx=_;rw[nx_wr];exact n62
       have d65:g65.gd=h.gd:=d63
       have T65:g65.get p.oT=_:=(e65 _ (by omega)).trans ((e62 _ Ptw).trans ((e57 _ (by omega)).trans T35))
       have D65:g65.get p.oW=_:=(e65 _ (by omega)).trans D62
       have e65h: ∀q,q<h33.nx→q≠p.M→q≠p.oW→g65.get q=h33.get q:=fun q hq h1 h2=>(e65 q h1).trans ((e62 q h2).trans ((e57 q (by omega)).trans (e35 q h1)))
       have f65:h.Fresh→g65.Fresh:=fun f q hq=>by
        rw[n65]at hq
        rw[e65 q (by omega),e62 q (by omega)]
        exact ok57.fr q hq
       have A65:AccI 3 g65 p.B a30 n31 c32 ((s.ord++[a]).map Int.ofNat):=by
        rw[List.map_append]
        exact A33.keep (fun o ho ha=>by
         have:=A33.fresh ha
         exact e65h o ho (by omega) (by omega)) (by omega)
       have m':MvAt p g65 ⟨s.T.set a s.top,s.ord++[a],putAt s.D s.top (chunkW W a),s.top+1+sz⟩ a30 n31 c32:=by
        refine⟨M65,T65,D65,A65,by simpa using hTl,by show(putAt _ _ _).length=_;rw[putAt_length];exact hDl,fun t ht=> ?_,fun x hx=> ?_,by omega⟩
        · rcases List.mem_or_eq_of_mem_set ht with h|rfl
          · exact m.bT t h
          · omega
        · rcases mem_putAt _ _ _ hx with h|h
          · exact m.bD x h
          · exact P.r x (List.mem_of_mem_drop (List.mem_of_mem_take h))
       refine⟨_,_,_,m'.rd (i:=2) rfl,isNat_i ?_⟩
       show vreq _ _
       refine vreq_t (blt_t h3n) ⟨_,m'.rdT (i:=a) (by simpa using h3),?_,_,_,_,m',?_⟩
       · have:(s.T.set a s.top).getD a 0=s.top:=by simp[List.getD,h3]
         rw[this,dbl64 (n:=p.n) (by omega) Pn]
       · refine⟨fun o ho h1 h2 h3 h4=> ?_,by omega,d65,f65,?_⟩
         · rw[e65h o (by omega) h1 h3]
           rw[k33.get o (by omega) (h4 0)]
           exact e25 o h2
         · refine .inr fun b off hb=> ?_
           rw[new]at hb
           injection hb with hb;injection hb with hb
           omega
     · cases hs
 · cases hs
end
noncomputable def b145:Code:=(Tryz.f145.body).getD .skip
def lv145:List (Nat×List Nat):=[]
def T145 (O:CallF)(Q:Value→Hp→Prop)(x0:Int)(h:Hp):Prop:=
 vcond (!(eqI (Int.tmod x0 2) 0))
 (Q (.int .i64 0) h)
 (Q (.int .i64 (wrapF .i64 (Int.tdiv x0 2))) h)
theorem rk145 {O Q} (x0){h:Hp}(hO:O 145 [.int .i64 x0] h=none)(hh:T145 O Q x0 h):Ret Tryz.prog O 145 [.int .i64 x0] h Q:=
 .of (c:=b145) Tryz.func145 (by kernel_rfl) hO (V_ok (tb:=lv145) (cuts:=[]) 500 (Eq.mp (by kernel_rfl) hh))
noncomputable def b130:Code:=(Tryz.f130.body).getD .skip
noncomputable def stk130_0:List KI:=[.code (sub [1,0,1,0] b130),.blk 0,.code (sub [1,1] b130)]
def lv130:List (Nat×List Nat):=[(0,[0,1,2,6,7])]
def I130_0 (O:CallF)(Q:Value→Hp→Prop)(a0:Option Addr)(n0 c0:Nat)(a1:Option Addr)(n1 c1:Nat)(x2:Int)(a0s:Option Addr)(n0s c0s:Nat)(x7:Int)(h:Hp):Prop:=RKL Tryz.prog O Tryz.f130 stk130_0 35 [0,1,2,6,7] [.slice a0s n0s c0s,.slice a1 n1 c1,.int .i64 x2,.slice none 0 0,.int .i64 x7] h Q
def T130 (O:CallF)(Q:Value→Hp→Prop)(a0:Option Addr)(n0 c0:Nat)(a1:Option Addr)(n1 c1:Nat)(x2:Int)(h:Hp):Prop:=
 I130_0 O Q a0 n0 c0 a1 n1 c1 x2 a0 n0 c0 0 h
theorem rk130 {O Q} (a0 n0 c0 a1 n1 c1 x2){h:Hp}(hO:O 130 [.slice a0 n0 c0,.slice a1 n1 c1,.int .i64 x2] h=none)(hh:T130 O Q a0 n0 c0 a1 n1 c1 x2 h):Ret Tryz.prog O 130 [.slice a0 n0 c0,.slice a1 n1 c1,.int .i64 x2] h Q:=
 .of (c:=b130) Tryz.func130 (by kernel_rfl) hO (V_ok (tb:=lv130) (cuts:=[]) 500 (Eq.mp (by kernel_rfl) hh))
def T130_0 (O:CallF)(Q:Value→Hp→Prop)(a0:Option Addr)(n0 c0:Nat)(a1:Option Addr)(n1 c1:Nat)(x2:Int)(a0s:Option Addr)(n0s c0s:Nat)(x7:Int)(h:Hp):Prop:=
 vcond (ltI x7 (Int.ofNat n1))
 (isNat x7 fun n101=>
 isAddr a1 fun b102 f103=>
 vreq (Nat.blt n101 n1)
 (∃x104,readAt h b102 (f103+(n101*1)) 1=some [.int .i64 x104]∧
 ∃x105 h106,EvC Tryz.prog O 145 [.int .i64 x104] h (.int .i64 x105) h106∧
 vcond (!(ltI x105 (maxI x2 1)))
 (∃q107 h108,EvC Tryz.prog O 67 [.slice a0s n0s c0s,.int .i64 x105] h106 (.bool q107) h108∧
 vcond (!q107)
 (let g109:=h108.add (.cells [.int .i64 x105] 3 .fix)
 ∃a110 n111 c112 h113,appendV Tryz.prog g109 22 22 (.slice a0s n0s c0s) (.slice (some ⟨h108.nx,0,none⟩) 1 1)=some (.slice a110 n111 c112,h113)∧
 I130_0 O Q a0 n0 c0 a1 n1 c1 x2 a110 n111 c112 (wrapF .i64 (x7+1)) h113)
 (I130_0 O Q a0 n0 c0 a1 n1 c1 x2 a0s n0s c0s (wrapF .i64 (x7+1)) h108))
 (I130_0 O Q a0 n0 c0 a1 n1 c1 x2 a0s n0s c0s (wrapF .i64 (x7+1)) h106)))
 (Q (.slice a0s n0s c0s) h)
theorem I130_0.of {O Q} (a0 n0 c0 a1 n1 c1 x2 a0s n0s c0s x7){h:Hp}(hh:T130_0 O Q a0 n0 c0 a1 n1 c1 x2 a0s n0s c0s x7 h):I130_0 O Q a0 n0 c0 a1 n1 c1 x2 a0s n0s c0s x7 h:=
 RKL.of (tb:=lv130) (cuts:=[]) 500 fun _=>Eq.mp (by kernel_rfl) hh
noncomputable def b68:Code:=(Tryz.f68.body).getD .skip
def lv68:List (Nat×List Nat):=[]
def T68 (O:CallF)(Q:Value→Hp→Prop)(a0_0:Option Addr)(n0_0 c0_0:Nat)(x0_1:Int)(a0_2:Option Addr)(n0_2 c0_2:Nat)(x1:Int)(h:Hp):Prop:=
 let g1:=h.add (.cells [.slice a0_0 n0_0 c0_0,.int .i64 x0_1,.slice a0_2 n0_2 c0_2] 24 .fix)
 ∃a2 n3 c4,readAt g1 h.nx 0 1=some [.slice a2 n3 c4]∧
 isNat x1 fun n5=>
 isAddr a2 fun b6 f7=>
 vreq (Nat.blt n5 n3)
 (∃x8,readAt g1 b6 (f7+(n5*1)) 1=some [.int .i64 x8]∧
 ∃x9 h10,EvC Tryz.prog O 90 [.int .i64 x8] g1 (.int .i64 x9) h10∧
 vcond (eqI x9 1)
 (∃a11 n12 c13 x14 a15 n16 c17,readAt h10 h.nx 0 3=some [.slice a11 n12 c13,.int .i64 x14,.slice a15 n16 c17]∧
 ∃a18 n19 c20 h21,EvC Tryz.prog O 122 [.agg #[.slice a11 n12 c13,.int .i64 x14,.slice a15 n16 c17],.int .i64 x1] h10 (.slice a18 n19 c20) h21∧
 Q (.slice a18 n19 c20) h21)
 (vcond (eqI x9 2)
 (∃a22 n23 c24 x25 a26 n27 c28,readAt h10 h.nx 0 3=some [.slice a22 n23 c24,.int .i64 x25,.slice a26 n27 c28]∧
 ∃a29 n30 c31 h32,EvC Tryz.prog O 122 [.agg #[.slice a22 n23 c24,.int .i64 x25,.slice a26 n27 c28],.int .i64 x1] h10 (.slice a29 n30 c31) h32∧
 Q (.slice a29 n30 c31) h32)
 (Q (.slice none 0 0) h10)))
theorem rk68 {O Q} (a0_0 n0_0 c0_0 x0_1 a0_2 n0_2 c0_2 x1){h:Hp}(hO:O 68 [.agg #[.slice a0_0 n0_0 c0_0,.int .i64 x0_1,.slice a0_2 n0_2 c0_2],.int .i64 x1] h=none)(hh:T68 O Q a0_0 n0_0 c0_0 x0_1 a0_2 n0_2 c0_2 x1 h):Ret Tryz.prog O 68 [.agg #[.slice a0_0 n0_0 c0_0,.int .i64 x0_1,.slice a0_2 n0_2 c0_2],.int .i64 x1] h Q:=
 .of (c:=b68) Tryz.func68 (by kernel_rfl) hO (V_ok (tb:=lv68) (cuts:=[]) 500 (Eq.mp (by kernel_rfl) hh))
noncomputable def b70:Code:=(Tryz.f70.body).getD .skip
noncomputable def stk70_0:List KI:=[.code (sub [1,1,0,1,0] b70),.blk 0,.code (sub [1,1,1] b70)]
def lv70:List (Nat×List Nat):=[(0,[2,3,6,7,8])]
def I70_0 (O:CallF)(Q:Value→Hp→Prop)(a0_0:Option Addr)(n0_0 c0_0:Nat)(x0_1:Int)(a0_2:Option Addr)(n0_2 c0_2:Nat)(a1:Option Addr)(n1 c1:Nat)(x2:Int)(b3 f3:Nat)(a7:Option Addr)(n7 c7:Nat)(x8:Int)(h:Hp):Prop:=RKL Tryz.prog O Tryz.f70 stk70_0 28 [2,3,6,7,8] [.int .i64 x2,.pointer (some ⟨b3,f3,none⟩),.slice none 0 0,.slice a7 n7 c7,.int .i64 x8] h Q
def T70 (O:CallF)(Q:Value→Hp→Prop)(a0_0:Option Addr)(n0_0 c0_0:Nat)(x0_1:Int)(a0_2:Option Addr)(n0_2 c0_2:Nat)(a1:Option Addr)(n1 c1:Nat)(x2:Int)(h:Hp):Prop:=
 let g1:=h.add (.cells [.slice a0_0 n0_0 c0_0,.int .i64 x0_1,.slice a0_2 n0_2 c0_2] 24 .fix)
 ∃a2 n3 c4 h5,EvC Tryz.prog O 130 [.slice none 0 0,.slice a1 n1 c1,.int .i64 x2] g1 (.slice a2 n3 c4) h5∧
 I70_0 O Q a0_0 n0_0 c0_0 x0_1 a0_2 n0_2 c0_2 a1 n1 c1 x2 h.nx 0 a2 n3 c4 0 h5
theorem rk70 {O Q} (a0_0 n0_0 c0_0 x0_1 a0_2 n0_2 c0_2 a1 n1 c1 x2){h:Hp}(hO:O 70 [.agg #[.slice a0_0 n0_0 c0_0,.int .i64 x0_1,.slice a0_2 n0_2 c0_2],.slice a1 n1 c1,.int .i64 x2] h=none)(hh:T70 O Q a0_0 n0_0 c0_0 x0_1 a0_2 n0_2 c0_2 a1 n1 c1 x2 h):Ret Tryz.prog O 70 [.agg #[.slice a0_0 n0_0 c0_0,.int .i64 x0_1,.slice a0_2 n0_2 c0_2],.slice a1 n1 c1,.int .i64 x2] h Q:=
 .of (c:=b70) Tryz.func70 (by kernel_rfl) hO (V_ok (tb:=lv70) (cuts:=[]) 500 (Eq.mp (by kernel_rfl) hh))
def T70_0 (O:CallF)(Q:Value→Hp→Prop)(a0_0:Option Addr)(n0_0 c0_0:Nat)(x0_1:Int)(a0_2:Option Addr)(n0_2 c0_2:Nat)(a1:Option Addr)(n1 c1:Nat)(x2:Int)(b3 f3:Nat)(a7:Option Addr)(n7 c7:Nat)(x8:Int)(h:Hp):Prop:=
 vcond (ltI x8 (Int.ofNat n7))
 (let g101:=h.rsv 10
 ∃a102 n103 c104 x105 a106 n107 c108,readAt g101 b3 f3 3=some [.slice a102 n103 c104,.int .i64 x105,.slice a106 n107 c108]∧
 isNat x8 fun n109=>
 isAddr a7 fun b110 f111=>
 vreq (Nat.blt n109 n7)
 (∃x112,readAt g101 b110 (f111+(n109*1)) 1=some [.int .i64 x112]∧
 ∃a113 n114 c115 h116,EvC Tryz.prog O 68 [.agg #[.slice a102 n103 c104,.int .i64 x105,.slice a106 n107 c108],.int .i64 x112] (g101.grd []) (.slice a113 n114 c115) h116∧
 let g117:=h116.rst g101
 ∃a118 n119 c120 h121,EvC Tryz.prog O 130 [.slice a7 n7 c7,.slice a113 n114 c115,.int .i64 x2] (g117.grd []) (.slice a118 n119 c120) h121∧
 let g122:=h121.rst g117
 I70_0 O Q a0_0 n0_0 c0_0 x0_1 a0_2 n0_2 c0_2 a1 n1 c1 x2 b3 f3 a118 n119 c120 (wrapF .i64 (x8+1)) g122))
 (Q (.slice a7 n7 c7) h)
theorem I70_0.of {O Q} (a0_0 n0_0 c0_0 x0_1 a0_2 n0_2 c0_2 a1 n1 c1 x2 b3 f3 a7 n7 c7 x8){h:Hp}(hh:T70_0 O Q a0_0 n0_0 c0_0 x0_1 a0_2 n0_2 c0_2 a1 n1 c1 x2 b3 f3 a7 n7 c7 x8 h):I70_0 O Q a0_0 n0_0 c0_0 x0_1 a0_2 n0_2 c0_2 a1 n1 c1 x2 b3 f3 a7 n7 c7 x8 h:=
 RKL.of (tb:=lv70) (cuts:=[]) 500 fun _=>Eq.mp (by kernel_rfl) hh
noncomputable def b72:Code:=(Tryz.f72.body).getD .skip
noncomputable def stk72_0:List KI:=[.code (sub [1,1,0,1,0] b72),.blk 0,.code (sub [1,1,1] b72)]
def lv72:List (Nat×List Nat):=[(0,[1,2,3,6,7,8,9])]
def I72_0 (O:CallF)(Q:Value→Hp→Prop)(a0_0:Option Addr)(n0_0 c0_0:Nat)(x0_1:Int)(a0_2:Option Addr)(n0_2 c0_2:Nat)(a1:Option Addr)(n1 c1:Nat)(x2 x2s:Int)(b3 f3:Nat)(a8:Option Addr)(n8 c8:Nat)(x9:Int)(h:Hp):Prop:=RKL Tryz.prog O Tryz.f72 stk72_0 34 [1,2,3,6,7,8,9] [.slice a1 n1 c1,.int .i64 x2s,.pointer (some ⟨b3,f3,none⟩),.slice none 0 0,.int .i64 0,.slice a8 n8 c8,.int .i64 x9] h Q
def T72 (O:CallF)(Q:Value→Hp→Prop)(a0_0:Option Addr)(n0_0 c0_0:Nat)(x0_1:Int)(a0_2:Option Addr)(n0_2 c0_2:Nat)(a1:Option Addr)(n1 c1:Nat)(x2:Int)(h:Hp):Prop:=
 let g1:=h.add (.cells [.slice a0_0 n0_0 c0_0,.int .i64 x0_1,.slice a0_2 n0_2 c0_2] 24 .fix)
 I72_0 O Q a0_0 n0_0 c0_0 x0_1 a0_2 n0_2 c0_2 a1 n1 c1 x2 x2 h.nx 0 none 0 0 0 g1
theorem rk72 {O Q} (a0_0 n0_0 c0_0 x0_1 a0_2 n0_2 c0_2 a1 n1 c1 x2){h:Hp}(hO:O 72 [.agg #[.slice a0_0 n0_0 c0_0,.int .i64 x0_1,.slice a0_2 n0_2 c0_2],.slice a1 n1 c1,.int .i64 x2] h=none)(hh:T72 O Q a0_0 n0_0 c0_0 x0_1 a0_2 n0_2 c0_2 a1 n1 c1 x2 h):Ret Tryz.prog O 72 [.agg #[.slice a0_0 n0_0 c0_0,.int .i64 x0_1,.slice a0_2 n0_2 c0_2],.slice a1 n1 c1,.int .i64 x2] h Q:=
 .of (c:=b72) Tryz.func72 (by kernel_rfl) hO (V_ok (tb:=lv72) (cuts:=[]) 500 (Eq.mp (by kernel_rfl) hh))
def T72_0 (O:CallF)(Q:Value→Hp→Prop)(a0_0:Option Addr)(n0_0 c0_0:Nat)(x0_1:Int)(a0_2:Option Addr)(n0_2 c0_2:Nat)(a1:Option Addr)(n1 c1:Nat)(x2 x2s:Int)(b3 f3:Nat)(a8:Option Addr)(n8 c8:Nat)(x9:Int)(h:Hp):Prop:=
 vcond (ltI x9 (Int.ofNat n1))
 (let g101:=h.add (.cells [.int .i64 x2s] 3 .fix)
 ∃a102 n103 c104 h105,appendV Tryz.prog g101 22 22 (.slice a8 n8 c8) (.slice (some ⟨h.nx,0,none⟩) 1 1)=some (.slice a102 n103 c104,h105)∧
 let g106:=h105.rsv 13
 ∃a107 n108 c109,readAt g106 b3 (f3+0) 1=some [.slice a107 n108 c109]∧
 isNat x9 fun n110=>
 isAddr a1 fun b111 f112=>
 vreq (Nat.blt n110 n1)
 (∃x113,readAt g106 b111 (f112+(n110*1)) 1=some [.int .i64 x113]∧
 isNat x113 fun n114=>
 isAddr a107 fun b115 f116=>
 vreq (Nat.blt n114 n108)
 (∃x117,readAt g106 b115 (f116+(n114*1)) 1=some [.int .i64 x117]∧
 ∃x118 h119,EvC Tryz.prog O 127 [.int .i64 x117] (g106.grd []) (.int .i64 x118) h119∧
 let g120:=h119.rst g106
 I72_0 O Q a0_0 n0_0 c0_0 x0_1 a0_2 n0_2 c0_2 a1 n1 c1 x2 (wrapF .i64 ((wrapF .i64 (x2s+1))+x118)) b3 f3 a102 n103 c104 (wrapF .i64 (x9+1)) g120)))
 (Q (.tuple #[.slice a8 n8 c8,.int .i64 x2s]) h)
theorem I72_0.of {O Q} (a0_0 n0_0 c0_0 x0_1 a0_2 n0_2 c0_2 a1 n1 c1 x2 x2s b3 f3 a8 n8 c8 x9){h:Hp}(hh:T72_0 O Q a0_0 n0_0 c0_0 x0_1 a0_2 n0_2 c0_2 a1 n1 c1 x2 x2s b3 f3 a8 n8 c8 x9 h):I72_0 O Q a0_0 n0_0 c0_0 x0_1 a0_2 n0_2 c0_2 a1 n1 c1 x2 x2s b3 f3 a8 n8 c8 x9 h:=
 RKL.of (tb:=lv72) (cuts:=[]) 500 fun _=>Eq.mp (by kernel_rfl) hh
noncomputable def b129:Code:=(Tryz.f129.body).getD .skip
noncomputable def stk129_0:List KI:=[.code (sub [1,1,1,0,1,0] b129),.blk 0,.code (sub [1,1,1,1] b129)]
def lv129:List (Nat×List Nat):=[(0,[1,2,8,9,10])]
def I129_0 (O:CallF)(Q:Value→Hp→Prop)(x0:Int)(a1:Option Addr)(n1 c1:Nat)(a2:Option Addr)(n2 c2:Nat)(x3 x8 x9 x10:Int)(h:Hp):Prop:=RKL Tryz.prog O Tryz.f129 stk129_0 38 [1,2,8,9,10] [.slice a1 n1 c1,.slice a2 n2 c2,.int .i64 x8,.int .i64 x9,.int .i64 x10] h Q
def T129 (O:CallF)(Q:Value→Hp→Prop)(x0:Int)(a1:Option Addr)(n1 c1:Nat)(a2:Option Addr)(n2 c2:Nat)(x3:Int)(h:Hp):Prop:=
 ∃x1 h2,EvC Tryz.prog O 145 [.int .i64 x0] h (.int .i64 x1) h2∧
 vcond (eqI x1 0)
 (Q (.int .i64 x0) h2)
 (vcond (ltI x1 x3)
 (Q (.int .i64 x0) h2)
 (I129_0 O Q x0 a1 n1 c1 a2 n2 c2 x3 0 x1 0 h2))
theorem rk129 {O Q} (x0 a1 n1 c1 a2 n2 c2 x3){h:Hp}(hO:O 129 [.int .i64 x0,.slice a1 n1 c1,.slice a2 n2 c2,.int .i64 x3] h=none)(hh:T129 O Q x0 a1 n1 c1 a2 n2 c2 x3 h):Ret Tryz.prog O 129 [.int .i64 x0,.slice a1 n1 c1,.slice a2 n2 c2,.int .i64 x3] h Q:=
 .of (c:=b129) Tryz.func129 (by kernel_rfl) hO (V_ok (tb:=lv129) (cuts:=[]) 500 (Eq.mp (by kernel_rfl) hh))
def T129_0 (O:CallF)(Q:Value→Hp→Prop)(x0:Int)(a1:Option Addr)(n1 c1:Nat)(a2:Option Addr)(n2 c2:Nat)(x3 x8 x9 x10:Int)(h:Hp):Prop:=
 vcond (ltI x10 (Int.ofNat n1))
 (isNat x10 fun n101=>
 isAddr a1 fun b102 f103=>
 vreq (Nat.blt n101 n1)
 (∃x104,readAt h b102 (f103+(n101*1)) 1=some [.int .i64 x104]∧
 vcond (eqI x104 x9)
 (isNat x10 fun n105=>
 isAddr a2 fun b106 f107=>
 vreq (Nat.blt n105 n2)
 (∃x108,readAt h b106 (f107+(n105*1)) 1=some [.int .i64 x108]∧
 Q (.int .i64 (wrapF .i64 (2*x108))) h))
 (I129_0 O Q x0 a1 n1 c1 a2 n2 c2 x3 x8 x9 (wrapF .i64 (x10+1)) h)))
 (Q (.int .i64 0) h)
theorem I129_0.of {O Q} (x0 a1 n1 c1 a2 n2 c2 x3 x8 x9 x10){h:Hp}(hh:T129_0 O Q x0 a1 n1 c1 a2 n2 c2 x3 x8 x9 x10 h):I129_0 O Q x0 a1 n1 c1 a2 n2 c2 x3 x8 x9 x10 h:=
 RKL.of (tb:=lv129) (cuts:=[]) 500 fun _=>Eq.mp (by kernel_rfl) hh
noncomputable def b128:Code:=(Tryz.f128.body).getD .skip
noncomputable def stk128_0:List KI:=[.code (sub [1,1,1,1,1,0] b128),.blk 0]
def lv128:List (Nat×List Nat):=[(0,[0,1,4,5,6,14,15,16])]
def I128_0 (O:CallF)(Q:Value→Hp→Prop)(a0:Option Addr)(n0 c0:Nat)(x1:Int)(a2_0:Option Addr)(n2_0 c2_0:Nat)(x2_1:Int)(a2_2:Option Addr)(n2_2 c2_2:Nat)(x3:Int)(a4:Option Addr)(n4 c4:Nat)(a5:Option Addr)(n5 c5:Nat)(x6 x14:Int)(a15:Option Addr)(n15 c15:Nat)(x16:Int)(h:Hp):Prop:=RKL Tryz.prog O Tryz.f128 stk128_0 70 [0,1,4,5,6,14,15,16] [.slice a0 n0 c0,.int .i64 x1,.slice a4 n4 c4,.slice a5 n5 c5,.int .i64 x6,.int .i64 x14,.slice a15 n15 c15,.int .i64 x16] h Q
def T128 (O:CallF)(Q:Value→Hp→Prop)(a0:Option Addr)(n0 c0:Nat)(x1:Int)(a2_0:Option Addr)(n2_0 c2_0:Nat)(x2_1:Int)(a2_2:Option Addr)(n2_2 c2_2:Nat)(x3:Int)(a4:Option Addr)(n4 c4:Nat)(a5:Option Addr)(n5 c5:Nat)(x6:Int)(h:Hp):Prop:=
 let g1:=h.add (.cells [.slice a2_0 n2_0 c2_0,.int .i64 x2_1,.slice a2_2 n2_2 c2_2] 24 .fix)
 ∃a2 n3 c4',readAt g1 h.nx 0 1=some [.slice a2 n3 c4']∧
 isNat x3 fun n5'=>
 isAddr a2 fun b6 f7=>
 vreq (Nat.blt n5' n3)
 (∃x8,readAt g1 b6 (f7+(n5'*1)) 1=some [.int .i64 x8]∧
 isNat x1 fun n9=>
 isAddr a0 fun b10 f11=>
 vreq (Nat.blt n9 n0)
 (vreq (canW g1 b10 (f11+(n9*1)) [.int .i64 x8])
 (let g12:=g1.wr b10 (f11+(n9*1)) [.int .i64 x8]
 ∃a13 n14 c15,readAt g12 h.nx 0 1=some [.slice a13 n14 c15]∧
 isNat x3 fun n16=>
 isAddr a13 fun b17 f18=>
 vreq (Nat.blt n16 n14)
 (∃x19,readAt g12 b17 (f18+(n16*1)) 1=some [.int .i64 x19]∧
 ∃x20 h21,EvC Tryz.prog O 90 [.int .i64 x19] g12 (.int .i64 x20) h21∧
 ∃a22 n23 c24 x25 a26 n27 c28,readAt h21 h.nx 0 3=some [.slice a22 n23 c24,.int .i64 x25,.slice a26 n27 c28]∧
 ∃a29 n30 c31 h32,EvC Tryz.prog O 122 [.agg #[.slice a22 n23 c24,.int .i64 x25,.slice a26 n27 c28],.int .i64 x3] h21 (.slice a29 n30 c31) h32∧
 I128_0 O Q a0 n0 c0 x1 a2_0 n2_0 c2_0 x2_1 a2_2 n2_2 c2_2 x3 a4 n4 c4 a5 n5 c5 x6 x20 a29 n30 c31 0 h32))))
theorem rk128 {O Q} (a0 n0 c0 x1 a2_0 n2_0 c2_0 x2_1 a2_2 n2_2 c2_2 x3 a4 n4 c4 a5 n5 c5 x6){h:Hp}(hO:O 128 [.slice a0 n0 c0,.int .i64 x1,.agg #[.slice a2_0 n2_0 c2_0,.int .i64 x2_1,.slice a2_2 n2_2 c2_2],.int .i64 x3,.slice a4 n4 c4,.slice a5 n5 c5,.int .i64 x6] h=none)(hh:T128 O Q a0 n0 c0 x1 a2_0 n2_0 c2_0 x2_1 a2_2 n2_2 c2_2 x3 a4 n4 c4 a5 n5 c5 x6 h):Ret Tryz.prog O 128 [.slice a0 n0 c0,.int .i64 x1,.agg #[.slice a2_0 n2_0 c2_0,.int .i64 x2_1,.slice a2_2 n2_2 c2_2],.int .i64 x3,.slice a4 n4 c4,.slice a5 n5 c5,.int .i64 x6] h Q:=
 .of (c:=b128) Tryz.func128 (by kernel_rfl) hO (V_ok (tb:=lv128) (cuts:=[]) 500 (Eq.mp (by kernel_rfl) hh))
def T128_0 (O:CallF)(Q:Value→Hp→Prop)(a0:Option Addr)(n0 c0:Nat)(x1:Int)(a2_0:Option Addr)(n2_0 c2_0:Nat)(x2_1:Int)(a2_2:Option Addr)(n2_2 c2_2:Nat)(x3:Int)(a4:Option Addr)(n4 c4:Nat)(a5:Option Addr)(n5 c5:Nat)(x6 x14:Int)(a15:Option Addr)(n15 c15:Nat)(x16:Int)(h:Hp):Prop:=
 vcond (ltI x16 (Int.ofNat n15))
 (isNat x16 fun n101=>
 isAddr a15 fun b102 f103=>
 vreq (Nat.blt n101 n15)
 (∃x104,readAt h b102 (f103+(n101*1)) 1=some [.int .i64 x104]∧
 isNat (wrapF .i64 ((wrapF .i64 (x1+1))+x16)) fun n105=>
 isAddr a0 fun b106 f107=>
 vreq (Nat.blt n105 n0)
 (vreq (canW h b106 (f107+(n105*1)) [.int .i64 x104])
 (let g108:=h.wr b106 (f107+(n105*1)) [.int .i64 x104]
 vcond (!(eqI x14 3))
 (vcond (!(eqI x14 4))
 (isNat x16 fun n109=>
 isAddr a15 fun b110 f111=>
 vreq (Nat.blt n109 n15)
 (∃x112,readAt g108 b110 (f111+(n109*1)) 1=some [.int .i64 x112]∧
 ∃x113 h114,EvC Tryz.prog O 129 [.int .i64 x112,.slice a4 n4 c4,.slice a5 n5 c5,.int .i64 x6] g108 (.int .i64 x113) h114∧
 isNat (wrapF .i64 ((wrapF .i64 (x1+1))+x16)) fun n115=>
 isAddr a0 fun b116 f117=>
 vreq (Nat.blt n115 n0)
 (vreq (canW h114 b116 (f117+(n115*1)) [.int .i64 x113])
 (let g118:=h114.wr b116 (f117+(n115*1)) [.int .i64 x113]
 I128_0 O Q a0 n0 c0 x1 a2_0 n2_0 c2_0 x2_1 a2_2 n2_2 c2_2 x3 a4 n4 c4 a5 n5 c5 x6 x14 a15 n15 c15 (wrapF .i64 (x16+1)) g118))))
 (I128_0 O Q a0 n0 c0 x1 a2_0 n2_0 c2_0 x2_1 a2_2 n2_2 c2_2 x3 a4 n4 c4 a5 n5 c5 x6 x14 a15 n15 c15 (wrapF .i64 (x16+1)) g108))
 (I128_0 O Q a0 n0 c0 x1 a2_0 n2_0 c2_0 x2_1 a2_2 n2_2 c2_2 x3 a4 n4 c4 a5 n5 c5 x6 x14 a15 n15 c15 (wrapF .i64 (x16+1)) g108)))))
 (Q undef h)
theorem I128_0.of {O Q} (a0 n0 c0 x1 a2_0 n2_0 c2_0 x2_1 a2_2 n2_2 c2_2 x3 a4 n4 c4 a5 n5 c5 x6 x14 a15 n15 c15 x16){h:Hp}(hh:T128_0 O Q a0 n0 c0 x1 a2_0 n2_0 c2_0 x2_1 a2_2 n2_2 c2_2 x3 a4 n4 c4 a5 n5 c5 x6 x14 a15 n15 c15 x16 h):I128_0 O Q a0 n0 c0 x1 a2_0 n2_0 c2_0 x2_1 a2_2 n2_2 c2_2 x3 a4 n4 c4 a5 n5 c5 x6 x14 a15 n15 c15 x16 h:=
 RKL.of (tb:=lv128) (cuts:=[]) 500 fun _=>Eq.mp (by kernel_rfl) hh
noncomputable def b69:Code:=(Tryz.f69.body).getD .skip
noncomputable def stk69_0:List KI:=[.code (sub [1,1,1,1,0,1,0] b69),.blk 0,.code (sub [1,1,1,1,1] b69)]
noncomputable def stk69_1:List KI:=[.code (sub [1,1,1,1,1,0,1,0] b69),.blk 2,.code (sub [1,1,1,1,1,1] b69)]
noncomputable def stk69_2:List KI:=[.code (sub [1,1,1,1,1,1,0,1,0] b69),.blk 4,.code (sub [1,1,1,1,1,1,1] b69)]
def lv69:List (Nat×List Nat):=[(0,[1,2,3,6,7,9,10,12]),(2,[1,2,3,6,7,9,13]),(4,[1,2,3,6,7,9,14])]
def I69_0 (O:CallF)(Q:Value→Hp→Prop)(a0_0:Option Addr)(n0_0 c0_0:Nat)(x0_1:Int)(a0_2:Option Addr)(n0_2 c0_2:Nat)(a1:Option Addr)(n1 c1:Nat)(x2:Int)(b3 f3 b6 f6:Nat)(a7:Option Addr)(n7 c7 b9 f9:Nat)(a10:Option Addr)(n10 c10:Nat)(x12:Int)(h:Hp):Prop:=RKL Tryz.prog O Tryz.f69 stk69_0 105 [1,2,3,6,7,9,10,12] [.slice a1 n1 c1,.int .i64 x2,.pointer (some ⟨b3,f3,none⟩),.pointer (some ⟨b6,f6,none⟩),.slice a7 n7 c7,.pointer (some ⟨b9,f9,none⟩),.slice a10 n10 c10,.int .i64 x12] h Q
def I69_1 (O:CallF)(Q:Value→Hp→Prop)(a0_0:Option Addr)(n0_0 c0_0:Nat)(x0_1:Int)(a0_2:Option Addr)(n0_2 c0_2:Nat)(a1:Option Addr)(n1 c1:Nat)(x2:Int)(b3 f3 b6 f6:Nat)(a7:Option Addr)(n7 c7 b9 f9:Nat)(x13:Int)(h:Hp):Prop:=RKL Tryz.prog O Tryz.f69 stk69_1 105 [1,2,3,6,7,9,13] [.slice a1 n1 c1,.int .i64 x2,.pointer (some ⟨b3,f3,none⟩),.pointer (some ⟨b6,f6,none⟩),.slice a7 n7 c7,.pointer (some ⟨b9,f9,none⟩),.int .i64 x13] h Q
def I69_2 (O:CallF)(Q:Value→Hp→Prop)(a0_0:Option Addr)(n0_0 c0_0:Nat)(x0_1:Int)(a0_2:Option Addr)(n0_2 c0_2:Nat)(a1:Option Addr)(n1 c1:Nat)(x2:Int)(b3 f3 b6 f6:Nat)(a7:Option Addr)(n7 c7 b9 f9:Nat)(x14:Int)(h:Hp):Prop:=RKL Tryz.prog O Tryz.f69 stk69_2 105 [1,2,3,6,7,9,14] [.slice a1 n1 c1,.int .i64 x2,.pointer (some ⟨b3,f3,none⟩),.pointer (some ⟨b6,f6,none⟩),.slice a7 n7 c7,.pointer (some ⟨b9,f9,none⟩),.int .i64 x14] h Q
def T69 (O:CallF)(Q:Value→Hp→Prop)(a0_0:Option Addr)(n0_0 c0_0:Nat)(x0_1:Int)(a0_2:Option Addr)(n0_2 c0_2:Nat)(a1:Option Addr)(n1 c1:Nat)(x2:Int)(h:Hp):Prop:=
 let g1:=h.add (.cells [.slice a0_0 n0_0 c0_0,.int .i64 x0_1,.slice a0_2 n0_2 c0_2] 24 .fix)
 let g2:=g1.add (.cells [.slice none 0 0,.int .i64 0,.slice none 0 0] 24 .fix)
 ∃a3 n4 c5 x6 a7 n8 c9,readAt g2 h.nx 0 3=some [.slice a3 n4 c5,.int .i64 x6,.slice a7 n8 c9]∧
 ∃a10 n11 c12 x13 h14,EvC Tryz.prog O 72 [.agg #[.slice a3 n4 c5,.int .i64 x6,.slice a7 n8 c9],.slice a1 n1 c1,.int .i64 x2] g2 (.tuple #[.slice a10 n11 c12,.int .i64 x13]) h14∧
 ∃a15 n16 c17,readAt h14 h.nx 0 1=some [.slice a15 n16 c17]∧
 vreq (Nat.ble n16 n16)
 (vreq (Nat.ble (n16*8) 281474976710656)
 (vreq (Nat.blt n16 big)
 (let g18:=h14.add (.cells (List.flatten (List.replicate n16 [.int .i64 0])) 3 .fix)
 let g19:=g18.add (.cells [.slice none 0 0,.int .i64 0,.slice none 0 0] 24 .fix)
 vreq (canW g19 g18.nx 0 [.slice (some ⟨h14.nx,0,none⟩) n16 n16,.int .i64 x13,.slice none 0 0])
 (let g20:=g19.wr g18.nx 0 [.slice (some ⟨h14.nx,0,none⟩) n16 n16,.int .i64 x13,.slice none 0 0]
 ∃a21 n22 c23 x24 a25 n26 c27,readAt g20 h.nx 0 3=some [.slice a21 n22 c23,.int .i64 x24,.slice a25 n26 c27]∧
 ∃a28 n29 c30 q31 h32,EvC Tryz.prog O 66 [.agg #[.slice a21 n22 c23,.int .i64 x24,.slice a25 n26 c27]] g20 (.tuple #[.slice a28 n29 c30,.bool q31]) h32∧
 I69_0 O Q a0_0 n0_0 c0_0 x0_1 a0_2 n0_2 c0_2 a1 n1 c1 x2 h.nx 0 g1.nx 0 a10 n11 c12 g18.nx 0 a28 n29 c30 0 h32))))
theorem rk69 {O Q} (a0_0 n0_0 c0_0 x0_1 a0_2 n0_2 c0_2 a1 n1 c1 x2){h:Hp}(hO:O 69 [.agg #[.slice a0_0 n0_0 c0_0,.int .i64 x0_1,.slice a0_2 n0_2 c0_2],.slice a1 n1 c1,.int .i64 x2] h=none)(hh:T69 O Q a0_0 n0_0 c0_0 x0_1 a0_2 n0_2 c0_2 a1 n1 c1 x2 h):Ret Tryz.prog O 69 [.agg #[.slice a0_0 n0_0 c0_0,.int .i64 x0_1,.slice a0_2 n0_2 c0_2],.slice a1 n1 c1,.int .i64 x2] h Q:=
 .of (c:=b69) Tryz.func69 (by kernel_rfl) hO (V_ok (tb:=lv69) (cuts:=[]) 500 (Eq.mp (by kernel_rfl) hh))
def T69_0 (O:CallF)(Q:Value→Hp→Prop)(a0_0:Option Addr)(n0_0 c0_0:Nat)(x0_1:Int)(a0_2:Option Addr)(n0_2 c0_2:Nat)(a1:Option Addr)(n1 c1:Nat)(x2:Int)(b3 f3 b6 f6:Nat)(a7:Option Addr)(n7 c7 b9 f9:Nat)(a10:Option Addr)(n10 c10:Nat)(x12:Int)(h:Hp):Prop:=
 vcond (ltI x12 (Int.ofNat n10))
 (isNat x12 fun n101=>
 isAddr a10 fun b102 f103=>
 vreq (Nat.blt n101 n10)
 (∃x104,readAt h b102 (f103+(n101*1)) 1=some [.int .i64 x104]∧
 vcond (ltI x104 x2)
 (let g105:=h.rsv 15
 ∃a106 n107 c108,readAt g105 b9 (f9+0) 1=some [.slice a106 n107 c108]∧
 isNat x12 fun n109=>
 isAddr a10 fun b110 f111=>
 vreq (Nat.blt n109 n10)
 (∃x112,readAt g105 b110 (f111+(n109*1)) 1=some [.int .i64 x112]∧
 ∃a113 n114 c115 x116 a117 n118 c119,readAt g105 b3 f3 3=some [.slice a113 n114 c115,.int .i64 x116,.slice a117 n118 c119]∧
 isNat x12 fun n120=>
 isAddr a10 fun b121 f122=>
 vreq (Nat.blt n120 n10)
 (∃x123,readAt g105 b121 (f122+(n120*1)) 1=some [.int .i64 x123]∧
 ∃h124,EvC Tryz.prog O 128 [.slice a106 n107 c108,.int .i64 x112,.agg #[.slice a113 n114 c115,.int .i64 x116,.slice a117 n118 c119],.int .i64 x123,.slice a1 n1 c1,.slice a7 n7 c7,.int .i64 x2] (g105.grd []) undef h124∧
 let g125:=h124.rst g105
 I69_0 O Q a0_0 n0_0 c0_0 x0_1 a0_2 n0_2 c0_2 a1 n1 c1 x2 b3 f3 b6 f6 a7 n7 c7 b9 f9 a10 n10 c10 (wrapF .i64 (x12+1)) g125)))
 (I69_1 O Q a0_0 n0_0 c0_0 x0_1 a0_2 n0_2 c0_2 a1 n1 c1 x2 b3 f3 b6 f6 a7 n7 c7 b9 f9 0 h)))
 (I69_1 O Q a0_0 n0_0 c0_0 x0_1 a0_2 n0_2 c0_2 a1 n1 c1 x2 b3 f3 b6 f6 a7 n7 c7 b9 f9 0 h)
theorem I69_0.of {O Q} (a0_0 n0_0 c0_0 x0_1 a0_2 n0_2 c0_2 a1 n1 c1 x2 b3 f3 b6 f6 a7 n7 c7 b9 f9 a10 n10 c10 x12){h:Hp}(hh:T69_0 O Q a0_0 n0_0 c0_0 x0_1 a0_2 n0_2 c0_2 a1 n1 c1 x2 b3 f3 b6 f6 a7 n7 c7 b9 f9 a10 n10 c10 x12 h):I69_0 O Q a0_0 n0_0 c0_0 x0_1 a0_2 n0_2 c0_2 a1 n1 c1 x2 b3 f3 b6 f6 a7 n7 c7 b9 f9 a10 n10 c10 x12 h:=
 RKL.of (tb:=lv69) (cuts:=[]) 500 fun _=>Eq.mp (by kernel_rfl) hh
def T69_1 (O:CallF)(Q:Value→Hp→Prop)(a0_0:Option Addr)(n0_0 c0_0:Nat)(x0_1:Int)(a0_2:Option Addr)(n0_2 c0_2:Nat)(a1:Option Addr)(n1 c1:Nat)(x2:Int)(b3 f3 b6 f6:Nat)(a7:Option Addr)(n7 c7 b9 f9:Nat)(x13:Int)(h:Hp):Prop:=
 vcond (ltI x13 (Int.ofNat n1))
 (let g201:=h.rsv 15
 ∃a202 n203 c204,readAt g201 b9 (f9+0) 1=some [.slice a202 n203 c204]∧
 isNat x13 fun n205=>
 isAddr a7 fun b206 f207=>
 vreq (Nat.blt n205 n7)
 (∃x208,readAt g201 b206 (f207+(n205*1)) 1=some [.int .i64 x208]∧
 ∃a209 n210 c211 x212 a213 n214 c215,readAt g201 b3 f3 3=some [.slice a209 n210 c211,.int .i64 x212,.slice a213 n214 c215]∧
 isNat x13 fun n216=>
 isAddr a1 fun b217 f218=>
 vreq (Nat.blt n216 n1)
 (∃x219,readAt g201 b217 (f218+(n216*1)) 1=some [.int .i64 x219]∧
 ∃h220,EvC Tryz.prog O 128 [.slice a202 n203 c204,.int .i64 x208,.agg #[.slice a209 n210 c211,.int .i64 x212,.slice a213 n214 c215],.int .i64 x219,.slice a1 n1 c1,.slice a7 n7 c7,.int .i64 x2] (g201.grd []) undef h220∧
 let g221:=h220.rst g201
 I69_1 O Q a0_0 n0_0 c0_0 x0_1 a0_2 n0_2 c0_2 a1 n1 c1 x2 b3 f3 b6 f6 a7 n7 c7 b9 f9 (wrapF .i64 (x13+1)) g221)))
 (I69_2 O Q a0_0 n0_0 c0_0 x0_1 a0_2 n0_2 c0_2 a1 n1 c1 x2 b3 f3 b6 f6 a7 n7 c7 b9 f9 0 h)
theorem I69_1.of {O Q} (a0_0 n0_0 c0_0 x0_1 a0_2 n0_2 c0_2 a1 n1 c1 x2 b3 f3 b6 f6 a7 n7 c7 b9 f9 x13){h:Hp}(hh:T69_1 O Q a0_0 n0_0 c0_0 x0_1 a0_2 n0_2 c0_2 a1 n1 c1 x2 b3 f3 b6 f6 a7 n7 c7 b9 f9 x13 h):I69_1 O Q a0_0 n0_0 c0_0 x0_1 a0_2 n0_2 c0_2 a1 n1 c1 x2 b3 f3 b6 f6 a7 n7 c7 b9 f9 x13 h:=
 RKL.of (tb:=lv69) (cuts:=[]) 500 fun _=>Eq.mp (by kernel_rfl) hh
def T69_2 (O:CallF)(Q:Value→Hp→Prop)(a0_0:Option Addr)(n0_0 c0_0:Nat)(x0_1:Int)(a0_2:Option Addr)(n0_2 c0_2:Nat)(a1:Option Addr)(n1 c1:Nat)(x2:Int)(b3 f3 b6 f6:Nat)(a7:Option Addr)(n7 c7 b9 f9:Nat)(x14:Int)(h:Hp):Prop:=
 ∃a301 n302 c303,readAt h b3 (f3+2) 1=some [.slice a301 n302 c303]∧
 vcond (ltI x14 (Int.ofNat n302))
 (let g304:=h.rsv 15
 ∃a305 n306 c307,readAt g304 b9 (f9+2) 1=some [.slice a305 n306 c307]∧
 ∃a308 n309 c310,readAt g304 b3 (f3+2) 1=some [.slice a308 n309 c310]∧
 isNat x14 fun n311=>
 isAddr a308 fun b312 f313=>
 vreq (Nat.blt n311 n309)
 (∃x314,readAt g304 b312 (f313+(n311*1)) 1=some [.int .i64 x314]∧
 ∃x315 h316,EvC Tryz.prog O 129 [.int .i64 x314,.slice a1 n1 c1,.slice a7 n7 c7,.int .i64 x2] (g304.grd [b9]) (.int .i64 x315) h316∧
 let g317:=h316.rst g304
 vreq (g317.free (h.nx+11))
 (let g318:=g317.lay (h.nx+11) (.cells [.int .i64 x315] 3 .fix)
 ∃a319 n320 c321 h322,appendV Tryz.prog (g318.grd []) 22 22 (.slice a305 n306 c307) (.slice (some ⟨(h.nx+11),0,none⟩) 1 1)=some (.slice a319 n320 c321,h322)∧
 let g323:=h322.rst g318
 vreq (canW (g323.grd []) b9 (f9+2) [.slice a319 n320 c321])
 (let g324:=(g323.grd []).wr b9 (f9+2) [.slice a319 n320 c321]
 let g325:=g324.rst g323
 I69_2 O Q a0_0 n0_0 c0_0 x0_1 a0_2 n0_2 c0_2 a1 n1 c1 x2 b3 f3 b6 f6 a7 n7 c7 b9 f9 (wrapF .i64 (x14+1)) g325))))
 (∃a326 n327 c328 x329 a330 n331 c332,readAt h b9 f9 3=some [.slice a326 n327 c328,.int .i64 x329,.slice a330 n331 c332]∧
 vreq (canW h b6 f6 [.slice a326 n327 c328,.int .i64 x329,.slice a330 n331 c332])
 (let g333:=h.wr b6 f6 [.slice a326 n327 c328,.int .i64 x329,.slice a330 n331 c332]
 ∃a334 n335 c336 x337 a338 n339 c340,readAt g333 b6 f6 3=some [.slice a334 n335 c336,.int .i64 x337,.slice a338 n339 c340]∧
 Q (.agg #[.slice a334 n335 c336,.int .i64 x337,.slice a338 n339 c340]) g333))
theorem I69_2.of {O Q} (a0_0 n0_0 c0_0 x0_1 a0_2 n0_2 c0_2 a1 n1 c1 x2 b3 f3 b6 f6 a7 n7 c7 b9 f9 x14){h:Hp}(hh:T69_2 O Q a0_0 n0_0 c0_0 x0_1 a0_2 n0_2 c0_2 a1 n1 c1 x2 b3 f3 b6 f6 a7 n7 c7 b9 f9 x14 h):I69_2 O Q a0_0 n0_0 c0_0 x0_1 a0_2 n0_2 c0_2 a1 n1 c1 x2 b3 f3 b6 f6 a7 n7 c7 b9 f9 x14 h:=
 RKL.of (tb:=lv69) (cuts:=[]) 500 fun _=>Eq.mp (by kernel_rfl) hh
noncomputable def b64:Code:=(Tryz.f64.body).getD .skip
def lv64:List (Nat×List Nat):=[]
def T64 (O:CallF)(Q:Value→Hp→Prop)(a0_0:Option Addr)(n0_0 c0_0:Nat)(x0_1:Int)(a0_2:Option Addr)(n0_2 c0_2:Nat)(h:Hp):Prop:=
 let g1:=h.add (.cells [.slice a0_0 n0_0 c0_0,.int .i64 x0_1,.slice a0_2 n0_2 c0_2] 24 .fix)
 let g2:=g1.add (.cells [.slice none 0 0,.int .i64 0,.slice none 0 0] 24 .fix)
 let g3:=g2.rsv 7
 ∃a4 n5 c6 x7 a8 n9 c10,readAt g3 h.nx 0 3=some [.slice a4 n5 c6,.int .i64 x7,.slice a8 n9 c10]∧
 ∃a11 n12 c13 x14 a15 n16 c17,readAt g3 h.nx 0 3=some [.slice a11 n12 c13,.int .i64 x14,.slice a15 n16 c17]∧
 ∃a18 n19 c20,readAt g3 h.nx 2 1=some [.slice a18 n19 c20]∧
 ∃a21 n22 c23 h24,EvC Tryz.prog O 70 [.agg #[.slice a11 n12 c13,.int .i64 x14,.slice a15 n16 c17],.slice a18 n19 c20,.int .i64 1] (g3.grd [h.nx]) (.slice a21 n22 c23) h24∧
 let g25:=h24.rst g3
 ∃a26 n27 c28 x29 a30 n31 c32 h33,EvC Tryz.prog O 69 [.agg #[.slice a4 n5 c6,.int .i64 x7,.slice a8 n9 c10],.slice a21 n22 c23,.int .i64 1] (g25.grd []) (.agg #[.slice a26 n27 c28,.int .i64 x29,.slice a30 n31 c32]) h33∧
 let g34:=h33.rst g25
 vreq (canW (g34.grd []) g1.nx 0 [.slice a26 n27 c28,.int .i64 x29,.slice a30 n31 c32])
 (let g35:=(g34.grd []).wr g1.nx 0 [.slice a26 n27 c28,.int .i64 x29,.slice a30 n31 c32]
 let g36:=g35.rst g34
 ∃a37 n38 c39 x40 a41 n42 c43,readAt g36 g1.nx 0 3=some [.slice a37 n38 c39,.int .i64 x40,.slice a41 n42 c43]∧
 Q (.agg #[.slice a37 n38 c39,.int .i64 x40,.slice a41 n42 c43]) g36)
theorem rk64 {O Q} (a0_0 n0_0 c0_0 x0_1 a0_2 n0_2 c0_2){h:Hp}(hO:O 64 [.agg #[.slice a0_0 n0_0 c0_0,.int .i64 x0_1,.slice a0_2 n0_2 c0_2]] h=none)(hh:T64 O Q a0_0 n0_0 c0_0 x0_1 a0_2 n0_2 c0_2 h):Ret Tryz.prog O 64 [.agg #[.slice a0_0 n0_0 c0_0,.int .i64 x0_1,.slice a0_2 n0_2 c0_2]] h Q:=
 .of (c:=b64) Tryz.func64 (by kernel_rfl) hO (V_ok (tb:=lv64) (cuts:=[]) 500 (Eq.mp (by kernel_rfl) hh))
def goodR (s k:Int):Bool:=decide (s≤20)&&decide (1≤k)&&decide (k≤5)
def cellsR (W:List Int)(top:Nat):Nat→Nat→Option (List Nat)
 |0,_=>none
 |f+1,p=>if p<top then (if W.getD p 0<0∨goodR (hdS (W.getD p 0)) (hdK (W.getD p 0))=false then none else (cellsR W top f (p+1+(hdS (W.getD p 0)).toNat)).map (p:: ·))else if p=top then some []else none
def wordR (l:List Nat)(w:Int):Bool:=
 if w=0 then true else if Int.tmod w 2≠0 then decide (-1999999999≤w)&&decide (w≤2000000001)else (l.map Int.ofNat).contains (Int.tdiv w 2)
def fieldR (l:List Nat)(k n:Int):Bool:=if k=3 then letterB n else if k=4 then n==0||n==1 else wordR l n
def fieldsR (l:List Nat)(k:Int)(xs:List Int):Bool:=
 if k<1∨5<k∨20<xs.length∨(k=4∧xs.length≠1)then false else xs.all (fieldR l k)
def cellsOk (W:List Int)(l:List Nat):List Nat→Bool:=fun r=>r.all fun p=>fieldsR l (hdK (W.getD p 0)) (fieldsW W p)
def formedR (W:List Int)(top:Int)(R:List Int):Option (List Nat):=
 if W.length<1∨200<W.length∨top<1∨(W.length:Int)<top∨W.getD 0 0≠0∨10<R.length then none
 else if (W.drop top.toNat).any (· !=0)then none
 else match cellsR W top.toNat (top.toNat+1) 1 with
  |none=>none
  |some l=>if cellsOk W l l&&R.all (wordR l)then some l else none
section
variable {O:CallF}(hO:Oth O)
include hO
theorem evt {f:FuncId}{az:List Value}{h:Hp}{v:Value}(r:Ret Tryz.prog O f az h fun a b=>a=v∧b=h):EvT O f az h v h:=by
 have _:=hO
 obtain⟨a,b,e,rfl,rfl⟩:=r;exact e
theorem ct90 (x:Int)(h:Hp):EvT O 90 [.int .i64 x] h (.int .i64 (hdK x)) h:=by
 refine evt hO (rk90 _ (hO _ _ _ (by decide)) ?_)
 unfold T90;exact⟨rfl,rfl⟩
theorem ct127 {x:Int}(hx:In64 x)(h:Hp):EvT O 127 [.int .i64 x] h (.int .i64 (hdS x)) h:=by
 refine evt hO (rk127 _ (hO _ _ _ (by decide)) ?_)
 unfold T127;rw[hx.div];exact⟨rfl,rfl⟩
theorem ct133 (w:Int)(h:Hp):EvT O 133 [.int .i64 w] h (.bool (letterB w)) h:=by
 refine evt hO (rk133 _ (hO _ _ _ (by decide)) ?_)
 unfold T133 letterB
 refine vcond_split (fun h2=> ?_) fun h2=> ?_
 · have h2:=not_lt_of_f (by simpa using h2)
   rw[decide_eq_true (show(32:Int)≤w by omega),Bool.true_and]
   refine vcond_split (fun h3=> ?_) fun h3=> ?_
   · have h3:=not_lt_of_f (by simpa using h3)
     rw[decide_eq_true (show w≤(126:Int) by omega),Bool.true_and]
     refine vcond_split (fun h4=> ?_) fun h4=> ?_
     · have h4:=ne_of_f (by simpa using h4)
       refine⟨?_,rfl⟩
       congr 1
       rw[Bool.eq_iff_iff];simp[h4,eqI_eq]
     · have h4:=eq_of_t (by simpa using h4)
       rw[h4];exact⟨rfl,rfl⟩
   · have h3:=lt_of_t (by simpa using h3)
     rw[decide_eq_false (show¬w≤(126:Int) by omega)]
     exact⟨rfl,rfl⟩
 · have h2:=lt_of_t (by simpa using h2)
   rw[decide_eq_false (show¬(32:Int)≤w by omega)]
   exact⟨rfl,rfl⟩
theorem lp67 {h:Hp}{a:Option Addr}{n c:Nat}{xs:List Int}(X:IntsAt h a n xs)(hl:xs.length<1000000){x:Int}{Q:Value→Hp→Prop}(hQ:Q (.bool (xs.contains x)) h)(q4:Bool):
 ∀(d k:Nat),k+d=xs.length→(xs.take k).contains x=false→I67_0 O Q a n c x q4 (Int.ofNat k) h:=by
 have _:=hO
 have hn:=X.1
 intro d
 induction d with
 |zero=>
  intro k hk ht
  refine I67_0.of _ _ _ _ _ _ ?_
  unfold T67_0
  refine vcond_f (by rw[ltI_nat];exact blt_f (by omega)) ?_
  rw[List.take_of_length_le (by omega)]at ht
  rw[ht]at hQ;exact hQ
 |succ d ih=>
  intro k hk ht
  refine I67_0.of _ _ _ _ _ _ ?_
  unfold T67_0
  have hk':k<xs.length:=by omega
  refine vcond_t (by rw[ltI_nat];exact blt_t (by omega)) (isNat_i (X.rd hk' (vcond_split (fun h1=> ?_) fun h1=> ?_)))
  · have:xs.contains x=true:=by rw[List.contains_iff_mem,←eq_of_t h1];exact List.getElem_mem hk'
    rw[this]at hQ;exact hQ
  · rw[wrap_succ (by omega)]
    refine ih (k+1) (by omega) ?_
    rw[Bool.eq_false_iff,ne_eq,List.contains_iff_mem]at ht ⊢
    rw[List.take_add_one,List.mem_append,List.getElem?_eq_getElem hk']
    rintro(h|h)
    · exact ht h
    · exact ne_of_f h1 (by simp at h;exact h.symm)
theorem ct67 {h:Hp}{a:Option Addr}{n c:Nat}{xs:List Int}(X:IntsAt h a n xs)(hl:xs.length<1000000)(x:Int):EvT O 67 [.slice a n c,.int .i64 x] h (.bool (xs.contains x)) h:=by
 refine evt hO (rk67 _ _ _ _ (hO _ _ _ (by decide)) ?_)
 unfold T67
 exact lp67 hO X hl ⟨rfl,rfl⟩ false xs.length 0 (by omega) rfl
theorem ct102 {h:Hp}{a:Option Addr}{n c:Nat}{l:List Nat}(X:IntsAt h a n (l.map Int.ofNat))(hl:l.length<1000000){w:Int}(hw:In64 w):EvT O 102 [.slice a n c,.int .i64 w] h (.bool (wordR l w)) h:=by
 refine evt hO (rk102 _ _ _ _ (hO _ _ _ (by decide)) ?_)
 unfold T102 wordR
 rw[hw.half]
 refine vcond_split (fun h1=> ?_) fun h1=> ?_
 · rw[if_pos (eq_of_t h1)];exact⟨rfl,rfl⟩
 rw[if_neg (ne_of_f h1)]
 refine vcond_split (fun h1=> ?_) fun h1=> ?_
 · rw[if_pos (ne_of_f (by simpa using h1))]
   refine vcond_split (fun h2=> ?_) fun h2=> ?_
   · have h2:=not_lt_of_f (by simpa using h2)
     rw[decide_eq_true (by omega),Bool.true_and]
     refine⟨?_,rfl⟩
     congr 1
     rw[ltI_eq,Bool.eq_iff_iff];simp
   · have h2:=lt_of_t (by simpa using h2)
     rw[decide_eq_false (by omega),Bool.false_and]
     exact⟨rfl,rfl⟩
 · have h1:=eq_of_t (by simpa using h1)
   rw[if_neg (by simpa using h1)]
   exact⟨_,_,ct67 hO X (by simpa using hl) _,rfl,rfl⟩
theorem ct89 {h:Hp}{a:Option Addr}{n c:Nat}{l:List Nat}(X:IntsAt h a n (l.map Int.ofNat))(hl:l.length<1000000){k w:Int}(hw:In64 w):EvT O 89 [.slice a n c,.int .i64 k,.int .i64 w] h (.bool (fieldR l k w)) h:=by
 refine evt hO (rk89 _ _ _ _ _ (hO _ _ _ (by decide)) ?_)
 unfold T89 fieldR
 refine vcond_split (fun h1=> ?_) fun h1=> ?_
 · rw[if_pos (eq_of_t h1)];exact⟨_,_,ct133 hO w h,rfl,rfl⟩
 rw[if_neg (ne_of_f h1)]
 refine vcond_split (fun h2=> ?_) fun h2=> ?_
 · rw[if_pos (eq_of_t h2)]
   refine vcond_split (fun h3=> ?_) fun h3=> ?_
   · rw[eq_of_t h3];exact⟨rfl,rfl⟩
   · have h3:=ne_of_f h3
     refine⟨?_,rfl⟩
     congr 1
     rw[Bool.eq_iff_iff];simp[h3,eqI_eq]
 · rw[if_neg (ne_of_f h2)];exact⟨_,_,ct102 hO X hl hw,rfl,rfl⟩
theorem lp82 {h:Hp}{a:Option Addr}{n c:Nat}{l:List Nat}(X:IntsAt h a n (l.map Int.ofNat))(hl:l.length<1000000){k:Int}{a2:Option Addr}{n2 c2:Nat}{xs:List Int}(Y:IntsAt h a2 n2 xs)(hY: ∀x∈xs,In64 x)(lY:xs.length<1000000){Q:Value→Hp→Prop}(q6:Bool):
 ∀(d i:Nat),i+d=xs.length→Q (.bool ((xs.drop i).all (fieldR l k))) h→I82_0 O Q a n c k a2 n2 c2 q6 (Int.ofNat i) h:=by
 have hn:=Y.1
 intro d
 induction d with
 |zero=>
  intro i hi hQ
  refine I82_0.of _ _ _ _ _ _ _ _ _ ?_
  unfold T82_0
  rw[List.drop_of_length_le (by omega)]at hQ
  exact vcond_f (by rw[ltI_nat];exact blt_f (by omega)) hQ
 |succ d ih=>
  intro i hi hQ
  refine I82_0.of _ _ _ _ _ _ _ _ _ ?_
  unfold T82_0
  have hi':i<xs.length:=by omega
  rw[List.drop_eq_getElem_cons hi',List.all_cons]at hQ
  refine vcond_t (by rw[ltI_nat];exact blt_t (by omega)) (isNat_i (Y.rd hi' ⟨_,_,ct89 hO X hl (hY _ (List.getElem_mem hi')),vcond_split (fun h1=> ?_) fun h1=> ?_⟩))
  · have h1:fieldR l k xs[i]=false:=by simpa using h1
    rw[h1,Bool.false_and]at hQ;exact hQ
  · have h1:fieldR l k xs[i]=true:=by simpa using h1
    rw[h1,Bool.true_and]at hQ
    rw[wrap_succ (by omega)]
    exact ih (i+1) (by omega) hQ
theorem ct82 {h:Hp}{a:Option Addr}{n c:Nat}{l:List Nat}(X:IntsAt h a n (l.map Int.ofNat))(hl:l.length<1000000)(k:Int){a2:Option Addr}{n2 c2:Nat}{xs:List Int}(Y:IntsAt h a2 n2 xs)(hY: ∀x∈xs,In64 x)(lY:xs.length<1000000):EvT O 82 [.slice a n c,.int .i64 k,.slice a2 n2 c2] h (.bool (fieldsR l k xs)) h:=by
 refine evt hO (rk82 _ _ _ _ _ _ _ (hO _ _ _ (by decide)) ?_)
 unfold T82 fieldsR
 have hn:=Y.1
 subst hn
 refine vcond_split (fun h1=> ?_) fun h1=> ?_
 · rw[if_pos (.inl (lt_of_t h1))];exact⟨rfl,rfl⟩
 refine vcond_split (fun h2=> ?_) fun h2=> ?_
 · rw[if_pos (.inr (.inl (lt_of_t h2)))];exact⟨rfl,rfl⟩
 refine vcond_split (fun h3=> ?_) fun h3=> ?_
 · rw[if_pos (.inr (.inr (.inl (Int.ofNat_lt.1 (lt_of_t h3)))))];exact⟨rfl,rfl⟩
 have h1:=not_lt_of_f h1
 have h2:=not_lt_of_f h2
 have h3: ¬20<xs.length:=fun hh=>not_lt_of_f h3 (Int.ofNat_lt.2 hh)
 have run: ¬(k<1∨5<k∨20<xs.length∨(k=4∧xs.length≠1))→I82_0 O (fun a b=>a= .bool (if k<1∨5<k∨20<xs.length∨(k=4∧xs.length≠1)then false else xs.all (fieldR l k))∧b=h) a n c k a2 xs.length c2 false 0 h:=fun hn=>by
  rw[if_neg hn]
  exact lp82 hO X hl Y hY lY false xs.length 0 (by omega) ⟨rfl,rfl⟩
 refine vcond_split (fun h4=>vcond_split (fun h5=> ?_) fun h5=>run ?_) fun h4=>run ?_
 · rw[if_pos (.inr (.inr (.inr ⟨eq_of_t h4,fun hh=>ne_of_f (by simpa using h5) (by rw[hh];rfl)⟩)))];exact⟨rfl,rfl⟩
 · rintro(h|h|h|⟨_,h⟩)
   · exact h1 h
   · exact h2 h
   · exact h3 h
   · exact h (Int.ofNat_inj.1 (eq_of_t (by simpa using h5)))
 · rintro(h|h|h|⟨h,_⟩)
   · exact h1 h
   · exact h2 h
   · exact h3 h
   · exact ne_of_f h4 h
theorem ct122 {g0 g:Hp} [f0:Ft g0 g] {aw:Option Addr}{nw cw:Nat}{W:List Int}{top:Int}(HW:SI g0 aw nw cw W)(hW: ∀x∈W,In64 x)(lW:W.length<1000000){ar:Option Addr}{nr cr:Nat}{p:Nat}(hp:p<W.length)(h0:0≤W.getD p 0)(_h20:hdS (W.getD p 0)≤20)(hle:p+1+(hdS (W.getD p 0)).toNat≤W.length){K:Option Addr→Nat→Nat→Hp→Prop}(next: ∀a n c h',SI g0 a n c (fieldsW W p)→Kp g.nx g h'→K a n c h'):
 ∃a n c h',EvT O 122 [.agg #[.slice aw nw cw,.int .i64 top,.slice ar nr cr],.int .i64 (Int.ofNat p)] g (.slice a n c) h'∧K a n c h':=by
 refine Ret.s (R:=fun a n c h'=>SI g0 a n c (fieldsW W p)∧Kp g.nx g h') ?_ (fun a n c h' q=>next a n c h' q.1 q.2)
 refine rk122 _ _ _ _ _ _ _ _ (hO _ _ _ (by decide)) ?_
 unfold T122
 intro g1 g2
 have s2:g2.get g.nx=some (.cells [.slice aw nw cw,.int .i64 top,.slice ar nr cr] 24 .fix):=get_add_same ..
 have k2:Kp g.nx g g2:=((Kp.refl _ g).add (Nat.le_refl _) _).rsv 15
 haveI:Ft g0 g2:=f0.tr (k2.ex (Nat.le_refl _))
 have gW:W.getD p 0=W[p]:=by simp[List.getD,List.getElem?_eq_getElem hp]
 have s0:0≤hdS (W.getD p 0):=by unfold hdS;rw[tdiv_eq,if_pos h0];omega
 obtain⟨sz,hsz⟩: ∃m:Nat,hdS (W.getD p 0)=Int.ofNat m:=Int.eq_ofNat_of_zero_le s0
 have tsz:(hdS (W.getD p 0)).toNat=sz:=by rw[hsz];rfl
 rw[tsz]at hle
 refine⟨_,_,_,read1 (i:=0) s2 rfl,_,_,_,read1 (i:=0) s2 rfl,isNat_i (HW.at_.rd hp ⟨_,_,ct127 hO (hW _ (List.getElem_mem hp)) _,?_⟩)⟩
 intro g15
 rw[←gW,hsz]
 have e15:g15=g2:=rfl
 have e0:wrapF .i64 (Int.ofNat p+1)=Int.ofNat (p+1):=wrap_succ (by omega)
 have e1:wrapF .i64 (Int.ofNat (p+1)+Int.ofNat sz)=Int.ofNat (p+1+sz):=by
  rw[wrap64 (by simp;omega) (by simp;omega)];simp
 rw[e0,e1]
 obtain⟨a',c',es,sp⟩:=HW.part (l:=p+1) (r:=p+1+sz) (by omega) hle (lo:=some (.int .i64 (Int.ofNat (p+1)))) (hi:=some (.int .i64 (Int.ofNat (p+1+sz)))) (fun vis hv=>bounds_lh (by omega) (by have:=HW.at_.1;omega))
 refine⟨_,_,_,(HW.slice_to g2 _ _).trans es,_,_,_,rfl,?_,k2⟩
 have hf:(W.drop (p+1)).take (p+1+sz-(p+1))=fieldsW W p:=by
  unfold fieldsW
  rw[tsz]
  congr 1
  omega
 rw[hf]at sp
 exact sp
end
theorem cellsR_bnd {w:Int}(h0: ¬w<0)(hg:goodR (hdS w) (hdK w)=true):0≤hdS w∧hdS w≤20:=by
 unfold goodR at hg
 simp only[Bool.and_eq_true,decide_eq_true_eq]at hg
 refine⟨?_,hg.1.1⟩
 unfold hdS
 rw[tdiv_eq,if_pos (by omega)];omega
section
variable {O:CallF}(hO:Oth O)
include hO
theorem lp66 {g:Hp}(okg:g.Ok){aw:Option Addr}{nw cw:Nat}{W:List Int}{top:Nat}(HW:IntsAt g aw nw W)(hR: ∀x∈W,In64 x)(htop:top≤W.length)(hl:W.length<1000000){rw1:Value}
 {Q:Value→Hp→Prop} (a0:Option Addr) (n0 c0:Nat) (x0:Int) (a2:Option Addr) (n2 c2:Nat) (ax:Option Addr) (nx cx:Nat) (q3:Bool):
 ∀(f p:Nat) (acc:List Nat) (h:Hp) (a:Option Addr) (n c:Nat),1≤f→top<p+f→p≤top+21→acc.length≤p→Kp g.nx g h→h.Ok→g.nx+1≤h.nx→h.get g.nx=some (.cells [.slice aw nw cw,.int .i64 (Int.ofNat top),rw1] 24 .fix)→AccI 3 h (g.nx+1) a n c (acc.map Int.ofNat)→
 (cellsR W top f p=none→ ∀a n c h',Kp g.nx g h'→Q (.tuple #[.slice a n c,.bool false]) h')→
 (∀l a n c h',cellsR W top f p=some l→Kp g.nx g h'→AccI 3 h' (g.nx+1) a n c ((acc++l).map Int.ofNat)→Q (.tuple #[.slice a n c,.bool true]) h')→
 I66_0 O Q a0 n0 c0 x0 a2 n2 c2 g.nx 0 ax nx cx q3 a n c (Int.ofNat p) h:=by
 intro f
 induction f with
 |zero=>intro p acc h a n c h1;omega
 |succ f ih=>
  intro p acc h a n c _ hf hp2 hacc kp ok hnx gb A Qf Qt
  refine I66_0.of _ _ _ _ _ _ _ _ _ _ _ _ _ _ _ _ _ ?_
  unfold T66_0
  refine⟨_,read1 (i:=1) gb rfl,vcond_split (fun h1=> ?_) fun h1=> ?_⟩
  · have hpt:p<top:=by rw[ltI_nat]at h1;exact lt_of_blt h1
    have hpW:p<W.length:=by omega
    have gW:W.getD p 0=W[p]:=by simp[List.getD,List.getElem?_eq_getElem hpW]
    haveI f1:Ft g h:=kp.ex (Nat.le_refl _)
    refine⟨_,_,_,read1 (i:=0) gb rfl,isNat_i (HW.rd hpW (vcond_split (fun h3=> ?_) fun h3=> ?_))⟩
    · exact Qf (by unfold cellsR;rw[if_pos hpt,gW,if_pos (.inl (lt_of_t h3))]) _ _ _ _ kp
    have h3:=not_lt_of_f h3
    refine⟨_,_,ct90 hO _ _,vcond_split (fun h4=> ?_) fun h4=> ?_⟩
    · refine Qf (by unfold cellsR;rw[if_pos hpt,gW,if_pos (.inr ?_)]) _ _ _ _ kp
      unfold goodR
      rw[decide_eq_false (show¬1≤hdK W[p] by have:=lt_of_t h4;omega),Bool.and_false,Bool.false_and]
    refine⟨_,_,ct90 hO _ _,vcond_split (fun h5=> ?_) fun h5=> ?_⟩
    · refine Qf (by unfold cellsR;rw[if_pos hpt,gW,if_pos (.inr ?_)]) _ _ _ _ kp
      unfold goodR
      rw[decide_eq_false (show¬hdK W[p]≤5 by have:=lt_of_t h5;omega),Bool.and_false]
    refine⟨_,_,ct127 hO (hR _ (List.getElem_mem hpW)) _,vcond_split (fun h6=> ?_) fun h6=> ?_⟩
    · refine Qf (by unfold cellsR;rw[if_pos hpt,gW,if_pos (.inr ?_)]) _ _ _ _ kp
      unfold goodR
      rw[decide_eq_false (show¬hdS W[p]≤20 by have:=lt_of_t h6;omega),Bool.false_and,Bool.false_and]
    have hg:goodR (hdS W[p]) (hdK W[p])=true:=by
     unfold goodR
     have:=not_lt_of_f h4
     have:=not_lt_of_f h5
     have:=not_lt_of_f h6
     rw[decide_eq_true (show hdS W[p]≤20 by omega),decide_eq_true (show 1≤hdK W[p] by omega),decide_eq_true (show hdK W[p]≤5 by omega)];rfl
    obtain⟨s1,s2⟩:=cellsR_bnd h3 hg
    obtain⟨m,hm⟩: ∃m:Nat,hdS W[p]=Int.ofNat m:=Int.eq_ofNat_of_zero_le s1
    have hm2:m≤20:=by rw[hm]at s2;exact Int.ofNat_le.1 s2
    intro g115
    have gdh:GdLt h (g.nx+1):=fun q hq=>by have:=okg.lt.kp kp q hq;omega
    refine appI2 AppT22 A hnx gdh (by simp;omega) fun a' n' c' h' A' k' kB new=>⟨_,_,ct127 hO (hR _ (List.getElem_mem hpW)) _,?_⟩
    have e0:wrapF .i64 (Int.ofNat p+1)=Int.ofNat (p+1):=wrap_succ (by omega)
    have e1:wrapF .i64 (Int.ofNat (p+1)+hdS W[p])=Int.ofNat (p+1+m):=by
     rw[hm,wrap64 (by simp;omega) (by simp;omega)];simp
    rw[e0,e1]
    have cc: ∀r,cellsR W top f (p+1+m)=r→cellsR W top (f+1) p=r.map (p:: ·):=fun r hr=>by
     conv=>lhs;unfold cellsR
     rw[if_pos hpt,gW,if_neg (by rw[hg];simp;omega),hm]
     show(cellsR W top f (p+1+m)).map _=_
     rw[hr]
    refine ih (p+1+m) (acc++[p]) h' a' n' c' (by omega) (by omega) (by omega) (by simp;omega) (kp.trans (kB.le (by omega))) (ok.kp kB) (Nat.le_trans hnx k'.nx) ((kB.get _ (Nat.lt_succ_self _)).trans gb) (by rw[List.map_append];exact A') (fun hc=>Qf (cc _ hc)) fun l a n c h2 hc k2 A2=>Qt (p::l) a n c h2 (cc _ hc) k2 (by simpa using A2)
  · have hpt: ¬p<top:=by rw[ltI_nat]at h1;exact not_lt_of_blt h1
    intro g7
    refine⟨_,read1 (i:=1) (show g7.get g.nx=_ from gb) rfl,?_⟩
    have kp7:Kp g.nx g g7:=kp.rsv 7
    cases he:eqI (Int.ofNat p) (Int.ofNat top)with
    |false=>
     refine Qf ?_ _ _ _ _ kp7
     unfold cellsR
     rw[if_neg hpt,if_neg (fun hh=>by rw[hh]at he;simp[eqI_eq]at he)]
    |true=>
     have:p=top:=by have:=eq_of_t he;exact Int.ofNat_inj.1 this
     refine Qt [] _ _ _ g7 ?_ kp7 (by rw[List.append_nil];exact A.keep (fun _ _ _=>rfl) (Nat.le_add_right ..))
     unfold cellsR
     rw[if_neg hpt,if_pos this]
theorem ct66 {g:Hp}(ok:g.Ok){aw:Option Addr}{nw cw:Nat}{W:List Int}{top:Nat}(HW:IntsAt g aw nw W)(hR: ∀x∈W,In64 x)(h1:1≤top)(htop:top≤W.length)(hl:W.length<1000000){ar:Option Addr}{nr cr:Nat}
 {K:Option Addr→Nat→Nat→Bool→Hp→Prop} (Qf: ∀a n c h',Kp g.nx g h'→cellsR W top (top+1) 1=none→K a n c false h')
 (Qt: ∀l a n c h',cellsR W top (top+1) 1=some l→Kp g.nx g h'→AccI 3 h' (g.nx+1) a n c (l.map Int.ofNat)→K a n c true h'):
 ∃a n c q h',EvT O 66 [.agg #[.slice aw nw cw,.int .i64 (Int.ofNat top),.slice ar nr cr]] g (.tuple #[.slice a n c,.bool q]) h'∧K a n c q h':=by
 have r:Ret Tryz.prog O 66 [.agg #[.slice aw nw cw,.int .i64 (Int.ofNat top),.slice ar nr cr]] g fun v h'=> ∃a n c q,v= .tuple #[.slice a n c,.bool q]∧K a n c q h':=by
  refine rk66 _ _ _ _ _ _ _ (hO _ _ _ (by decide)) ?_
  unfold T66
  intro g1
  have k1:Kp g.nx g g1:=(Kp.refl _ g).add (Nat.le_refl _) _
  exact lp66 hO ok HW hR htop hl (rw1:= .slice ar nr cr) aw nw cw (Int.ofNat top) ar nr cr none 0 0 false (top+1) 1 [] g1 none 0 0 (by omega) (by omega) (by omega) (by simp) k1 (ok.add _) (Nat.le_refl _) (get_add_same ..) (AccI.nil ..) (fun hc a n c h' k=>⟨a,n,c,false,rfl,Qf a n c h' k hc⟩) (fun l a n c h' hc k A=>⟨a,n,c,true,rfl,Qt l a n c h' hc k A⟩)
 obtain⟨v,h',e,a,n,c,q,rfl,hk⟩:=r
 exact⟨a,n,c,q,h',e,hk⟩
def QF (g:Hp)(W:List Int)(top:Int)(R:List Int):Value→Hp→Prop:=fun v h'=>v= .bool (formedR W top R).isSome∧Kp g.nx g h'
theorem lp63_2 {g:Hp}{R:List Int}{ar:Option Addr}{nr cr:Nat}(HR:IntsAt g ar nr R)(hR: ∀x∈R,In64 x)(lR:R.length<1000000){rw1:Value}{x1:Value}{b1:Nat}{a5:Option Addr}{n5 c5:Nat}{l:List Nat}(ll:l.length<1000000){Q:Value→Hp→Prop}(a0:Option Addr)(n0 c0:Nat)(x0:Int)(a2:Option Addr)(n2 c2:Nat)(q2:Bool){h:Hp}(kp:Kp g.nx g h)(gb:h.get b1=some (.cells [rw1,x1,.slice ar nr cr] 24 .fix)):
 ∀(d i:Nat) (q:Bool),(q=true→IntsAt h a5 n5 (l.map Int.ofNat))→i+d=R.length→Q (.bool (q&&(R.drop i).all (wordR l))) h→I63_2 O Q a0 n0 c0 x0 a2 n2 c2 b1 0 q2 a5 n5 c5 q (Int.ofNat i) h:=by
 have hn:=HR.1
 haveI:Ft g h:=kp.ex (Nat.le_refl _)
 intro d
 induction d with
 |zero=>
  intro i q hq hi hQ
  refine I63_2.of _ _ _ _ _ _ _ _ _ _ _ _ _ _ _ ?_
  unfold T63_2
  rw[List.drop_of_length_le (by omega)]at hQ
  refine⟨_,_,_,read1 (i:=2) gb rfl,vcond_f (by rw[ltI_nat];exact blt_f (by omega)) ?_⟩
  simpa using hQ
 |succ d ih=>
  intro i q hq hi hQ
  refine I63_2.of _ _ _ _ _ _ _ _ _ _ _ _ _ _ _ ?_
  unfold T63_2
  have hi':i<R.length:=by omega
  rw[List.drop_eq_getElem_cons hi',List.all_cons]at hQ
  refine⟨_,_,_,read1 (i:=2) gb rfl,vcond_t (by rw[ltI_nat];exact blt_t (by omega)) (vcond_split (fun h1=> ?_) fun h1=> ?_)⟩
  · subst h1
    refine⟨_,_,_,read1 (i:=2) gb rfl,isNat_i (HR.rd hi' ⟨_,_,ct102 hO (hq rfl) ll (hR _ (List.getElem_mem hi')),?_⟩)⟩
    rw[wrap_succ (by omega)]
    refine ih (i+1) _ (fun _=>hq rfl) (by omega) ?_
    simpa using hQ
  · subst h1
    simpa using hQ
omit hO in
theorem cellsR_mem {W:List Int}{top:Nat}: ∀ {f p:Nat}{l:List Nat},cellsR W top f p=some l→p≤top∧ ∀x∈l,p≤x∧x<top∧0≤W.getD x 0∧hdS (W.getD x 0)≤20∧x+1+(hdS (W.getD x 0)).toNat≤top:=by
 intro f
 induction f with
 |zero=>intro p l h;cases h
 |succ f ih=>
  intro p l h
  unfold cellsR at h
  split at h
  · rename_i hpt
    split at h
    · cases h
    · rename_i hn
      obtain⟨l',h3,rfl⟩:=Option.map_eq_some_iff.1 h
      obtain⟨i1,i2⟩:=ih h3
      refine⟨by omega,fun x hx=> ?_⟩
      rcases List.mem_cons.1 hx with rfl|hx
      · have hg:goodR (hdS (W.getD x 0)) (hdK (W.getD x 0))=true:=by
         cases hg:goodR (hdS (W.getD x 0)) (hdK (W.getD x 0))with
         |true=>rfl
         |false=>exact absurd (.inr hg) hn
        have h0: ¬W.getD x 0<0:=fun hh=>hn (.inl hh)
        exact⟨Nat.le_refl _,hpt,by omega,(cellsR_bnd h0 hg).2,i1⟩
      · have:=i2 x hx
        exact⟨by omega,this.2⟩
  · split at h
    · obtain rfl:=Option.some.inj h
      exact⟨by omega,fun x hx=>by cases hx⟩
    · cases h
theorem lp63_1 {g:Hp}{aw:Option Addr}{nw cw:Nat}{W:List Int}{top:Nat}(HW:SI g aw nw cw W)(hW: ∀x∈W,In64 x)(lW:W.length<100000){R:List Int}{ar:Option Addr}{nr cr:Nat}(HR:IntsAt g ar nr R)(hR: ∀x∈R,In64 x)(lR:R.length<1000000){b1 B:Nat}(_hB:g.nx≤B)(hb1:b1<B){a5:Option Addr}{c5:Nat}{l:List Nat}(hc: ∀x∈l,x<W.length∧0≤W.getD x 0∧hdS (W.getD x 0)≤20∧x+1+(hdS (W.getD x 0)).toNat≤W.length)(ll:l.length<100000){Q:Value→Hp→Prop}(a0:Option Addr)(n0 c0:Nat)(x0:Int)(a2:Option Addr)(n2 c2:Nat)(q2:Bool):
 ∀(d i:Nat) (q:Bool) (h:Hp),i+d=l.length→h.Ok→Kp g.nx g h→B≤h.nx→h.get b1=some (.cells [.slice aw nw cw,.int .i64 (Int.ofNat top),.slice ar nr cr] 24 .fix)→AccI 3 h B a5 l.length c5 (l.map Int.ofNat)→(∀h',Kp g.nx g h'→Q (.bool (q&&cellsOk W l (l.drop i)&&R.all (wordR l))) h')→
 I63_1 O Q a0 n0 c0 x0 a2 n2 c2 b1 0 q2 a5 l.length c5 q (Int.ofNat i) h:=by
 intro d
 induction d with
 |zero=>
  intro i q h hi ok kp hBn gb A hQ
  refine I63_1.of _ _ _ _ _ _ _ _ _ _ _ _ _ _ _ ?_
  unfold T63_1
  refine vcond_f (by rw[ltI_nat];exact blt_f (by omega)) ?_
  refine lp63_2 hO (l:=l) HR hR lR (by omega) a0 n0 c0 x0 a2 n2 c2 q2 kp gb R.length 0 q (fun _=>A.ints) (by omega) ?_
  have:=hQ h kp
  rw[List.drop_of_length_le (by omega)]at this
  simpa[cellsOk] using this
 |succ d ih=>
  intro i q h hi ok kp hBn gb A hQ
  refine I63_1.of _ _ _ _ _ _ _ _ _ _ _ _ _ _ _ ?_
  unfold T63_1
  have hi':i<l.length:=by omega
  have hA:IntsAt h a5 l.length (l.map Int.ofNat):=A.ints
  rw[List.drop_eq_getElem_cons hi']at hQ
  refine vcond_t (by rw[ltI_nat];exact blt_t (by omega)) (vcond_split (fun h1=> ?_) fun h1=> ?_)
  · subst h1
    intro g201
    obtain⟨c1,c2',c3,c4⟩:=hc l[i] (List.getElem_mem hi')
    have kp1:Kp g.nx g g201:=kp.rsv 9
    haveI:Ft g g201:=kp1.ex (Nat.le_refl _)
    refine⟨_,_,_,read1 (i:=0) (show g201.get b1=_ from gb) rfl,isNat_i (IntsAt.get hA (k:=i) (by simpa using hi') fun b f ha hb hr=>vreq_t (blt_t hi') ⟨_,hr,?_⟩)⟩
    rw[List.getElem_map]
    have gW:W.getD l[i] 0=W[l[i]]:=by simp[List.getD,List.getElem?_eq_getElem c1]
    refine isNat_i (HW.at_.rd c1 ?_)
    intro g213
    refine⟨_,_,_,_,_,_,_,by rw[readAt_get (show g213.get b1=_ from gb) (by simp)];rfl,isNat_i (IntsAt.get hA (k:=i) (by simpa using hi') fun b f ha hb hr=>vreq_t (blt_t hi') ⟨_,hr,_,_,ct90 hO _ _,?_⟩)⟩
    rw[List.getElem_map]
    intro g227
    have ok213:g213.Ok:=(ok.rsv 9).rsv 11
    have kp213:Kp g.nx g g213:=kp1.rsv 11
    have okr:(g227.grd []).Ok:=ok213
    haveI f227:Ft g (g227.grd []):=kp213.ex (Nat.le_refl _)
    refine ct122 hO HW hW (by omega) c1 c2' c3 c4 fun a3 n3 c3' h231 F k231=> ?_
    intro g232
    have k232:Kp h.nx h g232:=⟨fun o ho=>(k231.get o (by show o<h.nx+9+11;omega)),by have:h.nx+9+11≤h231.nx:=k231.nx;show h.nx≤h231.nx;omega,rfl,fun f=>k231.fr ((ok213.fr:g213.Fresh))⟩
    have kpg:Kp g.nx g g232:=kp.trans (k232.le kp.nx)
    have A232:AccI 3 g232 B a5 l.length c5 (l.map Int.ofNat):=A.keep (fun o ho _=>k232.get o ho) k232.nx
    haveI:Ft g (g232.grd []):=kpg.ex (Nat.le_refl _)
    have F232:IntsAt (g232.grd []) a3 n3 (fieldsW W l[i]):=F.at_.to _
    have X232:IntsAt (g232.grd []) a5 l.length (l.map Int.ofNat):=SlAt.keep A232.ints (fun _ _ _=>rfl) (Nat.le_refl _) (fun _ _ h=>h)
    have fl:(fieldsW W l[i]).length<1000000:=by unfold fieldsW;simp;omega
    refine⟨_,_,ct82 hO X232 (by omega) _ F232 (fun x hx=>hW _ (List.mem_of_mem_drop (List.mem_of_mem_take hx))) fl,?_⟩
    intro g235
    rw[wrap_succ (by omega)]
    refine ih (i+1) _ g235 (by omega) ⟨fun q hq=>by have:=ok.gd q hq;have:=k232.nx;show q<g232.nx;omega,k231.fr ok213.fr⟩ kpg (Nat.le_trans hBn k232.nx) ((k232.get b1 (by omega)).trans gb) A232 fun h' k'=> ?_
    have:=hQ h' k'
    rw[Bool.true_and]at this
    rw[←gW]
    exact this
  · subst h1
    refine lp63_2 hO (l:=l) HR hR lR (by omega) a0 n0 c0 x0 a2 n2 c2 q2 kp gb R.length 0 false (fun h=>by cases h) (by omega) ?_
    have:=hQ h kp
    simpa using this
theorem lp63_0 {g:Hp}(_okg:g.Ok){aw:Option Addr}{nw cw:Nat}{W:List Int}{top:Nat}(HW:SI g aw nw cw W)(hW: ∀x∈W,In64 x)(lW:W.length≤200)(h1:1≤top)(ht:top≤W.length){R:List Int}{ar:Option Addr}{nr cr:Nat}(HR:IntsAt g ar nr R)(hR: ∀x∈R,In64 x)(lR:R.length≤10){Q:Value→Hp→Prop}(a0:Option Addr)(n0 c0:Nat)(x0:Int)(a2:Option Addr)(n2 c2:Nat)(q2:Bool){h:Hp}(ok:h.Ok)(kp:Kp g.nx g h){b1:Nat}(hb:b1<h.nx)(gb:h.get b1=some (.cells [.slice aw nw cw,.int .i64 (Int.ofNat top),.slice ar nr cr] 24 .fix)):
 ∀(d i:Nat),i+d=W.length→top≤i→(∀h',Kp g.nx g h'→Q (.bool (if (W.drop i).any (· !=0)then none else match cellsR W top (top+1) 1 with
 |none=>none
 |some l=>if cellsOk W l l&&R.all (wordR l)then some l else none:Option (List Nat)).isSome) h')→
 I63_0 O Q a0 n0 c0 x0 a2 n2 c2 b1 0 q2 (Int.ofNat nw) (Int.ofNat i) h:=by
 have hn:=HW.at_.1
 haveI:Ft g h:=kp.ex (Nat.le_refl _)
 intro d
 induction d with
 |zero=>
  intro i hi hti hQ
  refine I63_0.of _ _ _ _ _ _ _ _ _ _ _ _ ?_
  unfold T63_0
  rw[List.drop_of_length_le (by omega)]at hQ
  refine vcond_f (by rw[ltI_nat];exact blt_f (by omega)) ⟨_,_,_,_,_,_,_,by rw[readAt_get gb (by simp)];rfl,?_⟩
  refine ct66 hO ok (HW.at_.to h) hW h1 ht (by omega) (fun a n c h' k' hc=> ?_) fun l a n c h' hc k' A=> ?_
  · have kph:Kp g.nx g h':=kp.trans (k'.le kp.nx)
    have gb':h'.get b1=_:=(k'.get b1 hb).trans gb
    have fin:I63_2 O Q a0 n0 c0 x0 a2 n2 c2 b1 0 q2 a n c false (Int.ofNat 0) h':=by
     refine lp63_2 hO (l:=[]) HR hR (by omega) (by decide) a0 n0 c0 x0 a2 n2 c2 q2 kph gb' R.length 0 false (fun h=>by cases h) (by omega) ?_
     have:=hQ h' kph
     rw[hc]at this
     simpa using this
    refine I63_1.of _ _ _ _ _ _ _ _ _ _ _ _ _ _ _ ?_
    unfold T63_1
    exact vcond_split (fun _=>vcond_f rfl fin) fun _=>fin
  · have kph:Kp g.nx g h':=kp.trans (k'.le kp.nx)
    have gb':h'.get b1=_:=(k'.get b1 hb).trans gb
    have hnl:n=l.length:=by have:=A.ints.1;rwa [List.length_map]at this
    subst hnl
    have hm:=cellsR_mem hc
    have hll:l.length≤top:=by
     have: ∀(f p:Nat) (l:List Nat),cellsR W top f p=some l→l.length+p≤top:=by
      intro f
      induction f with
      |zero=>intro p l h;cases h
      |succ f ih=>
       intro p l h
       unfold cellsR at h
       split at h
       · split at h
         · cases h
         · obtain⟨l',h3,rfl⟩:=Option.map_eq_some_iff.1 h
           have:=ih _ _ h3
           simp only[List.length_cons];omega
       · split at h
         · obtain rfl:=Option.some.inj h
           simp;omega
         · cases h
     have:=this _ _ _ hc
     omega
    rcases Nat.eq_zero_or_pos l.length with h0|h0
    · have hl0:l=[]:=List.length_eq_zero_iff.1 h0
      subst hl0
      refine I63_1.of _ _ _ _ _ _ _ _ _ _ _ _ _ _ _ ?_
      unfold T63_1
      refine vcond_f rfl ?_
      refine lp63_2 hO (l:=[]) HR hR (by omega) (by decide) a0 n0 c0 x0 a2 n2 c2 q2 kph gb' R.length 0 true (fun _=>A.ints) (by omega) ?_
      have:=hQ h' kph
      rw[hc]at this
      simp only[List.any_nil,cellsOk,List.all_nil,Bool.true_and]at this
      cases hr:R.all (wordR [])with
      |true=>rw[hr]at this;simpa[hr] using this
      |false=>rw[hr]at this;simpa[hr] using this
    · have hBn:h.nx+1≤h'.nx:=by
       rcases A with ⟨_,_,_,e⟩|⟨o,_,_,_,h2,h3,_⟩
       · have:l.length=0:=by have:=congrArg List.length e;simpa using this
         omega
       · omega
      refine lp63_1 hO HW hW (by omega) HR hR (by omega) (b1:=b1) (B:=h.nx+1) (by have:=kp.nx;omega) (by omega) (fun x hx=> ?_) (by omega) a0 n0 c0 x0 a2 n2 c2 q2 l.length 0 true h' (by omega) (ok.kp k') kph hBn gb' A fun h2 k2=> ?_
      · obtain⟨_,m1,m2,m3,m4⟩:=hm.2 x hx
        exact⟨by omega,m2,m3,by omega⟩
      · have:=hQ h2 k2
        rw[hc]at this
        simp only[List.any_nil,Bool.false_eq_true,if_false]at this
        rw[List.drop_zero,Bool.true_and]
        cases hr:cellsOk W l l&&R.all (wordR l)with
        |true=>rw[hr]at this;simpa using this
        |false=>rw[hr]at this;simpa using this
 |succ d ih=>
  intro i hi hti hQ
  refine I63_0.of _ _ _ _ _ _ _ _ _ _ _ _ ?_
  unfold T63_0
  have hi':i<W.length:=by omega
  rw[List.drop_eq_getElem_cons hi']at hQ
  refine vcond_t (by rw[ltI_nat];exact blt_t (by omega)) ⟨_,_,_,read1 (i:=0) gb rfl,isNat_i (HW.at_.rd hi' (vcond_split (fun h2=> ?_) fun h2=> ?_))⟩
  · have h2:=ne_of_f (by simpa using h2)
    have:=hQ h kp
    rw[List.any_cons,show(W[i] !=0)=true by simpa using h2,Bool.true_or]at this
    simpa using this
  · have h2:=eq_of_t (by simpa using h2)
    rw[wrap_succ (by omega)]
    refine ih (i+1) (by omega) (by omega) fun h' k'=> ?_
    have:=hQ h' k'
    rw[List.any_cons,show(W[i] !=0)=false by simpa using h2,Bool.false_or]at this
    exact this
end
structure HA (g:Hp)(aw:Option Addr)(nw cw:Nat)(W:List Int)(ar:Option Addr)(nr cr:Nat)(R:List Int):Prop where
 sw:SI g aw nw cw W
 sr:SI g ar nr cr R
 w: ∀x∈W,In64 x
 r: ∀x∈R,In64 x
theorem HA.to {g:Hp}(h:Hp) [Ft g h] {aw:Option Addr}{nw cw:Nat}{W:List Int}{ar:Option Addr}{nr cr:Nat}{R:List Int}(a:HA g aw nw cw W ar nr cr R):HA h aw nw cw W ar nr cr R:=⟨a.sw.to h,a.sr.to h,a.w,a.r⟩
theorem rd3 {h:Hp}{b:Nat}{v1 v2 v3:Value}{e:TypeId}{m:Md}(g:h.get b=some (.cells [v1,v2,v3] e m)):readAt h b 0 3=some [v1,v2,v3]:=by rw[readAt_get g (by simp)];rfl
section
variable {O:CallF}(hO:Oth O){g:Hp}(ok:g.Ok){aw:Option Addr}{nw cw:Nat}{W:List Int}{top:Int}{ar:Option Addr}{nr cr:Nat}{R:List Int}(A:HA g aw nw cw W ar nr cr R)
include hO ok A
theorem ct63:Ret Tryz.prog O 63 [.agg #[.slice aw nw cw,.int .i64 top,.slice ar nr cr]] g (QF g W top R):=by
 refine rk63 _ _ _ _ _ _ _ (hO _ _ _ (by decide)) ?_
 unfold T63
 intro g1
 have HW:=A.sw
 have HR:=A.sr
 have hn:=HW.at_.1
 have hnr:=HR.at_.1
 have k1:Kp g.nx g g1:=(Kp.refl _ g).add (Nat.le_refl _) _
 haveI:Ft g g1:=k1.ex (Nat.le_refl _)
 have s1:g1.get g.nx=some (.cells [.slice aw nw cw,.int .i64 top,.slice ar nr cr] 24 .fix):=get_add_same ..
 have bad:(W.length<1∨200<W.length∨top<1∨(W.length:Int)<top∨W.getD 0 0≠0∨10<R.length)→QF g W top R (.bool false) g1:=fun hh=>⟨by unfold formedR;rw[if_pos hh];rfl,k1⟩
 refine⟨_,_,_,read1 (i:=0) s1 rfl,vcond_split (fun h1=>bad ?_) fun h1=>vcond_split (fun h2=>bad ?_) fun h2=> ?_⟩
 · have h1:=lt_of_t h1
   exact .inl (by rw[hn]at h1;exact Int.ofNat_lt.1 h1)
 · have h2:=lt_of_t h2
   exact .inr (.inl (by rw[hn]at h2;exact Int.ofNat_lt.1 h2))
 have h1:1≤W.length:=by have:=not_lt_of_f h1;rw[hn]at this;simp at this;omega
 have h2:W.length≤200:=by have:=not_lt_of_f h2;rw[hn]at this;simp at this;omega
 refine⟨_,read1 (i:=1) s1 rfl,vcond_split (fun h3=>bad (.inr (.inr (.inl (lt_of_t h3))))) fun h3=> ?_⟩
 refine⟨_,read1 (i:=1) s1 rfl,vcond_split (fun h4=>bad (.inr (.inr (.inr (.inl (by have:=lt_of_t h4;rw[hn]at this;exact this)))))) fun h4=> ?_⟩
 obtain⟨tp,rfl⟩: ∃m:Nat,top=Int.ofNat m:=Int.eq_ofNat_of_zero_le (by have:=not_lt_of_f h3;omega)
 have h3:1≤tp:=by have:=not_lt_of_f h3;simp at this;omega
 have h4:tp≤W.length:=by have:=not_lt_of_f h4;rw[hn]at this;exact Int.ofNat_le.1 (by simpa using this)
 have gW:W.getD 0 0=W[0]:=by simp[List.getD,List.getElem?_eq_getElem h1]
 refine⟨_,_,_,read1 (i:=0) s1 rfl,IntsAt.rd0 HW.at_ h1 (vcond_split (fun h5=>bad (.inr (.inr (.inr (.inr (.inl (by rw[gW];exact ne_of_f (by simpa using h5)))))))) fun h5=> ?_)⟩
 have h5:W.getD 0 0=0:=by rw[gW];exact eq_of_t (by simpa using h5)
 refine⟨_,_,_,read1 (i:=2) s1 rfl,vcond_split (fun h6=>bad (.inr (.inr (.inr (.inr (.inr (by have:=lt_of_t h6;rw[hnr]at this;simp at this;omega))))))) fun h6=> ?_⟩
 have h6:R.length≤10:=by have:=not_lt_of_f h6;rw[hnr]at this;simp at this;omega
 refine⟨_,read1 (i:=1) s1 rfl,?_⟩
 refine lp63_0 hO ok HW A.w h2 h3 h4 HR.at_ A.r h6 aw nw cw (Int.ofNat tp) ar nr cr false (ok.add _) k1 (Nat.lt_succ_self _) s1 (W.length-tp) tp (by omega) (Nat.le_refl _) fun h' k'=>⟨?_,k'⟩
 have e:formedR W (Int.ofNat tp) R=(if (W.drop tp).any (· !=0)then none else match cellsR W tp (tp+1) 1 with
  |none=>none
  |some l=>if cellsOk W l l&&R.all (wordR l)then some l else none):=by
  unfold formedR
  rw[if_neg ?_]
  · rfl
  rintro(h|h|h|h|h|h)
  · omega
  · omega
  · have:(Int.ofNat tp:Int)=(tp:Int):=rfl
    omega
  · have:(Int.ofNat tp:Int)=(tp:Int):=rfl
    omega
  · exact h h5
  · omega
 exact congrArg (fun o:Option (List Nat)=>Value.bool o.isSome) e.symm
omit hO ok A in
theorem formedR_cells {W:List Int}{top:Int}{R:List Int}{l:List Nat}(h:formedR W top R=some l):1≤W.length∧W.length≤200∧1≤top∧top≤W.length∧R.length≤10∧(W.drop top.toNat).any (· !=0)=false∧cellsR W top.toNat (top.toNat+1) 1=some l∧cellsOk W l l=true∧R.all (wordR l)=true:=by
 unfold formedR at h
 split at h
 · cases h
 · rename_i hn
   split at h
   · cases h
   · rename_i hz
     split at h
     · cases h
     · rename_i l' hc
       split at h
       · rename_i hk
         obtain rfl:=Option.some.inj h
         rw[Bool.and_eq_true]at hk
         have e1: ¬W.length<1:=fun hh=>hn (.inl hh)
         have e2: ¬200<W.length:=fun hh=>hn (.inr (.inl hh))
         have e3: ¬top<1:=fun hh=>hn (.inr (.inr (.inl hh)))
         have e4: ¬(W.length:Int)<top:=fun hh=>hn (.inr (.inr (.inr (.inl hh))))
         have e5: ¬10<R.length:=fun hh=>hn (.inr (.inr (.inr (.inr (.inr hh)))))
         exact⟨by omega,by omega,by omega,by omega,by omega,by simpa using hz,hc,hk.1,hk.2⟩
       · cases h
theorem ct37:Ret Tryz.prog O 37 [.agg #[.slice aw nw cw,.int .i64 top,.slice ar nr cr]] g fun v h'=> ∃a n c,v= .tuple #[.slice a n c,.int .i64 (if (formedR W top R).isSome then 0 else 2)]∧IntsAt h' a n (((formedR W top R).getD []).map Int.ofNat)∧Kp g.nx g h':=by
 refine rk37 _ _ _ _ _ _ _ (hO _ _ _ (by decide)) ?_
 unfold T37
 intro g1
 have k1:Kp g.nx g g1:=(Kp.refl _ g).add (Nat.le_refl _) _
 haveI:Ft g g1:=k1.ex (Nat.le_refl _)
 have ok1:g1.Ok:=ok.add _
 obtain⟨v,h',e,rfl,k⟩:=ct63 hO ok1 (A.to g1) (top:=top)
 have s1:g1.get g.nx=some (.cells [.slice aw nw cw,.int .i64 top,.slice ar nr cr] 24 .fix):=get_add_same ..
 refine⟨_,_,_,_,_,_,_,rd3 s1,_,h',e,?_⟩
 have kk:Kp g.nx g h':=k1.trans (k.le (Nat.le_succ _))
 cases hf:formedR W top R with
 |none=>exact vcond_t rfl ⟨_,_,_,rfl,SlAt.nil ..,kk⟩
 |some l=>
  obtain⟨f1,f2,f3,f4,f5,f6,f7,f8,f9⟩:=formedR_cells hf
  obtain⟨tp,rfl⟩: ∃m:Nat,top=Int.ofNat m:=Int.eq_ofNat_of_zero_le (by omega)
  haveI:Ft g h':=kk.ex (Nat.le_refl _)
  have f3:1≤tp:=Int.ofNat_le.1 f3
  have f4:tp≤W.length:=Int.ofNat_le.1 f4
  refine vcond_f rfl ⟨_,_,_,_,_,_,_,rd3 ((k.get _ (Nat.lt_succ_self _)).trans s1),ct66 hO (ok1.kp k) (A.sw.at_.to h') A.w f3 f4 (by omega) (fun a n c h2 k2 hc=> ?_) fun l2 a n c h2 hc k2 A2=> ?_⟩
  · rw[show cellsR W tp (tp+1) 1=some l from f7]at hc;cases hc
  · obtain rfl:l=l2:=Option.some.inj ((show cellsR W tp (tp+1) 1=some l from f7).symm.trans hc)
    exact⟨_,_,_,rfl,A2.ints,kk.trans (k2.le kk.nx)⟩
theorem ct41 (tb:Tb g):Ret Tryz.prog O 41 [.agg #[.slice aw nw cw,.int .i64 top,.slice ar nr cr]] g fun v h'=>v= .int .i64 (if (checkP W top R).isSome then 0 else 2)∧Kp g.nx g h':=by
 refine rk41 _ _ _ _ _ _ _ (hO _ _ _ (by decide)) ?_
 unfold T41
 intro g1
 have k1:Kp g.nx g g1:=(Kp.refl _ g).add (Nat.le_refl _) _
 haveI:Ft g g1:=k1.ex (Nat.le_refl _)
 have ok1:g1.Ok:=ok.add _
 have n0:0<g.nx:=by have:=tb.1;omega
 obtain⟨v,h',e,a,n,c,x,rfl,k,hx⟩:=ct65 hO ok1 (A.sw.to g1) A.w (A.sr.at_.to g1) A.r (tb.kp k1 n0) (top:=top)
 refine⟨_,_,_,_,_,_,_,rd3 (get_add_same ..),_,_,_,_,h',e,?_,k1.trans (k.le (Nat.le_succ _))⟩
 cases hc:checkP W top R with
 |none=>rw[hc]at hx;rw[show x=2 from hx];rfl
 |some l=>rw[hc]at hx;rw[hx.1];rfl
end
def refd (w:Int):Int:=if Int.tmod w 2≠0 then 0 else Int.tdiv w 2
def withP (fr:Nat):List Int→List Nat→List Nat
 | [],l=>l
 |w::ws,l=>if refd w<((max fr 1:Nat):Int)then withP fr ws l else if (l.map Int.ofNat).contains (refd w)then withP fr ws l else withP fr ws (l++[(refd w).toNat])
def strongP (W:List Int)(p:Nat):List Int:=if keepB (hdK (W.getD p 0))then fieldsW W p else []
def CellAt (W:List Int)(p:Nat):Prop:=p<W.length∧0≤W.getD p 0∧hdS (W.getD p 0)≤20∧p+1+(hdS (W.getD p 0)).toNat≤W.length
instance (W:List Int)(p:Nat):Decidable (CellAt W p):=by unfold CellAt;infer_instance
def reachO (W:List Int)(fr:Nat):Nat→Nat→List Nat→Option (List Nat)
 |0,_,_=>none
 |f+1,i,l=>if i<l.length then (if CellAt W (l.getD i 0)∧l.length≤1000 then reachO W fr f (i+1) (withP fr (strongP W (l.getD i 0)) l)else none)else some l
theorem withP_length (fr:Nat): ∀(ws:List Int)(l:List Nat),l.length≤(withP fr ws l).length∧(withP fr ws l).length≤l.length+ws.length:=by
 intro ws
 induction ws with
 |nil=>intro l;exact⟨Nat.le_refl _,Nat.le_refl _⟩
 |cons w ws ih=>
  intro l
  unfold withP
  split
  · have:=ih l;simp only[List.length_cons];omega
  · split
    · have:=ih l;simp only[List.length_cons];omega
    · have:=ih (l++[(refd w).toNat]);simp only[List.length_append,List.length_cons,List.length_nil]at this ⊢; omega
theorem fieldsW_len {W:List Int}{p:Nat}:(fieldsW W p).length≤(hdS (W.getD p 0)).toNat:=by
 unfold fieldsW;exact List.length_take_le ..
theorem strong_len {W:List Int}{p:Nat}(hc:CellAt W p):(strongP W p).length≤20:=by
 unfold strongP
 split
 · have:=fieldsW_len (W:=W) (p:=p)
   have:=hc.2.2.1
   omega
 · exact Nat.zero_le _
theorem strong_mem {W:List Int}{p:Nat}{x:Int}(hx:x∈strongP W p):x∈W:=by
 unfold strongP at hx
 split at hx
 · exact List.mem_of_mem_drop (List.mem_of_mem_take hx)
 · cases hx
theorem keepB_f {k:Int}(h1:k≠1)(h2:k≠2):keepB k=false:=by
 unfold keepB
 rw[beq_eq_false_iff_ne.2 h1,beq_eq_false_iff_ne.2 h2];rfl
section
variable {O:CallF}(hO:Oth O)
include hO
theorem ct145 {w:Int}(hw:In64 w)(h:Hp):EvT O 145 [.int .i64 w] h (.int .i64 (refd w)) h:=by
 refine evt hO (rk145 _ (hO _ _ _ (by decide)) ?_)
 unfold T145 refd
 rw[hw.half]
 refine vcond_split (fun h1=> ?_) fun h1=> ?_
 · rw[if_pos (ne_of_f (by simpa using h1))];exact⟨rfl,rfl⟩
 · rw[if_neg (by simpa using eq_of_t (by simpa using h1))];exact⟨rfl,rfl⟩
theorem lp130 {g0 h0:Hp}{B:Nat}(hB:g0.nx≤B){aw:Option Addr}{nw cw:Nat}{ws:List Int}(X:IntsAt g0 aw nw ws)(hX: ∀x∈ws,In64 x)(lX:ws.length<100000){fr:Nat}{Q:Value→Hp→Prop}(a0:Option Addr)(n0 c0:Nat){res:List Nat}(next: ∀a n c h,AccI 3 h B a n c (res.map Int.ofNat)→Kp B h0 h→Q (.slice a n c) h):
 ∀(d i:Nat) (l:List Nat) (h:Hp) (a:Option Addr) (n c:Nat),i+d=ws.length→l.length≤100000+i→B≤h.nx→h.Ok→GdLt h B→Ft g0 h→Kp B h0 h→AccI 3 h B a n c (l.map Int.ofNat)→withP fr (ws.drop i) l=res→
 I130_0 O Q a0 n0 c0 aw nw cw (Int.ofNat fr) a n c (Int.ofNat i) h:=by
 have hn:=X.1
 intro d
 induction d with
 |zero=>
  intro i l h a n c hi hl hBn ok gd ft kp A hres
  refine I130_0.of _ _ _ _ _ _ _ _ _ _ _ ?_
  unfold T130_0
  rw[List.drop_of_length_le (by omega)]at hres
  refine vcond_f (by rw[ltI_nat];exact blt_f (by omega)) (next _ _ _ _ ?_ kp)
  rw[←hres];exact A
 |succ d ih=>
  intro i l h a n c hi hl hBn ok gd ft kp A hres
  refine I130_0.of _ _ _ _ _ _ _ _ _ _ _ ?_
  unfold T130_0
  have hi':i<ws.length:=by omega
  rw[List.drop_eq_getElem_cons hi']at hres
  unfold withP at hres
  have x64:=hX _ (List.getElem_mem hi')
  rw[show maxI (Int.ofNat fr) 1=((max fr 1:Nat):Int) from maxI_nat fr 1,wrap_succ (by omega)]
  refine vcond_t (by rw[ltI_nat];exact blt_t (by omega)) (isNat_i (X.rd hi' ⟨_,_,ct145 hO x64 h,vcond_split (fun h1=> ?_) fun h1=> ?_⟩))
  · have h1:=not_lt_of_f (by simpa using h1)
    rw[if_neg h1]at hres
    have L:IntsAt h a n (l.map Int.ofNat):=A.ints
    refine⟨_,_,ct67 hO L (by simp;omega) _,vcond_split (fun h2=> ?_) fun h2=> ?_⟩
    · rw[if_neg (by simpa using h2)]at hres
      intro g109
      have hz:0≤refd ws[i]:=by have:(0:Int)≤((max fr 1:Nat):Int):=Int.natCast_nonneg _;omega
      obtain⟨m,hm⟩: ∃m:Nat,refd ws[i]=Int.ofNat m:=Int.eq_ofNat_of_zero_le hz
      refine appI2 AppT22 A hBn gd (by simp;omega) fun a' n' c' h' A' k' kB new=> ?_
      refine ih (i+1) (l++[m]) h' a' n' c' (by omega) (by simp;omega) (Nat.le_trans hBn k'.nx) (ok.kp kB) (gd.kp kB) ⟨fun o ho=>(kB.get o (by omega)).trans (ft.get o ho),Nat.le_trans ft.nx kB.nx⟩ (kp.trans kB) (by rw[List.map_append];rw[hm]at A';exact A') (by rw[hm]at hres;exact hres)
    · rw[if_pos (by simpa using h2)]at hres
      exact ih (i+1) l h a n c (by omega) (by omega) hBn ok gd ft kp A hres
  · have h1:=lt_of_t (by simpa using h1)
    rw[if_pos h1]at hres
    exact ih (i+1) l h a n c (by omega) (by omega) hBn ok gd ft kp A hres
theorem ct130 {g0 h:Hp}{B:Nat}(hB:g0.nx≤B)(hBn:B≤h.nx)(ok:h.Ok)(gd:GdLt h B) [ft:Ft g0 h] {aw:Option Addr}{nw cw:Nat}{ws:List Int}(X:IntsAt g0 aw nw ws)(hX: ∀x∈ws,In64 x)(lX:ws.length<100000){fr:Nat}{l:List Nat}(ll:l.length≤100000){a:Option Addr}{n c:Nat}(A:AccI 3 h B a n c (l.map Int.ofNat)){K:Option Addr→Nat→Nat→Hp→Prop}(next: ∀a n c h',AccI 3 h' B a n c ((withP fr ws l).map Int.ofNat)→Kp B h h'→K a n c h'):
 ∃a' n' c' h',EvT O 130 [.slice a n c,.slice aw nw cw,.int .i64 (Int.ofNat fr)] h (.slice a' n' c') h'∧K a' n' c' h':=by
 refine Ret.s (R:=fun a n c h'=>AccI 3 h' B a n c ((withP fr ws l).map Int.ofNat)∧Kp B h h') ?_ (fun a n c h' q=>next a n c h' q.1 q.2)
 refine rk130 _ _ _ _ _ _ _ (hO _ _ _ (by decide)) ?_
 unfold T130
 exact lp130 hO hB X hX lX a n c (fun a n c h' A' k=>⟨a,n,c,rfl,A',k⟩) ws.length 0 l h a n c (by omega) ll hBn ok gd ft (Kp.refl _ _) A rfl
theorem ct68 {g0 g:Hp} [f0:Ft g0 g] {aw:Option Addr}{nw cw:Nat}{W:List Int}{top:Int}(HW:SI g0 aw nw cw W)(hW: ∀x∈W,In64 x)(lW:W.length<1000000){ar:Option Addr}{nr cr:Nat}{p:Nat}(hc:CellAt W p){K:Option Addr→Nat→Nat→Hp→Prop}(next: ∀a n c h',IntsAt g0 a n (strongP W p)→Kp g.nx g h'→K a n c h'):
 ∃a n c h',EvT O 68 [.agg #[.slice aw nw cw,.int .i64 top,.slice ar nr cr],.int .i64 (Int.ofNat p)] g (.slice a n c) h'∧K a n c h':=by
 refine Ret.s (R:=fun a n c h'=>IntsAt g0 a n (strongP W p)∧Kp g.nx g h') ?_ (fun a n c h' q=>next a n c h' q.1 q.2)
 refine rk68 _ _ _ _ _ _ _ _ (hO _ _ _ (by decide)) ?_
 unfold T68
 intro g1
 obtain⟨c1,c2,c3,c4⟩:=hc
 have s1:g1.get g.nx=some (.cells [.slice aw nw cw,.int .i64 top,.slice ar nr cr] 24 .fix):=get_add_same ..
 have k1:Kp g.nx g g1:=(Kp.refl _ g).add (Nat.le_refl _) _
 haveI:Ft g0 g1:=f0.tr (k1.ex (Nat.le_refl _))
 have gW:W.getD p 0=W[p]:=by simp[List.getD,List.getElem?_eq_getElem c1]
 refine⟨_,_,_,read1 (i:=0) s1 rfl,isNat_i (HW.at_.rd c1 ⟨_,_,ct90 hO _ _,?_⟩)⟩
 rw[←gW]
 have part:keepB (hdK (W.getD p 0))=true→ ∃a n c h',EvT O 122 [.agg #[.slice aw nw cw,.int .i64 top,.slice ar nr cr],.int .i64 (Int.ofNat p)] g1 (.slice a n c) h'∧ ∃a2 n2 c2,Value.slice a n c= .slice a2 n2 c2∧IntsAt g0 a2 n2 (strongP W p)∧Kp g.nx g h':=fun hk=>by
  refine ct122 hO HW hW lW c1 c2 c3 c4 fun a n c h' F k=>⟨a,n,c,rfl,?_,k1.trans (k.le (Nat.le_succ _))⟩
  unfold strongP
  rw[if_pos hk]
  exact F.at_
 refine vcond_split (fun h1=> ?_) fun h1=> ?_
 · exact⟨_,_,_,_,_,_,_,rd3 s1,part (by rw[eq_of_t h1];rfl)⟩
 · refine vcond_split (fun h2=> ?_) fun h2=> ?_
   · exact⟨_,_,_,_,_,_,_,rd3 s1,part (by rw[eq_of_t h2];rfl)⟩
   · refine⟨none,0,0,rfl,?_,k1⟩
     unfold strongP
     rw[if_neg (by rw[keepB_f (ne_of_f h1) (ne_of_f h2)];exact Bool.false_ne_true)]
     exact SlAt.nil ..
theorem lp70 {g:Hp}(okg:g.Ok){aw:Option Addr}{nw cw:Nat}{W:List Int}{top:Int}(HW:SI g aw nw cw W)(hW: ∀x∈W,In64 x)(lW:W.length<1000000){ar:Option Addr}{nr cr:Nat}{fr:Nat}{Q:Value→Hp→Prop}(a0:Option Addr)(n0 c0:Nat)(x0:Int)(a2:Option Addr)(n2 c2:Nat)(a1:Option Addr)(n1 c1:Nat){res:List Nat}(next: ∀a n c h,AccI 3 h (g.nx+1) a n c (res.map Int.ofNat)→Kp g.nx g h→Q (.slice a n c) h):
 ∀(f i:Nat) (l:List Nat) (h:Hp) (a:Option Addr) (n c:Nat),i≤100000→reachO W fr f i l=some res→l.length≤100000→g.nx+1≤h.nx→h.Ok→Kp g.nx g h→h.get g.nx=some (.cells [.slice aw nw cw,.int .i64 top,.slice ar nr cr] 24 .fix)→AccI 3 h (g.nx+1) a n c (l.map Int.ofNat)→
 I70_0 O Q a0 n0 c0 x0 a2 n2 c2 a1 n1 c1 (Int.ofNat fr) g.nx 0 a n c (Int.ofNat i) h:=by
 intro f
 induction f with
 |zero=>intro i l h a n c _ hr;cases hr
 |succ f ih=>
  intro i l h a n c hi hr ll hBn ok kp gb A
  have L:IntsAt h a n (l.map Int.ofNat):=A.ints
  have hn:=L.1
  rw[List.length_map]at hn
  subst hn
  refine I70_0.of _ _ _ _ _ _ _ _ _ _ _ _ _ _ _ _ _ ?_
  unfold T70_0
  unfold reachO at hr
  by_cases hil:i<l.length
  · rw[if_pos hil]at hr
    split at hr
    · rename_i hcl
      obtain⟨hc,h1000⟩:=hcl
      have gl:l.getD i 0=l[i]:=by simp[List.getD,List.getElem?_eq_getElem hil]
      rw[gl]at hc hr
      refine vcond_t (by rw[ltI_nat];exact blt_t hil) ?_
      intro g101
      have kp1:Kp g.nx g g101:=kp.rsv 10
      haveI:Ft g (g101.grd []):=kp1.ex (Nat.le_refl _)
      refine⟨_,_,_,_,_,_,_,rd3 (show g101.get g.nx=_ from gb),isNat_i (IntsAt.get L (k:=i) (by simpa using hil) fun b off ha hb hr'=>vreq_t (blt_t hil) ⟨_,hr',?_⟩)⟩
      rw[List.getElem_map]
      refine ct68 hO HW hW lW hc fun a3 n3 c3 h116 S k116=> ?_
      intro g117
      have n116:h.nx+10≤h116.nx:=k116.nx
      have k117:Kp h.nx h g117:=⟨fun o ho=>k116.get o (by show o<h.nx+10;omega),by show h.nx≤h116.nx;omega,rfl,fun f=>k116.fr (ok.rsv 10).fr⟩
      have kpg:Kp g.nx g g117:=kp.trans (k117.le kp.nx)
      haveI:Ft g (g117.grd []):=kpg.ex (Nat.le_refl _)
      have okg7:(g117.grd []).Ok:=ok.kp k117
      have A7:AccI 3 (g117.grd []) (g.nx+1) a l.length c (l.map Int.ofNat):=A.keep (fun o ho _=>k117.get o ho) k117.nx
      have gd7:GdLt (g117.grd []) (g.nx+1):=fun q hq=>by have:=okg.lt.kp kpg q hq;omega
      have l20:=strong_len hc
      refine ct130 hO (h:=g117.grd []) (Nat.le_succ _) (Nat.le_trans hBn k117.nx) okg7 gd7 S (fun x hx=>hW x (strong_mem hx)) (by omega) ll A7 fun a' n' c' h121 A' k121=> ?_
      intro g122
      have n121:h116.nx≤h121.nx:=k121.nx
      have l2:=(withP_length fr (strongP W l[i]) l).2
      rw[wrap_succ (by omega)]
      refine ih (i+1) _ g122 a' n' c' (by omega) hr (by omega) (by show g.nx+1≤h121.nx;omega) ⟨fun q hq=>by have:=ok.gd q hq;show q<h121.nx;omega,k121.fr okg7.fr⟩ ⟨fun o ho=>(k121.get o (by omega)).trans (kpg.get o ho),by have:=kp.nx;show g.nx≤h121.nx;omega,kp.gd,fun _=>k121.fr okg7.fr⟩ ((k121.get _ (Nat.lt_succ_self _)).trans ((k117.get _ (by omega)).trans gb)) (A'.keep (fun _ _ _=>rfl) (Nat.le_refl _))
    · cases hr
  · rw[if_neg hil]at hr
    obtain rfl:=Option.some.inj hr
    exact vcond_f (by rw[ltI_nat];exact blt_f hil) (next _ _ _ _ A kp)
theorem ct70 {g0 g:Hp} [f0:Ft g0 g] (okg:g.Ok){aw:Option Addr}{nw cw:Nat}{W:List Int}{top:Int}(HW:SI g0 aw nw cw W)(hW: ∀x∈W,In64 x)(lW:W.length<1000000){ar:Option Addr}{nr cr:Nat}{fr:Nat}{a1:Option Addr}{n1 c1:Nat}{ws:List Int}(X:IntsAt g a1 n1 ws)(hX: ∀x∈ws,In64 x)(lX:ws.length<100000){f:Nat}{res:List Nat}(hr:reachO W fr f 0 (withP fr ws [])=some res){K:Option Addr→Nat→Nat→Hp→Prop}(next: ∀a n c h',AccI 3 h' (g.nx+1) a n c (res.map Int.ofNat)→Kp g.nx g h'→K a n c h'):
 ∃a n c h',EvT O 70 [.agg #[.slice aw nw cw,.int .i64 top,.slice ar nr cr],.slice a1 n1 c1,.int .i64 (Int.ofNat fr)] g (.slice a n c) h'∧K a n c h':=by
 refine Ret.s (R:=fun a n c h'=>AccI 3 h' (g.nx+1) a n c (res.map Int.ofNat)∧Kp g.nx g h') ?_ (fun a n c h' q=>next a n c h' q.1 q.2)
 refine rk70 _ _ _ _ _ _ _ _ _ _ _ (hO _ _ _ (by decide)) ?_
 unfold T70
 intro g1
 have k1:Kp g.nx g g1:=(Kp.refl _ g).add (Nat.le_refl _) _
 haveI:Ft g g1:=k1.ex (Nat.le_refl _)
 have ok1:g1.Ok:=okg.add _
 refine ct130 hO (g0:=g) (B:=g.nx+1) (Nat.le_succ _) (Nat.le_refl _) ok1 (fun q hq=>by have:=okg.gd q hq;omega) X hX (by omega) (l:=[]) (by simp) (AccI.nil ..) fun a n c h' A k=> ?_
 have l2:=(withP_length fr ws []).2
 simp only[List.length_nil]at l2
 exact lp70 hO okg (HW.to g) hW lW aw nw cw top ar nr cr a1 n1 c1 (fun a n c h A k=>⟨a,n,c,rfl,A,k⟩) f 0 _ h' a n c (by omega) hr (by omega) (Nat.le_trans (Nat.le_refl _) k.nx) (ok1.kp k) (k1.trans (k.le (Nat.le_succ _))) ((k.get _ (Nat.lt_succ_self _)).trans (get_add_same ..)) A
end
abbrev By:=Mv→Int→Option (Mv×Int)
def Mv.put (s:Mv)(i:Nat)(v:Int):Mv:= { s with D:=s.D.set i v }
def chgIn (by_:By):Nat→Nat→Mv→Option Mv
 |0,_,s=>some s
 |k+1,i,s=>if i<s.D.length then (by_ s (s.D.getD i 0)).bind fun r=>chgIn by_ k (i+1) (r.1.put i r.2)else none
def chgO (isF:Int→Bool)(by_:By):Nat→Nat→Mv→Option Mv
 |0,_,_=>none
 |f+1,p,s=>if p<s.top then
   (if p<s.D.length∧0≤hdS (s.D.getD p 0)∧hdS (s.D.getD p 0)≤20 then
     (if isF (hdK (s.D.getD p 0))then (chgIn by_ (hdS (s.D.getD p 0)).toNat (p+1) s).bind fun s'=>chgO isF by_ f (p+1+(hdS (s.D.getD p 0)).toNat) s'
     else chgO isF by_ f (p+1+(hdS (s.D.getD p 0)).toNat) s)
   else none)
  else some s
theorem MvAt.put {p:Pl}{g h:Hp}{W:List Int}{s:Mv}{a:Option Addr}{no co:Nat}(P:p.Ok g W)(gd:Gd p h)(m:MvAt p h s a no co){i:Nat}(hi:i<s.D.length){v:Int}(hv:In64 v):
 canW h p.oW (0+i*1) [.int .i64 v]=true∧MvAt p (h.wr p.oW (0+i*1) [.int .i64 v]) (s.put i v) a no co∧Mvd p h (h.wr p.oW (0+i*1) [.int .i64 v]) a a:=by
 have l:0+i*1+ [Value.int .i64 v].length≤(s.D.map (Value.int .i64)).length:=by simp;omega
 have w:=wr_get m.D (by decide) gd.W l rfl
 have mnx:=m.nx
 have:=P.tM
 have:=P.wM
 have:=P.tw
 have:=P.B
 refine⟨canW_t m.D (by decide) gd.W l rfl,⟨(wr_get_ne _ _ _ _ (by omega)).trans m.M,(wr_get_ne _ _ _ _ (by omega)).trans m.T,?_,m.A.keep (fun o ho ha=>wr_get_ne _ _ _ _ fun hh=>m.ne (o:=o) (off:=0) (by omega) ha) (by rw[nx_wr];exact Nat.le_refl _),m.lT,by show(s.D.set i v).length=_;rw[List.length_set];exact m.lD,m.bT,fun x hx=> ?_,by rw[nx_wr];exact m.nx⟩,⟨fun o _ _ _ h3 _=>wr_get_ne _ _ _ _ h3,by rw[nx_wr];exact Nat.le_refl _,gd_wr ..,fun f=>f.wr _ _ _,.inl rfl⟩⟩
 · rw[w,Nat.zero_add,Nat.mul_one,putAt_map (Value.int .i64) hi];rfl
 · rcases List.mem_or_eq_of_mem_set hx with h|rfl
   · exact m.bD x h
   · exact hv
theorem MvAt.rdD {p:Pl}{h:Hp}{s:Mv}{a:Option Addr}{n c:Nat}(m:MvAt p h s a n c){i:Nat}(hi:i<s.D.length):readAt h p.oW (0+i*1) 1=some [.int .i64 (s.D.getD i 0)]:=by
 rw[Nat.zero_add,Nat.mul_one]
 exact read1 m.D (by simp[List.getElem?_eq_getElem hi,List.getD])
theorem MvAt.inD {p:Pl}{h:Hp}{s:Mv}{a:Option Addr}{n c:Nat}(m:MvAt p h s a n c){i:Nat}(hi:i<s.D.length):In64 (s.D.getD i 0):=by
 rw[show s.D.getD i 0=s.D[i] by simp[List.getD,List.getElem?_eq_getElem hi]]
 exact m.bD _ (List.getElem_mem hi)
section
variable {O:CallF}(hO:Oth O)
include hO
def ByOk (O:CallF)(p:Pl)(g:Hp)(g3:Nat)(fi ca:Array Value)(by_:By):Prop:= ∀h s ao no co w s' v,h.Ok→Gd p h→Kp g.nx g h→MvAt p h s ao no co→In64 w→by_ s w=some (s',v)→
 Ret Tryz.prog O g3 (fi.toList++[.int .i64 w]++ca.toList) h fun v' h'=>v'= .int .i64 v∧In64 v∧ ∃ao' no' co',MvAt p h' s' ao' no' co'∧Mvd p h h' ao ao'
def IsOk (O:CallF)(g2:Nat)(fi ca:Array Value)(isF:Int→Bool):Prop:= ∀(h:Hp)(s k:Int),Ret Tryz.prog O g2 (fi.toList++[.agg #[.int .i64 s,.int .i64 k]]++ca.toList) h fun v h'=>v= .bool (isF k)∧Kp h.nx h h'
omit hO in
theorem lp118_1 {p:Pl}{g h0:Hp}{W:List Int}(P:p.Ok g W){g2 g3 g2s:Nat}{fi2 ca2 fi3 ca3 fi2s ca2s:Array Value}{g30:Nat}{fi30 ca30:Array Value}{by_:By}(hby:ByOk O p g g30 fi30 ca30 by_){Q:Value→Hp→Prop}{x1:Int}{a0:Option Addr}{p0 sz:Nat}{kd:Int}{b9:Nat}(hb9:p.B≤b9){s2:Mv}(hp0:p0+1+sz<2000000)
 (next: ∀h ao no co,h.Ok→Gd p h→Kp g.nx g h→MvAt p h s2 ao no co→Mvd p h0 h a0 ao→I118_0 O Q p.M 0 x1 g2 fi2 ca2 g3 fi3 ca3 g2s fi2s ca2s g30 fi30 ca30 (Int.ofNat (p0+1+sz)) h):
 ∀(k i:Nat) (s:Mv) (h:Hp) (ao:Option Addr) (no co:Nat),chgIn by_ k i s=some s2→i+k=p0+1+sz→h.Ok→Gd p h→Kp g.nx g h→MvAt p h s ao no co→Mvd p h0 h a0 ao→b9<h.nx→h.get b9=some (.cells [.int .i64 (Int.ofNat sz),.int .i64 kd] 117 .fix)→(∀off,ao≠some ⟨b9,off,none⟩)→
 I118_1 O Q p.M 0 x1 g2 fi2 ca2 g3 fi3 ca3 g2s fi2s ca2s g30 fi30 ca30 (Int.ofNat p0) b9 0 (Int.ofNat i) h:=by
 have PM:=P.M
 have PtM:=P.tM
 have PwM:=P.wM
 have PB:=P.B
 intro k
 induction k with
 |zero=>
  intro i s h ao no co hc hi ok gd kp m md hbn hb hne
  obtain rfl:=Option.some.inj (show some s=some s2 from hc)
  refine I118_1.of _ _ _ _ _ _ _ _ _ _ _ _ _ _ _ _ _ _ _ ?_
  unfold T118_1
  have w1:wrapF .i64 (Int.ofNat p0+Int.ofNat sz)=Int.ofNat (p0+sz):=by rw[wrap64 (by simp;omega) (by simp;omega)];simp
  have w2:wrapF .i64 (Int.ofNat p0+wrapF .i64 (1+Int.ofNat sz))=Int.ofNat (p0+1+sz):=by
   rw[wrap64 (n:=1+Int.ofNat sz) (by simp;omega) (by simp;omega),wrap64 (by simp;omega) (by simp;omega)];simp;omega
  refine⟨_,read1 (i:=0) hb rfl,?_⟩
  rw[w1]
  refine vcond_f (by rw[ltI_nat,blt_t (by omega)];rfl) ⟨_,read1 (i:=0) hb rfl,?_⟩
  rw[w2]
  exact next h ao no co ok gd kp m md
 |succ k ih=>
  intro i s h ao no co hc hi ok gd kp m md hbn hb hne
  unfold chgIn at hc
  split at hc
  · rename_i hiD
    obtain⟨⟨s',v⟩,h1,h2⟩:=Option.bind_eq_some_iff.1 hc
    refine I118_1.of _ _ _ _ _ _ _ _ _ _ _ _ _ _ _ _ _ _ _ ?_
    unfold T118_1
    have w1:wrapF .i64 (Int.ofNat p0+Int.ofNat sz)=Int.ofNat (p0+sz):=by rw[wrap64 (by simp;omega) (by simp;omega)];simp
    refine⟨_,read1 (i:=0) hb rfl,?_⟩
    rw[w1]
    have hin:i<p.n:=by have:=m.lD;omega
    refine vcond_t (by rw[ltI_nat,blt_f (by omega)];rfl) ⟨_,_,_,m.rd (i:=4) rfl,isNat_i ?_⟩
    show vreq _ _
    refine vreq_t (blt_t hin) ⟨_,m.rdD hiD,?_⟩
    obtain⟨v',h3,e3,rfl,hv,ao',no',co',m',md'⟩:=hby h s ao no co _ s' v ok gd kp m (m.inD hiD) h1
    have gd3:=gd.of md'.gd
    have kp3:=md'.kp P kp m
    have hb3:h3.get b9=_:=(md'.get b9 hbn (by omega) (by omega) (by omega) hne).trans hb
    have hiD':i<s'.D.length:=by have:=m'.lD;omega
    obtain⟨c1,m4,md4⟩:=m'.put P gd3 hiD' hv
    refine⟨_,_,e3,_,_,_,m'.rd (i:=4) rfl,isNat_i ?_⟩
    show vreq _ _
    refine vreq_t (blt_t hin) (vreq_t c1 ?_)
    intro g217
    rw[wrap_succ (by omega)]
    have PW:=P.oW
    refine ih (i+1) _ g217 ao' no' co' h2 (by omega) (md4.ok (md'.ok ok)) (gd3.of md4.gd) (md4.kp P kp3 m') m4 (md.trans (md'.trans md4)) (Nat.lt_of_lt_of_le hbn (Nat.le_trans md'.nx md4.nx)) ((wr_get_ne _ _ _ _ (by omega)).trans hb3) fun off hh=> ?_
    rcases md'.ao with e|e
    · rw[e]at hh;exact hne off hh
    · have:=e b9 off hh;omega
  · cases hc
theorem lp118 {p:Pl}{g h0:Hp}{W:List Int}(P:p.Ok g W){g2 g3 g20:Nat}{fi2 ca2 fi3 ca3 fi20 ca20:Array Value}{g30:Nat}{fi30 ca30:Array Value}{by_:By}{isF:Int→Bool}(hby:ByOk O p g g30 fi30 ca30 by_)(his:IsOk O g20 fi20 ca20 isF){Q:Value→Hp→Prop}{x1:Int}{a0:Option Addr}{s2:Mv}
 (next: ∀h ao no co,MvAt p h s2 ao no co→Mvd p h0 h a0 ao→Q undef h):
 ∀(f i:Nat) (s:Mv) (h:Hp) (ao:Option Addr) (no co:Nat),chgO isF by_ f i s=some s2→h.Ok→Gd p h→Kp g.nx g h→MvAt p h s ao no co→Mvd p h0 h a0 ao→
 I118_0 O Q p.M 0 x1 g2 fi2 ca2 g3 fi3 ca3 g20 fi20 ca20 g30 fi30 ca30 (Int.ofNat i) h:=by
 intro f
 induction f with
 |zero=>intro i s h ao no co hc;cases hc
 |succ f ih=>
  intro i s h ao no co hc ok gd kp m md
  have PM:=P.M
  have PtM:=P.tM
  have PwM:=P.wM
  have PB:=P.B
  refine I118_0.of _ _ _ _ _ _ _ _ _ _ _ _ _ _ _ _ ?_
  unfold T118_0
  refine⟨_,m.rd (i:=5) rfl,?_⟩
  unfold chgO at hc
  by_cases hit:i<s.top
  · rw[if_pos hit]at hc
    split at hc
    · rename_i hd
      obtain⟨hiD,s0,s20⟩:=hd
      have hin:i<p.n:=by have:=m.lD;omega
      have Pn:=P.n
      refine vcond_t (by rw[ltI_nat];exact blt_t hit) ⟨_,_,_,m.rd (i:=4) rfl,isNat_i ?_⟩
      show vreq _ _
      refine vreq_t (blt_t hin) ⟨_,m.rdD hiD,ct86 hO ok (m.inD hiD) fun h2 k2=> ?_⟩
      obtain⟨sz,hsz⟩: ∃m:Nat,hdS (s.D.getD i 0)=Int.ofNat m:=Int.eq_ofNat_of_zero_le s0
      have hsz2:sz≤20:=by rw[hsz]at s20;exact Int.ofNat_le.1 s20
      have tsz:(hdS (s.D.getD i 0)).toNat=sz:=by rw[hsz];rfl
      rw[tsz]at hc
      rw[hsz]
      generalize hkd:hdK (s.D.getD i 0)=kd at hc ⊢
      intro g3'
      have ok2:=ok.kp k2
      obtain⟨c1,w1⟩:=two_wr ok2 117 (.int .i64 0) (.int .i64 0) (.int .i64 (Int.ofNat sz)) (.int .i64 kd) rfl
      refine vreq_t c1 ?_
      intro g4
      have k4:Kp h2.nx h2 g4:=((Kp.refl _ h2).add (Nat.le_refl _) _).wr (Nat.le_refl _) _ _
      have n4:g4.nx=h2.nx+1:=by show(Hp.wr _ _ _ _).nx=_;rw[nx_wr,nx_add]
      refine⟨_,_,by rw[readAt_get w1 (by simp)];rfl,?_⟩
      obtain⟨v,h5,e5,rfl,k5⟩:=his g4 (Int.ofNat sz) kd
      have n2:=k2.nx
      have n5:=k5.nx
      have mnx:=m.nx
      have k05:Kp h.nx h h5:=(k2.trans (k4.le n2)).trans (k5.le (by omega))
      have m5:=m.kp P k05
      have md5:=md.trans (Mvd.kpn k05)
      have ok5:=ok.kp k05
      have gd5:=gd.of k05.gd
      have kp5:=kp.trans (k05.le kp.nx)
      have w5:h5.get h2.nx=_:=(k5.get _ (by omega)).trans w1
      refine⟨_,_,e5,vcond_split (fun h6=> ?_) fun h6=> ?_⟩
      · rw[if_pos h6]at hc
        obtain⟨s',h7,h8⟩:=Option.bind_eq_some_iff.1 hc
        rw[wrap_succ (by omega)]
        refine lp118_1 P hby (b9:=h2.nx) (by omega) (s2:=s') (by omega) (fun h9 ao9 no9 co9 ok9 gd9 kp9 m9 md9=>ih _ s' h9 ao9 no9 co9 h8 ok9 gd9 kp9 m9 md9) sz (i+1) s h5 ao no co h7 (by omega) ok5 gd5 kp5 m5 md5 (by omega) w5 fun off hh=> ?_
        rcases m.A with ⟨e,_⟩|⟨o,e,_,_,_,ho,_⟩
        · rw[e]at hh;cases hh
        · rw[e]at hh;injection hh with hh;injection hh with hh;omega
      · rw[if_neg (by rw[h6];exact Bool.false_ne_true)]at hc
        refine⟨_,read1 (i:=0) w5 rfl,?_⟩
        have w2:wrapF .i64 (Int.ofNat i+wrapF .i64 (1+Int.ofNat sz))=Int.ofNat (i+1+sz):=by
         rw[wrap64 (n:=1+Int.ofNat sz) (by simp;omega) (by simp;omega),wrap64 (by simp;omega) (by simp;omega)];simp;omega
        rw[w2]
        exact ih _ s h5 ao no co hc ok5 gd5 kp5 m5 md5
    · cases hc
  · rw[if_neg hit]at hc
    obtain rfl:=Option.some.inj hc
    exact vcond_f (by rw[ltI_nat];exact blt_f hit) (next h ao no co m md)
theorem ct118 {p:Pl}{g h:Hp}{W:List Int}(P:p.Ok g W){g2 g3:Nat}{fi2 ca2 fi3 ca3:Array Value}{by_:By}{isF:Int→Bool}(hby:ByOk O p g g3 fi3 ca3 by_)(his:IsOk O g2 fi2 ca2 isF){s s2:Mv}{ao:Option Addr}{no co:Nat}{i f:Nat}(hc:chgO isF by_ f i s=some s2)(ok:h.Ok)(gd:Gd p h)(kp:Kp g.nx g h)(m:MvAt p h s ao no co):
 Ret Tryz.prog O 118 [.pointer (some ⟨p.M,0,none⟩),.int .i64 (Int.ofNat i),.func (.func g2) fi2 ca2,.func (.func g3) fi3 ca3] h fun v' h'=>v'=undef∧ ∃ao' no' co',MvAt p h' s2 ao' no' co'∧Mvd p h h' ao ao':=by
 refine rk118 _ _ _ _ _ _ _ _ _ (hO _ _ _ (by decide)) ?_
 unfold T118
 exact lp118 hO P hby his (fun h' ao' no' co' m' md'=>⟨rfl,ao',no',co',m',md'⟩) f i s h ao no co hc ok gd kp m (.refl ..)
theorem is119:IsOk O 119 #[] #[] keepB:=fun h s k=>by
 obtain⟨q,h',e,hk⟩:=ct119 hO (h:=h) (s:=s) (k:=k) (K:=fun q h'=>q=keepB k∧Kp h.nx h h') fun h' k'=>⟨rfl,k'⟩
 exact⟨_,h',e,by rw[hk.1],hk.2⟩
theorem is120:IsOk O 120 #[] #[] (fun k=>k==5):=fun h s k=>by
 show Ret Tryz.prog O 120 [.agg #[.int .i64 s,.int .i64 k]] h _
 refine rk120 _ _ (hO _ _ _ (by decide)) ?_
 unfold T120
 intro g1
 refine⟨_,read1 (i:=1) (get_add_same ..) rfl,?_,(Kp.refl _ h).add (Nat.le_refl _) _⟩
 congr 1
 rw[Bool.eq_iff_iff,eqI_eq]
omit hO in
theorem dblIn {x n:Nat}(h:x≤n)(hn:n<1000000):In64 (2*(x:Int)):=⟨by omega,by omega⟩
omit hO in
theorem MvAt.tIn {p:Pl}{h:Hp}{s:Mv}{a:Option Addr}{n c:Nat}(m:MvAt p h s a n c)(i:Nat):s.T.getD i 0≤p.n:=by
 by_cases hi:i<s.T.length
 · rw[show s.T.getD i 0=s.T[i] by simp[List.getD,List.getElem?_eq_getElem hi]]
   exact m.bT _ (List.getElem_mem hi)
 · rw[show s.T.getD i 0=0 by simp[List.getD,List.getElem?_eq_none (Nat.le_of_not_lt hi)]]
   exact Nat.zero_le _
theorem by117 {p:Pl}{g:Hp}{W:List Int}(P:p.Ok g W):ByOk O p g 117 #[.pointer (some ⟨p.M,0,none⟩)] #[] (moveO W p.fr):=fun h s ao no co w s' v ok gd kp m hw hs=>by
 obtain⟨v',h',e,rfl,q⟩:=ct117 hO P ok gd (kp.ex (Nat.le_refl _)) m hw hs
 refine⟨_,h',e,rfl,?_,q⟩
 unfold moveO at hs
 split at hs
 · injection hs with hs;injection hs with e1 e2;subst e2;exact hw
 split at hs
 · injection hs with hs;injection hs with e1 e2;subst e2;exact hw
 split at hs
 · split at hs
   · injection hs with hs;injection hs with e1 e2;subst e2;exact dblIn (m.tIn _) P.n
   · split at hs
     · rename_i h5
       injection hs with hs;injection hs with e1 e2;subst e2
       have:=m.lD
       exact dblIn (n:=p.n) (by omega) P.n
     · cases hs
 · cases hs
theorem by121 {p:Pl}{g:Hp}{W:List Int}(P:p.Ok g W):ByOk O p g 121 #[.pointer (some ⟨p.M,0,none⟩)] #[] (weakO W p.fr):=fun h s ao no co w s' v ok gd kp m hw hs=>by
 obtain⟨v',h',e,rfl,rfl,rfl⟩:=ct121 hO P m hw hs
 refine⟨_,_,e,rfl,?_,_,_,_,m,.refl ..⟩
 unfold weakO at hs
 split at hs
 · injection hs with hs;injection hs with e1 e2;subst e2;exact hw
 split at hs
 · injection hs with hs;injection hs with e1 e2;subst e2;exact hw
 split at hs
 · injection hs with hs;injection hs with e1 e2;subst e2;exact dblIn (m.tIn _) P.n
 · cases hs
end
end Go.Proofs.YtngcjpkccnfjiaaGreatDoor
