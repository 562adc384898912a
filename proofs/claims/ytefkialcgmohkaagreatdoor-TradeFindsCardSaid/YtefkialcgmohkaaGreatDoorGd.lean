import Derived.Test.YtefkialcgmohkaaGreatDoorGc
set_option linter.unusedSimpArgs false
set_option linter.unusedVariables false
namespace Go.Proofs.YtefkialcgmohkaaGreatDoor
section
open Go Go.RowKit Go.Sort
theorem zzf {α:Type} [Inhabited α] (enc:α→List Value) (k:Nat) (hk:∀ x,(enc x).length=k):∀ (l:List α) (t:Nat),t<l.length * k→(l.flatMap enc)[t]! = (enc l[t / k]!)[t % k]!
  | [],t,h=>by simp at h
  | x::l,t,h=>by
    have hx:=hk x
    have k0 : 0 < k := by rcases Nat.eq_zero_or_pos k with e | e; · subst e; simp at h
                          · exact e
    rw [List.flatMap_cons]
    by_cases ht:t<k
    · rw [List.getElem!_eq_getElem?_getD,List.getElem?_append_left (by omega),Nat.div_eq_of_lt ht,Nat.mod_eq_of_lt ht]
      simp
    · have hl : t - k < l.length * k := by
        simp only [List.length_cons,Nat.add_mul,Nat.one_mul] at h; omega
      have ih:=zzf enc k hk l (t - k) hl
      have e1:t / k=(t - k) / k+1:=by
        have h2:=Nat.add_div_right (t - k) k0
        rw [Nat.sub_add_cancel (by omega)] at h2; exact h2
      have e2:t % k=(t - k) % k:=by rw [Nat.mod_eq_sub_mod (by omega)]
      rw [List.getElem!_eq_getElem?_getD,List.getElem?_append_right (by omega),hx,e1,e2,← List.getElem!_eq_getElem?_getD,ih]
      simp
theorem zqc {α:Type} (enc:α→List Value) (k:Nat) (hk:∀ x,(enc x).length=k):∀ l:List α,(l.flatMap enc).length=l.length * k
  | []=>by simp
  | x::l=>by rw [List.flatMap_cons,List.length_append,hk,zqc enc k hk l,List.length_cons,Nat.add_mul,Nat.one_mul,Nat.add_comm]
theorem zv0 {α:Type} [Inhabited α] (enc:α→List Value) (k:Nat) (hk:∀ x,(enc x).length=k) (l:List α):flatK enc k l.toArray=(l.flatMap enc).toArray:=by
  refine ext_get! (by rw [size_flatK]; simp only [List.size_toArray,zqc enc k hk]) fun t ht=>?_
  rw [size_flatK,List.size_toArray] at ht
  rw [get_flatK _ _ _ _ (by simpa using ht)]
  have:=zzf enc k hk l t ht
  simp at this ⊢
  rw [this]
theorem zpv {α:Type} [Inhabited α] (enc:α→List Value) (k:Nat) (hk:∀ x,(enc x).length=k) {w:World} {b:Nat} {C:Array Value} {T:TypeId} (l:List α) (hb:w.heap[b]? = some (.cells C T (0,0))) (hc:C.toList.take (l.length * k)=l.flatMap enc):HoldsK enc k w b 0 l.toArray:=by
  intro j hj
  rw [zv0 enc k hk] at hj ⊢
  have hj':j<(l.flatMap enc).length:=by simpa using hj
  constructor
  · refine zrb hb ?_
    have e:(C.toList.take (l.length * k))[j]? = (l.flatMap enc)[j]? := by rw [hc]
    rw [List.getElem?_take_of_lt (by rw [zqc enc k hk] at hj'; exact hj'),List.getElem?_eq_getElem hj'] at e
    rw [← Array.getElem?_toList,e]
    have:((l.flatMap enc).toArray)[j]! = (l.flatMap enc)[j]:=by rw [getElem!_pos _ j (by simpa using hj')]; simp
    rw [this]; rfl
  · simp [World.frozen?,hb]
theorem ztx {α:Type} [Inhabited α] (enc:α→List Value) (k:Nat) (w:World) (b n:Nat) (d:Array α) (os:Array Obj) {i:Nat} (hi:i<w.heap.size) (hne:i≠b):(sortWorldK enc k w b 0 n d os).heap[i]? = w.heap[i]? := by
  show (w.heap.modify b _++os)[i]? = _
  rw [Array.getElem?_append_left (by simpa using hi),Array.getElem?_modify,if_neg (fun e=>hne e.symm)]
theorem z11b {α:Type} [Inhabited α] (enc:α→List Value) (k:Nat) (w:World) {b:Nat} (n:Nat) (d:Array α) (os:Array Obj) {C:Array Value} {T:TypeId} {fr:Nat × Nat} (hb:w.heap[b]? = some (.cells C T fr)):(sortWorldK enc k w b 0 n d os).heap[b]? = some (.cells (putCells id 0 (flatK enc k d) C) T fr):=by
  have hlt:b<w.heap.size:=(Array.getElem?_eq_some_iff.1 hb).1
  show (w.heap.modify b _++os)[b]? = _
  rw [Array.getElem?_append_left (by simpa using hlt),Array.getElem?_modify,if_pos rfl,hb]
  rfl
theorem zyx {α:Type} [Inhabited α] (enc:α→List Value) (k:Nat) (hk:∀ x,(enc x).length=k) (l:List α) (C:Array Value) (hC:l.length * k≤C.size):(putCells id 0 (flatK enc k l.toArray) C).toList.take (l.length * k)=l.flatMap enc:=by
  rw [zv0 enc k hk]
  apply List.ext_getElem?
  intro t
  by_cases ht:t<l.length * k
  · rw [List.getElem?_take_of_lt ht,Array.getElem?_toList]
    have hl:t<(l.flatMap enc).length:=by rw [zqc enc k hk]; exact ht
    simp only [putCells,Array.getElem?_mapIdx,Nat.sub_zero,Nat.zero_add,List.size_toArray,Nat.zero_le,true_and]
    rw [Array.getElem?_eq_getElem (by omega),Option.map_some,if_pos hl,List.getElem?_eq_getElem hl]
    have:((l.flatMap enc).toArray)[t]! = (l.flatMap enc)[t]:=by rw [getElem!_pos _ t (by simpa using hl)]; simp
    rw [this]; rfl
  · rw [List.getElem?_eq_none (by simp; omega),List.getElem?_eq_none (by rw [zqc enc k hk]; omega)]
theorem zpg {S:Blk} {w:World}:∀ {l:List (Vector UInt8 32)} {cs:List Value},z7o (z06 32 u8R) S w cs l→cs=l.flatMap z8p
  | [],cs,h=>h
  | x::l,cs,h=>by
    obtain ⟨c,d,rfl,h1,h2⟩:=h
    rw [List.flatMap_cons,zpg h2,zm3 h1]; rfl
theorem zq8 {S:Blk} {w:World}:∀ (l:List (Vector UInt8 32)),z7o (z06 32 u8R) S w (l.flatMap z8p) l
  | []=>rfl
  | x::l=>⟨z8p x,l.flatMap z8p,List.flatMap_cons,zmg x.toList,zq8 l⟩
theorem zsz {P : Program} {f g T : Nat} (srt : List (Vector UInt8 32) → List (Vector UInt8 32)) (hlen : ∀ l, (srt l).length = l.length)
    (hnone:∀ (cap:Nat) (w:World),Calls P f #[.slice none 0 cap,.func (.func g) #[] #[]] w fun e w'=>e=.returned (.tuple #[])∧w'=w)
    (hsome:∀ (blk cap:Nat) (d:Array (Vector UInt8 32)) (w:World),HoldsK z8p 32 w blk 0 d→blk<w.heap.size→d.size<4611686018427387904 →
      Calls P f #[.slice (some ⟨blk,0,none⟩) d.size cap,.func (.func g) #[] #[]] w fun e w'=>e=.returned (.tuple #[])∧∃ n os,w'=sortWorldK z8p 32 w blk 0 n (srt d.toList).toArray os)
    (p0:Value) (c0:List (Vector UInt8 32)):z27 P f [.val p0,.val (.func (.func g) #[] #[])] [(1,some (p0,.list (z06 32 u8R) T c0))] (chk (c0.length≤1000000) >>= fun _=>some (srt c0))
      (fun r nv=>⟨[],[(1,some (p0,.list (z06 32 u8R) T r))]⟩):=by
  intro r hr H vs w hvs hres
  have hb:c0.length≤1000000∧r=srt c0:=by
    unfold chk at hr
    split at hr
    · rename_i h; simp at hr; exact ⟨h,hr.symm⟩
    · simp at hr
  obtain ⟨hlen0,rfl⟩:=hb
  match vs,hvs with
  | [v0,v1],hvs =>
  obtain ⟨h0,h1,_⟩:=hvs
  have e0:v0=p0:=h0.1
  have e1:v1=.func (.func g) #[] #[]:=h1.1
  subst e0; subst e1
  have hc:=hres.conts 1 v0 _ rfl
  have only:∀ r v c (q:z5w),lr [(1,some (v0,q))] r=some (v,c)→r=1∧v=v0∧c=q:=fun r v c q h=>by
    rw [z1x] at h
    split at h
    · rename_i e; cases h; exact ⟨e.symm,rfl,rfl⟩
    · simp [lr,lk] at h
  rcases hc with ⟨rfl,rfl⟩ | ⟨b,o,k1,k2,b',cap,C,k3,rfl,k4,k5,k6,k7⟩
  · refine (hnone 0 w).mono fun e w' ⟨he,hw⟩=>?_
    subst hw
    refine ⟨fun _=>undef,[],he,trivial, fun r v c h=>?_, fun r v c r' v' c' h h' hne=>?_, fun r v c h b hb=>?_,zld.rfl'⟩
    · obtain ⟨rfl,rfl,rfl⟩:=only _ _ _ _ h
      have:srt []=[]:=List.eq_nil_of_length_eq_zero (by rw [hlen]; rfl)
      exact .inl ⟨rfl,this⟩
    · exact absurd ((only _ _ _ _ h).1.trans (only _ _ _ _ h').1.symm) hne
    · obtain ⟨rfl,rfl,rfl⟩:=only _ _ _ _ h; cases hb
  · subst k3
    simp only [z5c,Option.some.injEq] at k1
    subst k1
    have hlt:b'<w.heap.size:=(Array.getElem?_eq_some_iff.1 k2).1
    have hrow:=zpg k7
    have hsz:(z06 32 u8R).sz=32:=rfl
    rw [hsz] at k6 hrow
    have hC:c0.length * 32≤C.size:=by rw [k6]; exact Nat.mul_le_mul_right _ k4
    refine (hsome b' cap c0.toArray w (zpv z8p 32 zev c0 k2 hrow) hlt (by simp; omega)).mono fun e w' ⟨he,n,os,hw⟩=>?_
    subst hw
    refine ⟨fun _=>undef,[],he,trivial, fun r v c h=>?_, fun r v c r' v' c' h h' hne=>?_, fun r v c h b hb=>?_,rfl,rfl,rfl,?_, fun i hi=>?_⟩
    · obtain ⟨rfl,rfl,rfl⟩:=only _ _ _ _ h
      refine .inr ⟨b',_,rfl,z11b z8p 32 w n _ os k2,b',cap,_, by rw [hlen],rfl, by rw [hlen]; exact k4,k5,?_,?_⟩
      · rw [hsz,← k6]; simp [putCells]
      · rw [hsz,zyx z8p 32 zev (srt c0) C (by rw [hlen]; exact hC)]
        exact zq8 _
    · exact absurd ((only _ _ _ _ h).1.trans (only _ _ _ _ h').1.symm) hne
    · obtain ⟨rfl,rfl,rfl⟩:=only _ _ _ _ h
      exact .inr ⟨1,_,_,rfl,hb⟩
    · show w.heap.size≤(w.heap.modify b' _++os).size
      simp
    · exact ztx z8p 32 w b' n _ os hi.1 fun e=>hi.2 ⟨1,_,_,rfl, by rw [e]; rfl⟩
end
section
open Go
section
variable {σ β α ρ τ:Type}
theorem bs (x:α) (f:α→Option β):(some x >>= f)=f x:=rfl
theorem bS (x:α) (f:α→Option β):(some x >>= f)=f x:=Eq.trans (rfl:(some x >>= f)=f x) rfl
theorem zy6 (r:ρ) (k:τ→Option ρ):z5p (some (.inl r)) k=some r:=rfl
theorem zqs (t:τ) (k:τ→Option ρ):z5p (some (.inr t)) k=k t:=rfl
theorem z2f {F:σ→Option (Sum β σ)} {s:σ} {b:β} (h:F s=some (.inl b)):iter F s=some b:=by rw [iter,h]; rfl
theorem z2t {F:σ→Option (Sum β σ)} {s s':σ} (h:F s=some (.inr s')):iter F s=iter F s':=by rw [iter,h]; rfl
theorem zba {F:σ→Option (Sum β σ)} (I:σ→Prop) (μ:σ→Nat) (Q:β→Prop) (h:∀ s,I s→(∃ b,F s=some (.inl b)∧Q b)∨∃ s',F s=some (.inr s')∧I s'∧μ s'<μ s) (s:σ) (hs:I s):∃ b,iter F s=some b∧Q b:=by
 have key:∀ n s,μ s=n→I s→∃ b,iter F s=some b∧Q b:=by
  intro n
  induction n using Nat.strongRecOn with
  | _ n ih =>
   intro s hn hs
   rcases h s hs with ⟨b,h1,h2⟩ | ⟨s',h1,h2,h3⟩
   ·
    exact ⟨b,z2f h1,h2⟩
   ·
    rw [z2t h1]; exact ih (μ s') (hn ▸ h3) s' rfl h2
 exact key _ s rfl hs
theorem z8i {F:σ→Option (Sum β σ)} (n:Nat) (I:Nat→σ→Prop) (Q:β→Prop) (h1:∀ i s,i<n→I i s→∃ s',F s=some (.inr s')∧I (i+1) s') (h2:∀ s,I n s→∃ b,F s=some (.inl b)∧Q b) (s:σ) (i:Nat) (hi:i≤n) (hs:I i s):∃ b,iter F s=some b∧Q b:=by
 have key:∀ k i s,n - i=k→i≤n→I i s→∃ b,iter F s=some b∧Q b:=by
  intro k
  induction k with
  | zero =>
   intro i s hk hi hs
   have:i=n:=by omega
   subst this
   obtain ⟨b,h3,h4⟩:=h2 s hs
   exact ⟨b,z2f h3,h4⟩
  | succ k ih =>
   intro i s hk hi hs
   obtain ⟨s',h3,h4⟩:=h1 i s (by omega) hs
   rw [z2t h3]; exact ih (i+1) s' (by omega) (by omega) h4
 exact key _ i s rfl hi hs
theorem z34 {F:σ→Option (Sum β σ)} (n:Nat) (g:Nat→σ) {b:β} (h1:∀ i,i<n→F (g i)=some (.inr (g (i+1)))) (h2:F (g n)=some (.inl b)):iter F (g 0)=some b:=by
 obtain ⟨b',h3,rfl⟩:=z8i n (fun i s=>s=g i) (fun x=>x=b) (fun i s hi hs=>⟨_, by rw [hs]; exact h1 i hi,rfl⟩) (fun s hs=>⟨_, by rw [hs]; exact h2,rfl⟩) (g 0) 0 (Nat.zero_le _) rfl
 exact h3
theorem z0l {l:List α} {i:Nat} (h:i<l.length):idx l (i:Int)=some l[i]:=by simp [idx,h]
theorem z10x {l:List α} {i:Int} (h0:0≤i) (h:i.toNat<l.length):idx l i=some l[i.toNat]:=by simp [idx,h0,h]
theorem zah {n:Nat} {v:Vector α n} {i:Nat} (h:i<n):z86 v (i:Int)=some v[i]:=by unfold z86; rw [z0l (by simpa using h)]; simp
theorem zjh {n:Nat} {v:Vector α n} {i:Int} {x:α} {j:Nat} (hj:j<n):(zjn v i x)[j]=if i.toNat=j then x else v[j]:=by
 unfold zjn; rw [Vector.getElem_setIfInBounds hj]
theorem z3q {p:Prop} [Decidable p] (h:p):chk p=some ():=by simp [chk,h]
theorem z1y {by_:Nat} {b c:List α} (h:(b.length+c.length) * by_≤140737488355328):app by_ b c=some (b++c):=by simp [app,h]
theorem zix {by_:Nat} {x:α} {n:Nat} (h:by_ * n≤281474976710656) (h2:n≤9223372036854775807):mkn by_ x (n:Int)=some (List.replicate n x):=by
 unfold mkn; rw [if_pos ⟨by omega, by simpa using h, by omega⟩]; simp
theorem zdu {b:List α} {i j:Nat} (h:i≤j) (hj:j≤b.length):cut b (i:Int) (j:Int)=some ((b.drop i).take (j - i)):=by
 unfold cut; rw [if_pos ⟨by omega, by omega, by omega⟩]; simp
end
theorem z1j {x:Int} (h1:-9223372036854775808≤x) (h2:x≤9223372036854775807):w64 x=x:=zgk h1 h2
theorem z0t {n:Nat} (h:n<9223372036854775807):w64 ((n:Int)+1)=((n+1:Nat):Int):=by rw [z1j (by omega) (by omega)]; omega
theorem zd5 (a:UInt64) (n:Nat):(z85 a n).toNat=a.toNat / 2 ^ (min n 64):=by
 unfold z85
 have h1:=UInt64.toNat_lt a
 have h2:a.toNat / 2 ^ (min n 64)≤a.toNat:=Nat.div_le_self _ _
 simp; omega
theorem zm5 (a:UInt64) (n:Nat):(zom a n).toNat=a.toNat * 2 ^ (min n 64) % 18446744073709551616:=by
 unfold zom; simp
theorem z137 (a:UInt64) (k:Nat) (hk:k<64):((z85 a k &&& 1)==1)=a.toNat.testBit k:=by
 rw [Bool.eq_iff_iff,beq_iff_eq,← UInt64.toNat_inj,UInt64.toNat_and,zd5,Nat.min_eq_left (by omega)]
 have:(1:UInt64).toNat=1:=rfl
 rw [this,Nat.and_one_is_mod,Nat.testBit_eq_decide_div_mod_eq]
 simp
end
section
open Go
def z7p (n:Nat):Nat:=if n=0 then 0 else n.log2+1
theorem ze4 (n k:Nat) (h:2 ^ k≤n):z7p n=k+z7p (n / 2 ^ k):=by
 have hp:0<2 ^ k:=Nat.pow_pos (by decide)
 have h1:n / 2 ^ k≠0:=by
  have:1≤n / 2 ^ k:=(Nat.le_div_iff_mul_le hp).2 (by rw [Nat.one_mul]; exact h)
  omega
 have h2:n≠0:=by omega
 unfold z7p
 rw [if_neg h1,if_neg h2]
 have h3:n.log2=k+(n / 2 ^ k).log2:=by
  rw [Nat.log2_eq_iff h2]
  have h4:=(Nat.log2_eq_iff h1).1 rfl
  refine ⟨?_,?_⟩
  ·
   rw [Nat.pow_add,Nat.mul_comm]; exact (Nat.le_div_iff_mul_le hp).1 h4.1
  ·
   rw [Nat.add_assoc,Nat.pow_add,Nat.mul_comm]; exact (Nat.div_lt_iff_lt_mul hp).1 h4.2
 omega
theorem zje (n k:Nat) (h:n<2 ^ k):z7p n≤k:=by
 unfold z7p; split
 ·
  omega
 ·
  rename_i h0; have:=(Nat.log2_lt h0).2 h; omega
def zue:ByteArray:=⟨#[0,1,2,2,3,3,3,3,4,4,4,4,4,4,4,4,5,5,5,5,5,5,5,5,5,5,5,5,5,5,5,5,6,6,6,6,6,6,6,6,6,6,6,6,6,6,6,6,6,6,6,6,6,6,6,6,6,6,6,6,6,6,6,6,7,7,7,7,7,7,7,7,7,7,7,7,7,7,7,7,7,7,7,7,7,7,7,7,7,7,7,7,7,7,7,7,7,7,7,7,7,7,7,7,7,7,7,7,7,7,7,7,7,7,7,7,7,7,7,7,7,7,7,7,7,7,7,7,8,8,8,8,8,8,8,8,8,8,8,8,8,8,8,8,8,8,8,8,8,8,8,8,8,8,8,8,8,8,8,8,8,8,8,8,8,8,8,8,8,8,8,8,8,8,8,8,8,8,8,8,8,8,8,8,8,8,8,8,8,8,8,8,8,8,8,8,8,8,8,8,8,8,8,8,8,8,8,8,8,8,8,8,8,8,8,8,8,8,8,8,8,8,8,8,8,8,8,8,8,8,8,8,8,8,8,8,8,8,8,8,8,8,8,8,8,8,8,8,8,8,8,8,8,8,8,8]⟩
set_option maxRecDepth 100000 in
theorem zyi:∀ x:Fin 256,zue.data[x.val]? = some (UInt8.ofNat (z7p x.val)):=by decide +kernel
def z3m (n:Nat):List UInt8:=if h:n=0 then [] else UInt8.ofNat n::z3m (n / 256)
termination_by n
theorem zhv:z3m 0=[]:=by rw [z3m]; simp
theorem zk8 (n:Nat) (h:n≠0):z3m n=UInt8.ofNat n::z3m (n / 256):=by rw [z3m]; simp [h]
def z2k (n:Nat):List UInt8:=if n≤247 then [UInt8.ofNat n] else UInt8.ofNat (247+(z3m n).length)::(z3m n).reverse
theorem zni (n:Nat):(z3m n).length=(z7p n+7) / 8:=by
 induction n using Nat.strongRecOn with
 | _ n ih =>
  by_cases h:n=0
  ·
   subst h; rw [zhv]; simp [z7p]
  ·
   rw [zk8 n h,List.length_cons,ih (n / 256) (by omega)]
   by_cases h2:n<256
   ·
    have:n / 256=0:=by omega
    rw [this]
    have h3:z7p n≤8:=zje n 8 h2
    have h4:1≤z7p n:=by unfold z7p; rw [if_neg h]; omega
    simp [z7p] at h3 h4 ⊢
    rw [if_neg h] at h3 h4 ⊢; omega
   ·
    have:=ze4 n 8 (by omega)
    rw [show (2:Nat) ^ 8=256 from rfl] at this
    omega
theorem zt5 (n:Nat):∀ (i:Nat),i<(z3m n).length→(z3m n)[i]? = some (UInt8.ofNat (n / 256 ^ i)):=by
 induction n using Nat.strongRecOn with
 | _ n ih =>
  intro i hi
  by_cases h:n=0
  ·
   subst h; rw [zhv] at hi; simp at hi
  ·
   rw [zk8 n h] at hi ⊢
   cases i with
   | zero=>simp
   | succ i =>
    simp only [List.length_cons] at hi
    rw [List.getElem?_cons_succ,ih (n / 256) (by omega) i (by omega),Nat.div_div_eq_div_mul]
    congr 3
    rw [Nat.pow_succ,Nat.mul_comm]
theorem zm2 (n:Nat) (h:n<18446744073709551616):(z3m n).length≤8:=by
 rw [zni]; have:=zje n 64 (by simpa using h); omega
theorem z17 (n:Nat) (h:n<18446744073709551616):1≤(z2k n).length∧(z2k n).length≤9:=by
 unfold z2k; have:=zm2 n h; split <;> simp <;> omega
def zco (n i:Nat):List UInt8:=UInt8.ofNat (247+(z3m n).length)::(List.replicate ((z3m n).length - i) 0++((z3m n).take i).reverse)
theorem zrh (n i:Nat) (h:i≤(z3m n).length):(zco n i).length=(z3m n).length+1:=by simp [zco]; omega
theorem zpr (n:Nat):(List.replicate ((z3m n).length+1) (0:UInt8)).set 0 (UInt8.ofNat (247+(z3m n).length))=zco n 0:=by
 simp [zco,List.replicate_succ]
theorem zov (n i:Nat) (h:i<(z3m n).length):(zco n i).set ((z3m n).length - i) (UInt8.ofNat (n / 2 ^ (8 * i)))=zco n (i+1):=by
 have hg:=zt5 n i h
 have he:n / 2 ^ (8 * i)=n / 256 ^ i:=by rw [Nat.pow_mul]
 rw [he]
 unfold zco
 obtain ⟨m,hm⟩:∃ m,(z3m n).length - i=m+1:=⟨(z3m n).length - i - 1, by omega⟩
 have hm2:(z3m n).length - (i+1)=m:=by omega
 rw [hm,hm2,List.set_cons_succ,List.take_succ_eq_append_getElem h,List.reverse_append,List.reverse_singleton,List.replicate_succ']
 rw [List.getElem?_eq_getElem h,Option.some.injEq] at hg
 rw [hg,List.append_assoc,List.set_append_right _ _ (by simp)]
 simp
theorem zpf (n:Nat) (h:247<n):zco n (z3m n).length=z2k n:=by
 unfold zco z2k; rw [if_neg (by omega)]; simp
theorem zqq (n m:Nat) (ds:List UInt8) (hm:m≠0) (h:z3m n=ds++z3m m):z3m n=(ds++[UInt8.ofNat (m % 256)])++z3m (m / 256):=by
 rw [h,zk8 m hm,List.append_assoc]
 have:UInt8.ofNat (m % 256)=UInt8.ofNat m:=by
  apply UInt8.toNat_inj.1; simp
 rw [this]; rfl
theorem zmy {α} {l a b:List α} (h:l=a++b):a.length≤l.length:=by rw [h]; simp
def zig (n:Int):Nat:=if 0≤n then (2 * n).toNat else (-2 * n - 1).toNat
theorem z12n {n:Int} (h1:-9223372036854775808≤n) (h2:n≤9223372036854775807):zig n<18446744073709551616:=by unfold zig; split <;> omega
end
section
open Go Go.RowKit
def zkw (x:z0b):Prop:=(fun _=>True) x.Kind∧inI x.Num∧(fun _=>True) x.Bits∧(fun s:List UInt8=>s.length≤9223372036854775807) x.Text∧True
def zne (x:z1u):Prop:=(fun _=>True) x.Kind∧(fun s:List UInt8=>s.length≤9223372036854775807) x.Key∧zkw x.Value∧True
def znj (x:z0u):Prop:=(fun _=>True) x.E∧(fun _=>True) x.S∧True
def zqj (x:z0g):Prop:=(fun _=>True) x.Author∧(fun l:List (Vector UInt8 32)=>(∀ x∈l,(fun v:Vector UInt8 32=>∀ x∈v.toList,(fun _=>True) x) x)∧l.length≤9223372036854775807) x.Preds∧(fun _=>True) x.Stamp∧zne x.Act∧znj x.Sig∧True
def z3g (x:z01):Prop:=(fun l:List (Vector UInt8 32)=>(∀ x∈l,(fun v:Vector UInt8 32=>∀ x∈v.toList,(fun _=>True) x) x)∧l.length≤9223372036854775807) x.IDs∧(fun l:List z0g=>(∀ x∈l,zqj x)∧l.length≤9223372036854775807) x.Ops∧True
end
section
open Go
theorem zxh {n k:Nat} (hn:n<9223372036854775808) (hk:k<9223372036854775808):andI (n:Int) (k:Int)=((n &&& k:Nat):Int):=by
 show IntKind.i64.wrap (BitVec.toNat (BitVec.ofInt 64 (n:Int) &&& BitVec.ofInt 64 (k:Int)):Int)=_
 rw [BitVec.ofInt_natCast,BitVec.ofInt_natCast,BitVec.toNat_and,BitVec.toNat_ofNat,BitVec.toNat_ofNat,Nat.mod_eq_of_lt (by omega),Nat.mod_eq_of_lt (by omega)]
 have:=Nat.and_le_left (n:=n) (m:=k)
 exact zgk (by omega) (by omega)
def okb (c:UInt8):Bool:=decide (32≤c.toNat)&&decide (c.toNat≤126)
theorem znz {b:List UInt8} {q:Nat} (h:q<b.length) (ha:(b[q]).toNat<128):za7 b q=((b[q]).toNat,1):=by
 unfold za7
 exact decode_ascii ⟨b.toArray⟩ q (by show q<b.toArray.size; simpa using h) ha
theorem zvr {b:List UInt8} {q:Nat} (h:q<b.length) (ha:128≤(b[q]).toNat):128≤(za7 b q).1:=by
 unfold za7
 have e:((ByteArray.mk b.toArray).get! (q+0)).toNat=(b[q]).toNat:=by
  show ((ByteArray.mk b.toArray).get! q).toNat=_
  simp [ByteArray.get!,h]
 simp only [Utf8.decode,e]
 rw [if_neg (by omega)]
 repeat' split
 all_goals (first | (simp only [Utf8.runeError]; omega) | (rename_i h1; simp at h1; omega) | omega)
theorem zy4 (x:Int):ze2 x=some (decide (x<32) || decide (126<x)):=by
 unfold ze2
 cases decide (x<32) <;> rfl
theorem zse (b:List UInt8):∀ (rest pre:List UInt8),b=pre++rest →
  (rest.all okb=true→iter (z20 b true) pre.length=some (.inr ()))∧(rest.all okb=false→∃ i:Nat,iter (z20 b true) pre.length=some (.inl (i:Int)))
 | [],pre,e=>by
  refine ⟨fun _=>z2f ?_, fun h=>by simp at h⟩
  subst e
  unfold z20
  simp
 | c::rest,pre,e=>by
  have hlen:pre.length<b.length:=by rw [e]; simp
  have hget:b[pre.length]'hlen=c:=by subst e; simp
  have hF:z20 b true pre.length=if ((decide (((za7 b pre.length).1:Int)<32) || decide (126<((za7 b pre.length).1:Int)))==true) then some (.inl (.inl (pre.length:Int))) else some (.inr (pre.length+(za7 b pre.length).2)):=by
   unfold z20
   rw [if_pos hlen]
   simp only [bs,zy4]
  cases hc:okb c with
  | false =>
   refine ⟨fun h=>by simp [hc] at h, fun _=>⟨pre.length,z2f ?_⟩⟩
   rw [hF,if_pos]
   by_cases h8:c.toNat<128
   ·
    rw [znz hlen (by rw [hget]; exact h8),hget]
    simp only [okb,Bool.and_eq_false_iff,decide_eq_false_iff_not] at hc
    simp; omega
   ·
    have:=zvr hlen (by rw [hget]; omega)
    simp; omega
  | true =>
   simp only [okb,Bool.and_eq_true,decide_eq_true_eq] at hc
   rw [znz hlen (by rw [hget]; omega),hget,if_neg (by simp; omega)] at hF
   have ih:=zse b rest (pre++[c]) (by simp [e])
   simp only [List.length_append,List.length_cons,List.length_nil,Nat.zero_add] at ih
   rw [z2t hF]
   have hc':okb c=true:=by simp [okb,hc]
   simpa [hc'] using ih
theorem zkr (b:List UInt8) (hb:b.length≤9223372036854775807):∀ (rest pre:List UInt8),b=pre++rest→iter (z4f b) (pre.length:Int)=some (if rest.all okb then .inr () else .inl false)
 | [],pre,e=>by
  refine z2f ?_
  subst e
  unfold z4f
  simp
 | c::rest,pre,e=>by
  have hlen:pre.length<b.length:=by rw [e]; simp
  have hget:b[pre.length]'hlen=c:=by subst e; simp
  have hF:z4f b (pre.length:Int)=if okb c then some (.inr ((pre.length+1:Nat):Int)) else some (.inl (.inl false)):=by
   unfold z4f
   rw [if_pos (by simp <;> omega)]
   simp only [z0l hlen,hget,bs,z0t (show pre.length<9223372036854775807 by omega)]
   simp only [okb,UInt8.lt_iff_toNat_lt,UInt8.reduceToNat]
   by_cases h1:c.toNat<32
   ·
    have:¬ 32≤c.toNat:=by omega
    simp [h1,this]
   ·
    by_cases h2:126<c.toNat
    ·
     have:¬ c.toNat≤126:=by omega
     simp [h1,h2,this]
    ·
     have h3:32≤c.toNat:=by omega
     have h4:c.toNat≤126:=by omega
     simp [h1,h2,h3,h4]
  cases hc:okb c with
  | false=>rw [hc] at hF; rw [z2f hF]; simp [hc]
  | true =>
   rw [hc] at hF
   rw [z2t hF]
   have ih:=zkr b hb rest (pre++[c]) (by simp [e])
   simp only [List.length_append,List.length_cons,List.length_nil,Nat.zero_add] at ih
   rw [ih]; simp [hc]
theorem zpo (b:List UInt8) (hb:b.length≤9223372036854775807):z7r b=some (b.all okb):=by
 have h:=zkr b hb b [] rfl
 unfold z7r
 rw [show (0:Int)=(([]:List UInt8).length:Int) from rfl,h]
 cases b.all okb <;> rfl
theorem zxo (b:List UInt8) (hb:b.length≤9223372036854775807):zgt b=some (if decide (30<(b.length:Int)) then (⟨0,0,0,[]⟩,4) else if b.all okb then (⟨3,0,0,b⟩,0) else (⟨0,0,0,[]⟩,8)):=by
 unfold zgt z4v z4t
 cases decide (30<(b.length:Int))
 ·
  simp only [Bool.false_eq_true,if_false]
  obtain ⟨h1,h2⟩:=zse b b [] rfl
  simp only [List.length_nil] at h1 h2
  cases h:b.all okb
  ·
   obtain ⟨i,hi⟩:=h2 h
   rw [hi]
   simp only [zy6,bs]
   rw [if_pos (by simp)]; rfl
  ·
   rw [h1 h]; rfl
 ·
  rfl
theorem zz1 (a:UInt64):zey a=some (((a.toNat / 4503599627370496 % 2048:Nat):Int),a % 4503599627370496):=by
 unfold zey
 simp only [bs]
 have h0:=UInt64.toNat_lt a
 rw [zd5]
 have e1:(2:Nat) ^ (min 52 64)=4503599627370496:=by decide
 rw [e1,z1j (by omega) (by omega), show (2047:Int)=((2047:Nat):Int) from rfl,zxh (by omega) (by omega)]
 congr 2
 ·
  congr 1
  exact Nat.and_two_pow_sub_one_eq_mod _ 11
 ·
  apply UInt64.toNat_inj.1
  rw [UInt64.toNat_and,UInt64.toNat_mod]
  exact Nat.and_two_pow_sub_one_eq_mod _ 52
theorem z12q (a:UInt64):z8k a=some ((a.toNat / 4503599627370496 % 2048:Nat):Int):=by
 unfold z8k
 have h0:=UInt64.toNat_lt a
 simp only [bs,UInt64.toNat_div,UInt64.toNat_mod,UInt64.reduceToNat]
 rw [z1j (by omega) (by omega)]
 congr 2
 omega
def zrc (a:UInt64):Nat:=a.toNat / 4503599627370496 % 2048
def zxa (a:UInt64):Nat:=a.toNat % 4503599627370496
theorem z10z (a:UInt64):zrc a<2048:=Nat.mod_lt _ (by omega)
def clsF (a:UInt64):UInt8:=if zrc a=2047 then (if zxa a=0 then 4 else 5) else if zrc a=0 then (if zxa a=0 then 1 else 2) else 3
theorem zzo (a:UInt64):(a % 4503599627370496==0)=decide (zxa a=0):=by
 rw [Bool.eq_iff_iff]
 simp only [beq_iff_eq,decide_eq_true_eq,← UInt64.toNat_inj,UInt64.toNat_mod]
 rfl
theorem zvd (a:UInt64):zfo a=some (clsF a):=by
 unfold zfo clsF
 rw [zz1]
 simp only [bs]
 have hm:=zzo a
 have hne:(a % 4503599627370496 != 0)=!decide (zxa a=0):=by rw [← hm]; rfl
 have he:((a.toNat / 4503599627370496 % 2048:Nat):Int)=(zrc a:Int):=rfl
 rw [hne,he]
 by_cases h1:zrc a=2047
 ·
  rw [h1]
  by_cases h2:zxa a=0
  ·
   rw [decide_eq_true h2,if_pos h2]; rfl
  ·
   rw [decide_eq_false h2,if_neg h2]; rfl
 ·
  have e1:((zrc a:Int)==2047)=false:=by simp; omega
  rw [if_neg h1,e1]
  simp only [Bool.false_eq_true,if_false,bs]
  by_cases h0:zrc a=0
  ·
   rw [h0]
   by_cases h2:zxa a=0
   ·
    rw [decide_eq_true h2,if_pos h2]; rfl
   ·
    rw [decide_eq_false h2,if_neg h2]; rfl
  ·
   have e0:((zrc a:Int) != 0)=true:=by simp; omega
   rw [e0,if_neg h0]; rfl
theorem zve (a:UInt64):zaw a=some (clsF a):=by
 unfold zaw zb1 clsF
 rw [z12q]
 simp only [bs]
 rw [zzo a]
 have hx:=z10z a
 show z5p (if ((zrc a:Int)==0)=true then if decide (zxa a=0)=true then some (.inl 1) else some (.inr ()) else some (.inr ())) (fun s5=>if ((zrc a:Int)==0)=true then some 2 else if decide ((zrc a:Int)<2047)=true then some 3 else if decide (zxa a=0)=true then some 4 else some 5)=_
 by_cases h1:zrc a=2047
 ·
  rw [h1]
  by_cases h2:zxa a=0 <;> simp [h2,zqs,zy6]
 ·
  by_cases h0:zrc a=0
  ·
   rw [h0]
   by_cases h2:zxa a=0 <;> simp [h2,zqs,zy6]
  ·
   have e0:((zrc a:Int)==0)=false:=by simp; omega
   have e2:decide ((zrc a:Int)<2047)=true:=by simp; omega
   rw [e0,e2,if_neg h1,if_neg h0]; rfl
def zjv (a:UInt64):UInt64:=if clsF a=5 then 9221120237041090560 else a
theorem zuo (a:UInt64):zff a=some (zjv a):=by
 unfold zff zjv
 rw [zvd]
 simp only [bs]
 by_cases h:clsF a=5 <;> simp [h]
theorem zvv (a:UInt64):zak a=some (zjv a):=by
 unfold zak zjv
 rw [zve]
 simp only [bs]
 by_cases h:clsF a=5 <;> simp [h]
theorem zui (a:UInt64):zf5 a=some ⟨2,0,zjv a,[]⟩:=by
 unfold zf5; rw [zuo]; rfl
def okV (v:z0b):Bool :=
 if v.Kind=1 then decide (v.Bits=0)&&decide (v.Text=[])
 else if v.Kind=2 then decide (v.Num=0)&&decide (v.Text=[])&&decide (zjv v.Bits=v.Bits)
 else if v.Kind=3 then decide (v.Num=0)&&decide (v.Bits=0)&&decide (v.Text.length≤30)&&v.Text.all okb
 else false
theorem zus (v:z0b) (hb:v.Text.length≤9223372036854775807):zaq v=some (if okV v then 0 else 8):=by
 obtain ⟨K,n,f,t⟩:=v
 unfold zaq okV
 simp only at hb ⊢
 rw [zvv,zpo t hb]
 by_cases h1:K=1
 ·
  subst h1
  by_cases hf:f=0 <;> by_cases ht:t=[] <;> simp [hf,ht]
 by_cases h2:K=2
 ·
  subst h2
  by_cases hn:n=0 <;> by_cases ht:t=[] <;> by_cases hc:zjv f=f <;> simp [hn,ht,hc,bs]
 by_cases h3:K=3
 ·
  subst h3
  by_cases hl:t.length≤30
  ·
   have hl':(t.length:Int)≤30:=by omega
   by_cases hn:n=0 <;> by_cases hf:f=0 <;> cases t.all okb <;> simp [hn,hf,hl,hl',bs]
  ·
   have hl':¬ (t.length:Int)≤30:=by omega
   by_cases hn:n=0 <;> by_cases hf:f=0 <;> simp [hn,hf,hl,hl',bs]
 ·
  simp [h1,h2,h3]
theorem zpi (v:z0b) (hb:v.Text.length≤9223372036854775807):zdi v=some (if okV v then 0 else 8):=by
 obtain ⟨K,n,f,t⟩:=v
 unfold zdi zgl okV
 simp only at hb ⊢
 rw [zui,zxo t hb]
 by_cases h1:K=1
 ·
  subst h1
  by_cases hf:f=0 <;> by_cases ht:t=[] <;> simp [hf,ht,bs]
 by_cases h2:K=2
 ·
  subst h2
  by_cases hc:zjv f=f
  ·
   by_cases hn:n=0 <;> by_cases ht:t=[] <;> simp [hn,ht,hc,bs]
  ·
   have hc':¬ f=zjv f:=fun e=>hc e.symm
   by_cases hn:n=0 <;> by_cases ht:t=[] <;> simp [hn,ht,hc,hc',bs]
 by_cases h3:K=3
 ·
  subst h3
  by_cases hl:30<(t.length:Int)
  ·
   have h4:¬ t.length≤30:=by omega
   rw [decide_eq_true hl,decide_eq_false h4]
   simp [bs]
  ·
   have h4:t.length≤30:=by omega
   rw [decide_eq_false hl,decide_eq_true h4]
   cases t.all okb <;> by_cases hn:n=0 <;> by_cases hf:f=0 <;> simp [hn,hf,bs]
 ·
  have e1:(K==1)=false:=by simpa using h1
  have e2:(K==2)=false:=by simpa using h2
  have e3:(K==3)=false:=by simpa using h3
  simp only [e1,e2,e3,Bool.false_eq_true,if_false,bs,h1,h2,h3]
  by_cases h0:K=0
  ·
   subst h0
   split <;> rfl
  ·
   simp [h0]
end
section
open Go
theorem zu8:∀ (n:Nat) (a:UInt64) (ds:List UInt8) (N:Nat),a.toNat=n→z3m N=ds++z3m n→(z3m N).length≤8→iter z5g (a,ds)=some (z3m N):=by
 intro n
 induction n using Nat.strongRecOn with
 | _ n ih =>
  intro a ds N ha hd hl
  by_cases h0:n=0
  ·
   subst h0
   refine z2f ?_
   unfold z5g
   rw [if_neg (by simp [UInt64.lt_iff_toNat_lt,ha])]
   rw [zhv,List.append_nil] at hd
   rw [hd]
  ·
   have hF:z5g (a,ds)=some (.inr (a / 256,ds++[(a % 256).toUInt8])):=by
    unfold z5g
    rw [if_pos (by simp [UInt64.lt_iff_toNat_lt,ha]; omega)]
    have:ds.length≤8:=Nat.le_trans (zmy hd) hl
    simp only [z1y (show (ds.length+[(a % 256).toUInt8].length) * 1≤140737488355328 by simp; omega),bs]
   rw [z2t hF]
   have hd2:=zqq N n ds h0 hd
   refine ih (n / 256) (Nat.div_lt_self (by omega) (by omega)) _ _ N ?_ ?_ hl
   ·
    simp [ha]
   ·
    rw [hd2]
    congr 2
    congr 1
    apply UInt8.toNat_inj.1
    simp [ha]
theorem zp9 (s:List UInt8) (hl:s.length≤8):∀ (i:Nat) (acc:List UInt8),i≤s.length→acc.length+i≤100→iter (z5l s) (acc,(i:Int) - 1)=some (acc++(s.take i).reverse)
 | 0,acc,_,_=>by
  refine z2f ?_
  unfold z5l
  rw [if_neg (by simp)]; simp
 | i+1,acc,hi,ha=>by
  have hlt:i<s.length:=by omega
  have e:((i+1:Nat):Int) - 1=(i:Int):=by omega
  have hF:z5l s (acc,((i+1:Nat):Int) - 1)=some (.inr (acc++[s[i]],(i:Int) - 1)):=by
   unfold z5l
   rw [e,if_pos (by simp)]
   simp only [z0l hlt,bs]
   rw [z1y (by simp; omega)]
   simp only [bs,z1j (show -9223372036854775808≤(i:Int) - 1 by omega) (by omega)]
  rw [z2t hF,zp9 s hl i _ (by omega) (by simp; omega)]
  have:List.take (i+1) s=List.take i s++[s[i]]:=by rw [List.take_add_one,List.getElem?_eq_getElem hlt]; rfl
  rw [this]; simp only [List.reverse_append,List.reverse_cons,List.reverse_nil,List.nil_append,List.append_assoc]
theorem z6y (a:UInt64):z21 a=some (z2k a.toNat):=by
 unfold z21 z2k
 have h0:=UInt64.toNat_lt a
 by_cases h:a.toNat≤247
 ·
  have h':decide (a≤247)=true:=by simpa [UInt64.le_iff_toNat_le] using h
  rw [if_pos h',if_pos h]
  congr 2
 ·
  have h':¬ decide (a≤247)=true:=by simpa [UInt64.le_iff_toNat_le] using h
  rw [if_neg h',if_neg h]
  have hd:=zm2 a.toNat h0
  rw [zu8 a.toNat a [] a.toNat rfl rfl hd]
  simp only [bs]
  rw [z1j (show -9223372036854775808≤((z3m a.toNat).length:Int) - 1 by omega) (by omega),z1j (show -9223372036854775808≤247+((z3m a.toNat).length:Int) by omega) (by omega)]
  rw [zp9 _ hd _ _ (Nat.le_refl _) (by simp; omega)]
  simp only [bs,List.take_length]
  rw [show (247+((z3m a.toNat).length:Int))=((247+(z3m a.toNat).length:Nat):Int) by omega]
  congr 1
  show _::_=_
  congr 1
  apply UInt8.toNat_inj.1
  simp [UInt8.ofInt]
  omega
theorem ztl (a:UInt64) (k:Nat) (hk:k=(z3m a.toNat).length) (hk8:k≤8):iter (zc9 a (k:Int)) (zco a.toNat 0,0)=some (zco a.toNat k):=by
 refine z34 k (fun i=>(zco a.toNat i,(i:Int))) (fun i hi=>?_) ?_
 ·
  have hf:=zrh a.toNat i (by omega)
  unfold zc9
  rw [if_pos (by simp; omega)]
  simp only [z1j (show -9223372036854775808≤8 * (i:Int) by omega) (by omega),z3q (show (0:Int)≤8 * (i:Int) by omega),bs,z1j (show -9223372036854775808≤(k:Int) - (i:Int) by omega) (by omega),z0t (show i<9223372036854775807 by omega)]
  rw [z10x (by omega) (by omega)]
  simp only [bs]
  have:=zov a.toNat i (by omega)
  rw [← this]
  have e1:((k:Int) - (i:Int)).toNat=(z3m a.toNat).length - i:=by omega
  have e2:(z85 a (8 * (i:Int)).toNat).toUInt8=UInt8.ofNat (a.toNat / 2 ^ (8 * i)):=by
   apply UInt8.toNat_inj.1
   have e3:(8 * (i:Int)).toNat=8 * i:=by omega
   rw [e3]
   simp only [UInt64.toNat_toUInt8,zd5,Nat.min_eq_left (show 8 * i≤64 by omega)]
   simp
  rw [e1,e2]
 ·
  unfold zc9
  rw [if_neg (by simp)]
theorem zgu (a:UInt64) (k:Nat) (hk:k<64):(z85 a k).toNat=a.toNat / 2 ^ k:=by rw [zd5,Nat.min_eq_left (by omega)]
set_option maxRecDepth 100000 in
theorem zz2 (a:UInt64):zbi a=some (z7p a.toNat:Int):=by
 unfold zbi
 have h0:=UInt64.toNat_lt a
 have s1:∃ (y:UInt64) (n:Nat),(if decide (4294967296≤a) then some (z85 a 32,(32:Int)) else some (a,0))=some (y,(n:Int))∧y.toNat<2 ^ 32∧n≤32∧z7p a.toNat=n+z7p y.toNat:=by
  by_cases h:4294967296≤a.toNat
  ·
   refine ⟨z85 a 32,32, by rw [if_pos (by simpa [UInt64.le_iff_toNat_le] using h)]; rfl,?_, by omega,?_⟩
   ·
    rw [zgu a 32 (by omega)]; omega
   ·
    rw [zgu a 32 (by omega)]; exact ze4 _ 32 (by omega)
  ·
   exact ⟨a,0, by rw [if_neg (by simpa [UInt64.le_iff_toNat_le] using h)]; rfl, by omega, by omega, by omega⟩
 obtain ⟨y,n,e1,hy,hn,hb⟩:=s1
 rw [e1]; simp only [bs]
 have s2:∃ (z:UInt64) (k:Nat),(if decide (65536≤y) then some (z85 y 16) >>= fun y5=>some (w64 ((n:Int)+16)) >>= fun y6=>some (y5,y6) else some (y,(n:Int)))=some (z,(k:Int))∧z.toNat<2 ^ 16∧k≤48∧z7p a.toNat=k+z7p z.toNat:=by
  by_cases h:65536≤y.toNat
  ·
   refine ⟨z85 y 16,n+16, by rw [if_pos (by simpa [UInt64.le_iff_toNat_le] using h)]; simp only [bs,z1j (show -9223372036854775808≤(n:Int)+16 by omega) (by omega)]; rfl,?_, by omega,?_⟩
   ·
    rw [zgu y 16 (by omega)]; omega
   ·
    rw [zgu y 16 (by omega),hb,ze4 y.toNat 16 (by omega)]; omega
  ·
   exact ⟨y,n, by rw [if_neg (by simpa [UInt64.le_iff_toNat_le] using h)], by omega, by omega,hb⟩
 obtain ⟨z,k,e2,hz,hk,hb2⟩:=s2
 simp only [bs] at e2
 rw [e2]; simp only [bs]
 have s3:∃ (x:UInt64) (j:Nat),(if decide (256≤z) then some (w64 ((k:Int)+8)) >>= fun y9=>some (z85 z 8,y9) else some (z,(k:Int)))=some (x,(j:Int))∧x.toNat<256∧j≤56∧z7p a.toNat=j+z7p x.toNat:=by
  by_cases h:256≤z.toNat
  ·
   refine ⟨z85 z 8,k+8, by rw [if_pos (by simpa [UInt64.le_iff_toNat_le] using h)]; simp only [bs,z1j (show -9223372036854775808≤(k:Int)+8 by omega) (by omega)]; rfl,?_, by omega,?_⟩
   ·
    rw [zgu z 8 (by omega)]; omega
   ·
    rw [zgu z 8 (by omega),hb2,ze4 z.toNat 8 (by omega)]; omega
  ·
   exact ⟨z,k, by rw [if_neg (by simpa [UInt64.le_iff_toNat_le] using h)], by omega, by omega,hb2⟩
 obtain ⟨x,j,e3,hx,hj,hb3⟩:=s3
 simp only [bs] at e3
 rw [e3]; simp only [bs]
 have ht:=zyi ⟨x.toNat,hx⟩
 have hx8:(x.toUInt8.toNat:Int)=((x.toNat:Nat):Int):=by simp; omega
 have hle:z7p x.toNat≤8:=zje _ 8 (by omega)
 rw [hx8]
 have hlist:∀ (l:List UInt8),l=zue.data.toList→idx l ((x.toNat:Nat):Int)=some (UInt8.ofNat (z7p x.toNat)):=fun l hl=>by
  subst hl
  unfold idx
  rw [if_pos (by omega)]
  simpa using ht
 refine Eq.trans (congrArg (fun o:Option UInt8=>o >>= fun x10=>some (w64 ((j:Int)+(x10.toNat:Int)))) (hlist _ ?hh)) ?_
 case hh=>rfl
 simp only [bs]
 have e4:((UInt8.ofNat (z7p x.toNat)).toNat:Int)=(z7p x.toNat:Int):=by simp; omega
 rw [e4,z1j (by omega) (by omega),hb3]
 simp
theorem z6z (a:UInt64):z4o a=some (z2k a.toNat):=by
 unfold z4o
 have h0:=UInt64.toNat_lt a
 by_cases h:a.toNat≤247
 ·
  have h':decide (a≤247)=true:=by simpa [UInt64.le_iff_toNat_le] using h
  unfold z2k
  rw [if_pos h',if_pos h]
  congr 2
 ·
  have h':¬ decide (a≤247)=true:=by simpa [UInt64.le_iff_toNat_le] using h
  rw [if_neg h',zz2]
  have hd:=zm2 a.toNat h0
  have hl:=zni a.toNat
  have hb:z7p a.toNat≤64:=zje _ 64 h0
  simp only [bs]
  rw [z1j (show -9223372036854775808≤(z7p a.toNat:Int)+7 by omega) (by omega)]
  have e1:Int.tdiv ((z7p a.toNat:Int)+7) 8=((z3m a.toNat).length:Int):=by
   rw [hl, show ((z7p a.toNat:Int)+7)=((z7p a.toNat+7:Nat):Int) by omega]
   rfl
  rw [e1,z1j (show -9223372036854775808≤((z3m a.toNat).length:Int) by omega) (by omega),z0t (by omega),zix (by omega) (by omega)]
  simp only [bs]
  rw [show (0:Int)=((0:Nat):Int) from rfl,z0l (by simp)]
  simp only [bs,Int.toNat_natCast]
  rw [z1j (show -9223372036854775808≤247+((z3m a.toNat).length:Int) by omega) (by omega)]
  have e2:UInt8.ofInt (247+((z3m a.toNat).length:Int))=UInt8.ofNat (247+(z3m a.toNat).length):=by
   apply UInt8.toNat_inj.1
   rw [show (247+((z3m a.toNat).length:Int))=((247+(z3m a.toNat).length:Nat):Int) by omega]
   simp [UInt8.ofInt]
   omega
  have:=zpr a.toNat
  rw [e2,this]
  have:=ztl a (z3m a.toNat).length rfl hd
  rw [show (0:Int)=((0:Nat):Int) from rfl] at this
  rw [this]
  simp only [bs]
  rw [zpf a.toNat (by omega)]
end
section
open Go
theorem okV3 {v:z0b} (h:okV v=true) (k:v.Kind=3):v.Num=0∧v.Bits=0∧v.Text.length≤30∧v.Text.all okb=true:=by
 unfold okV at h; rw [if_neg (by rw [k]; decide),if_neg (by rw [k]; decide),if_pos k] at h
 simp only [Bool.and_eq_true,decide_eq_true_eq] at h
 exact ⟨h.1.1.1,h.1.1.2,h.1.2,h.2⟩
theorem zo5 {v:z0b} (h:okV v=true):v.Kind=1∨v.Kind=2∨v.Kind=3:=by
 by_cases h1:v.Kind=1
 ·
  exact .inl h1
 by_cases h2:v.Kind=2
 ·
  exact .inr (.inl h2)
 by_cases h3:v.Kind=3
 ·
  exact .inr (.inr h3)
 ·
  unfold okV at h; simp [h1,h2,h3] at h
theorem zyu (x:UInt64):(x ^^^ 18446744073709551615).toNat=18446744073709551615 - x.toNat:=by
 have e:x ^^^ 18446744073709551615 = ~~~x:=by
  apply UInt64.eq_of_toBitVec_eq
  rw [UInt64.toBitVec_xor,UInt64.toBitVec_not]
  exact BitVec.xor_allOnes
 rw [e,UInt64.toNat_not]; rfl
theorem zd8 (n:Int):(UInt64.ofInt n).toNat=(n % 18446744073709551616).toNat:=by
 simp [UInt64.ofInt]; omega
theorem z136 (n:Int) (h:inI n):((zom (UInt64.ofInt n) 1) ^^^ (UInt64.ofInt (shrI n 63))).toNat=zig n:=by
 obtain ⟨h1,h2⟩:=h
 have es:(zom (UInt64.ofInt n) 1).toNat=(n % 18446744073709551616).toNat * 2 % 18446744073709551616:=by
  rw [zm5,zd8]; rfl
 by_cases h0:0≤n
 ·
  have e:shrI n 63=0:=by
   unfold shrI
   rw [show (2:Int) ^ (min 63 64)=9223372036854775808 from rfl,Int.fdiv_eq_ediv_of_nonneg _ (by omega)]; omega
  rw [e, show UInt64.ofInt 0=0 from rfl,UInt64.xor_zero,es]
  unfold zig; rw [if_pos h0]; omega
 ·
  have e:shrI n 63 = -1:=by
   unfold shrI
   rw [show (2:Int) ^ (min 63 64)=9223372036854775808 from rfl,Int.fdiv_eq_ediv_of_nonneg _ (by omega)]; omega
  rw [e, show UInt64.ofInt (-1)=18446744073709551615 from rfl,zyu,es]
  unfold zig; rw [if_neg h0]; omega
theorem zwo (n:Int) (h:inI n):zf7 n=some (z2k (zig n)):=by
 unfold zf7
 rw [z6z,z136 n h]; rfl
theorem zlm (s:List UInt8) (h:s.length≤10000):zc2 s=some (z2k s.length++s,0):=by
 unfold zc2
 rw [if_neg (by simp; omega),z6z]
 have e:(UInt64.ofInt (s.length:Int)).toNat=s.length:=by rw [zd8]; omega
 have:=z17 s.length (by omega)
 simp only [bs,e]
 rw [z1y (by omega)]; rfl
def be8 (b:UInt64):List UInt8:=[(z85 b 56).toUInt8,(z85 b 48).toUInt8,(z85 b 40).toUInt8,(z85 b 32).toUInt8,(z85 b 24).toUInt8,(z85 b 16).toUInt8,(z85 b 8).toUInt8,(z85 b 0).toUInt8]
theorem zwp (v:z0b) (l:List UInt8) (k:Nat) (hl:l.length≤100) (hk:k≤56):z9d v (l,(k:Int))=some (.inr (l++[(z85 v.Bits k).toUInt8],(k:Int) - 8)):=by
 unfold z9d
 rw [if_pos (by simp)]
 simp only
 rw [z3q (by omega)]
 simp only [bs,Int.toNat_natCast]
 rw [z1y (by simp; omega)]
 simp only [bs]
 rw [z1j (by omega) (by omega)]
theorem zy3 (v:z0b):iter (z9d v) ([v.Kind],56)=some (v.Kind::be8 v.Bits):=by
 have hs:=fun l k h1 h2=>zwp v l k h1 h2
 rw [show (56:Int)=((56:Nat):Int) from rfl,z2t (hs [v.Kind] 56 (by simp) (by omega))]
 simp only [List.cons_append,List.nil_append, show ((56:Nat):Int) - 8=((48:Nat):Int) from rfl]
 rw [z2t (hs _ 48 (by simp) (by omega))]
 simp only [List.cons_append,List.nil_append, show ((48:Nat):Int) - 8=((40:Nat):Int) from rfl]
 rw [z2t (hs _ 40 (by simp) (by omega))]
 simp only [List.cons_append,List.nil_append, show ((40:Nat):Int) - 8=((32:Nat):Int) from rfl]
 rw [z2t (hs _ 32 (by simp) (by omega))]
 simp only [List.cons_append,List.nil_append, show ((32:Nat):Int) - 8=((24:Nat):Int) from rfl]
 rw [z2t (hs _ 24 (by simp) (by omega))]
 simp only [List.cons_append,List.nil_append, show ((24:Nat):Int) - 8=((16:Nat):Int) from rfl]
 rw [z2t (hs _ 16 (by simp) (by omega))]
 simp only [List.cons_append,List.nil_append, show ((16:Nat):Int) - 8=((8:Nat):Int) from rfl]
 rw [z2t (hs _ 8 (by simp) (by omega))]
 simp only [List.cons_append,List.nil_append, show ((8:Nat):Int) - 8=((0:Nat):Int) from rfl]
 rw [z2t (hs _ 0 (by simp) (by omega))]
 simp only [List.cons_append,List.nil_append]
 refine z2f ?_
 unfold z9d
 rw [if_neg (by simp)]; rfl
def encV (v:z0b):List UInt8:=v.Kind::(if v.Kind=1 then z2k (zig v.Num) else if v.Kind=2 then be8 v.Bits else z2k v.Text.length++v.Text)
theorem zwh {n:Int} (h:inI n):zig n<18446744073709551616:=z12n h.1 h.2
theorem z12o (v:z0b) (hI:inI v.Num) (hl:v.Text.length≤9223372036854775807):ze8 v=some (if okV v then (encV v,0) else ([],8)):=by
 unfold ze8
 rw [zpi v hl]
 cases hv:okV v
 ·
  rfl
 simp only [bs,if_true]
 rw [if_neg (by simp)]
 unfold encV
 rcases zo5 hv with k | k | k
 ·
  have h1:=z17 (zig v.Num) (zwh hI)
  rw [k,zwo v.Num hI]
  simp only [bs]
  rw [if_pos (by decide),z1y (by simp; omega)]; simp [bs]
 ·
  rw [k,if_neg (by decide),if_pos (by decide),if_neg (by decide),if_pos rfl,← k,zy3]; rfl
 ·
  have h3:=(okV3 hv k).2.2.1
  have h1:=z17 v.Text.length (by omega)
  rw [k,zlm v.Text (by omega)]
  rw [if_neg (by decide),if_neg (by decide),if_pos (by decide),if_neg (by decide),if_neg (by decide),z3q (by omega)]
  simp only [bs]
  rw [z1y (by simp; omega)]; rfl
theorem zqi (n:Int) (h:inI n):za1 n=some (z2k (zig n)):=by
 obtain ⟨h1,h2⟩:=h
 unfold za1
 by_cases h0:0≤n
 ·
  rw [if_pos (by simpa using h0),z6y]
  have e:(2 * UInt64.ofInt n).toNat=zig n:=by
   rw [UInt64.toNat_mul,zd8, show (2:UInt64).toNat=2 from rfl]
   unfold zig; rw [if_pos h0]; omega
  rw [e]; rfl
 ·
  rw [if_neg (by simpa using h0),z6y]
  have e:((2 * UInt64.ofInt (w64 (0 - (w64 (n+1)))))+1).toNat=zig n:=by
   rw [z1j (x:=n+1) (by omega) (by omega),z1j (by omega) (by omega),UInt64.toNat_add,UInt64.toNat_mul,zd8, show (2:UInt64).toNat=2 from rfl, show (1:UInt64).toNat=1 from rfl]
   unfold zig; rw [if_neg h0]; omega
  rw [e]; rfl
theorem zk3 (s:List UInt8) (h:s.length≤100000):z61 s=some (z2k s.length++s):=by
 unfold z61
 rw [z6y]
 have e:(UInt64.ofInt (s.length:Int)).toNat=s.length:=by rw [zd8]; omega
 have:=z17 s.length (by omega)
 rw [e]
 simp only [bs]
 rw [z1y (by omega)]; rfl
theorem zug (v:z0b) (l:List UInt8) (k:Nat) (hl:l.length≤100) (hk:k≤7):z68 v (l,(k:Int))=some (.inr (l++[(z85 v.Bits (8 * k)).toUInt8],(k:Int) - 1)):=by
 unfold z68
 rw [if_pos (by simp)]
 simp only
 have e:w64 (8 * (k:Int))=((8 * k:Nat):Int):=by rw [z1j (by omega) (by omega)]; omega
 rw [e,z3q (by omega)]
 simp only [bs,Int.toNat_natCast]
 rw [z1y (by simp; omega)]
 simp only [bs]
 rw [z1j (by omega) (by omega)]
theorem zyr (v:z0b):iter (z68 v) ([v.Kind],7)=some (v.Kind::be8 v.Bits):=by
 have hs:=fun l k h1 h2=>zug v l k h1 h2
 rw [show (7:Int)=((7:Nat):Int) from rfl,z2t (hs [v.Kind] 7 (by simp) (by omega))]
 simp only [List.cons_append,List.nil_append, show ((7:Nat):Int) - 1=((6:Nat):Int) from rfl]
 rw [z2t (hs _ 6 (by simp) (by omega))]
 simp only [List.cons_append,List.nil_append, show ((6:Nat):Int) - 1=((5:Nat):Int) from rfl]
 rw [z2t (hs _ 5 (by simp) (by omega))]
 simp only [List.cons_append,List.nil_append, show ((5:Nat):Int) - 1=((4:Nat):Int) from rfl]
 rw [z2t (hs _ 4 (by simp) (by omega))]
 simp only [List.cons_append,List.nil_append, show ((4:Nat):Int) - 1=((3:Nat):Int) from rfl]
 rw [z2t (hs _ 3 (by simp) (by omega))]
 simp only [List.cons_append,List.nil_append, show ((3:Nat):Int) - 1=((2:Nat):Int) from rfl]
 rw [z2t (hs _ 2 (by simp) (by omega))]
 simp only [List.cons_append,List.nil_append, show ((2:Nat):Int) - 1=((1:Nat):Int) from rfl]
 rw [z2t (hs _ 1 (by simp) (by omega))]
 simp only [List.cons_append,List.nil_append, show ((1:Nat):Int) - 1=((0:Nat):Int) from rfl]
 rw [z2t (hs _ 0 (by simp) (by omega))]
 simp only [List.cons_append,List.nil_append]
 refine z2f ?_
 unfold z68
 rw [if_neg (by simp)]; rfl
theorem zvx (v:z0b) (hI:inI v.Num) (hv:okV v=true):zai v=some (encV v):=by
 unfold encV zai
 rcases zo5 hv with k | k | k
 ·
  have h1:=z17 (zig v.Num) (zwh hI)
  rw [k,zqi v.Num hI]
  simp only [bs]
  rw [if_pos (by decide),z1y (by simp; omega)]; simp [bs]
 ·
  rw [k,if_neg (by decide),if_pos (by decide),if_neg (by decide),if_pos rfl,← k,zyr]; rfl
 ·
  have h3:=(okV3 hv k).2.2.1
  have h1:=z17 v.Text.length (by omega)
  rw [k,zk3 v.Text (by omega)]
  rw [if_neg (by decide),if_neg (by decide),if_neg (by decide),if_neg (by decide),z3q (by omega)]
  simp only [bs]
  rw [z1y (by simp; omega)]; rfl
end
section
open Go
theorem zxl (a b:Vector UInt8 32):∀ (n i:Nat),32 - i=n→i≤32→∃ r:Sum Int Unit,iter (z84 a b) (i:Int)=some r∧(z5p (some r) (fun _=>some 0)=some (Lib.compareBytes (a.toList.drop i) (b.toList.drop i))):=by
 intro n
 induction n with
 | zero =>
  intro i hn hi
  have:i=32:=by omega
  subst this
  refine ⟨.inr (),z2f ?_,?_⟩
  ·
   unfold z84; rw [if_neg (by simp)]
  ·
   rw [List.drop_eq_nil_of_le (by simp),List.drop_eq_nil_of_le (by simp)]; rfl
 | succ n ih =>
  intro i hn hi
  have hlt:i<32:=by omega
  have da:a.toList.drop i=a[i]::a.toList.drop (i+1):=by rw [List.drop_eq_getElem_cons (by simpa using hlt)]; simp
  have db:b.toList.drop i=b[i]::b.toList.drop (i+1):=by rw [List.drop_eq_getElem_cons (by simpa using hlt)]; simp
  have hF:z84 a b (i:Int)=if decide (a[i]<b[i]) then some (.inl (.inl (-1))) else if decide (b[i]<a[i]) then some (.inl (.inl 1)) else some (.inr ((i+1:Nat):Int)):=by
   unfold z84
   rw [if_pos (by simp; omega)]
   simp only [zah hlt,bs,z0t (show i<9223372036854775807 by omega)]
  rw [da,db,Lib.compareBytes]
  by_cases h1:a[i]<b[i]
  ·
   rw [decide_eq_true h1] at hF
   exact ⟨_,z2f hF, by rw [if_pos h1]; rfl⟩
  ·
   rw [decide_eq_false h1] at hF
   by_cases h2:b[i]<a[i]
   ·
    rw [decide_eq_true h2] at hF
    exact ⟨_,z2f hF, by rw [if_neg h1,if_pos h2]; rfl⟩
   ·
    rw [decide_eq_false h2] at hF
    obtain ⟨r,k1,k2⟩:=ih (i+1) (by omega) (by omega)
    exact ⟨r, by rw [z2t hF]; exact k1, by rw [if_neg h1,if_neg h2]; exact k2⟩
theorem zps (a b:Vector UInt8 32):z90 a b=some (Lib.compareBytes a.toList b.toList):=by
 obtain ⟨r,h1,h2⟩:=zxl a b 32 0 rfl (by omega)
 unfold z90
 rw [show (0:Int)=((0:Nat):Int) from rfl,h1]
 simpa using h2
theorem zr2 (a b:Vector UInt8 32):z91 a b=some (Lib.compareBytes a.toList b.toList):=by
 unfold z91 zf0; rfl
def z8z:List (Vector UInt8 32)→Bool
 | a::b::l=>!decide (0≤Lib.compareBytes a.toList b.toList)&&z8z (b::l)
 | _=>true
theorem zlp (l:List (Vector UInt8 32)) (hl:l.length≤9223372036854775807):∀ (n i:Nat),l.length - i=n→1≤i→i≤l.length→iter (z4i l) (i:Int)=some (if z8z (l.drop (i - 1)) then .inr () else .inl false):=by
 intro n
 induction n with
 | zero =>
  intro i hn h1 hi
  have:i=l.length:=by omega
  refine z2f ?_
  have e:l.drop (i - 1)=[l[i - 1]'(by omega)]:=by
   rw [List.drop_eq_getElem_cons (by omega),List.drop_eq_nil_of_le (by omega)]
  rw [e]
  unfold z4i
  rw [if_neg (by simp; omega)]
  simp [z8z]
 | succ n ih =>
  intro i hn h1 hi
  have hlt:i<l.length:=by omega
  have e:l.drop (i - 1)=l[i - 1]::l[i]::l.drop (i+1):=by
   rw [List.drop_eq_getElem_cons (by omega), show i - 1+1=i by omega,List.drop_eq_getElem_cons hlt]
  have e':l.drop (i+1 - 1)=l[i]::l.drop (i+1):=by rw [Nat.add_sub_cancel,List.drop_eq_getElem_cons hlt]
  have hF:z4i l (i:Int)=if decide (0≤Lib.compareBytes (l[i - 1]).toList (l[i]).toList) then some (.inl (.inl false)) else some (.inr ((i+1:Nat):Int)):=by
   unfold z4i
   rw [if_pos (by simp; omega),z1j (by omega) (by omega), show ((i:Int) - 1)=((i - 1:Nat):Int) by omega]
   simp only [z0l hlt,z0l (show i - 1<l.length by omega),bs,zps,z0t (show i<9223372036854775807 by omega)]
  rw [e,z8z]
  cases hc:decide (0≤Lib.compareBytes (l[i - 1]).toList (l[i]).toList) with
  | true=>rw [hc] at hF; rw [z2f hF]; rfl
  | false =>
   rw [hc] at hF
   rw [z2t hF,ih (i+1) (by omega) (by omega) (by omega),e']; simp
theorem zm4 (l:List (Vector UInt8 32)) (hl:l.length≤9223372036854775807):z4n l=some (z8z l):=by
 unfold z4n
 cases l with
 | nil =>
  rw [z2f (b:=.inr ()) (by unfold z4i; rw [if_neg (by simp)])]; rfl
 | cons x l =>
  have:=zlp (x::l) hl _ 1 rfl (by omega) (by simp)
  rw [show (1:Int)=((1:Nat):Int) from rfl,this]
  simp only [Nat.sub_self,List.drop_zero]
  cases z8z (x::l) <;> rfl
theorem zq3 (l:List (Vector UInt8 32)) (hl:l.length≤9223372036854775806):∀ (n i:Nat),l.length - i=n→i≤l.length→∃ r,iter (z0v l l) ((i:Int),(i:Int))=some r∧(z8z (l.drop i)=true→∃ c,r=.inr c)∧(z8z (l.drop i)=false→∃ (k:Nat) (c:Int),r=.inl ((k:Int),c)):=by
 intro n
 induction n with
 | zero =>
  intro i hn hi
  have:i=l.length:=by omega
  refine ⟨.inr (i:Int),z2f ?_, fun _=>⟨_,rfl⟩, fun h=>?_⟩
  ·
   unfold z0v
   rw [if_neg (by simp; omega)]
  ·
   rw [List.drop_eq_nil_of_le (by omega)] at h; simp [z8z] at h
 | succ n ih =>
  intro i hn hi
  have hlt:i<l.length:=by omega
  by_cases h2:i+1<l.length
  ·
   have e:l.drop i=l[i]::l[i+1]::l.drop (i+2):=by rw [List.drop_eq_getElem_cons hlt,List.drop_eq_getElem_cons h2]
   have e':l.drop (i+1)=l[i+1]::l.drop (i+2):=by rw [List.drop_eq_getElem_cons h2]
   have hF:z0v l l ((i:Int),(i:Int))=if decide (0≤Lib.compareBytes (l[i]).toList (l[i+1]).toList) then some (.inl (.inl ((i:Int),((i+1:Nat):Int)))) else some (.inr (((i+1:Nat):Int),((i+1:Nat):Int))):=by
    unfold z0v zcx
    rw [if_pos (by simp; omega)]
    simp only [z0l hlt,bs,z0t (show i<9223372036854775807 by omega)]
    rw [if_pos (by simp; omega),z1j (by omega) (by omega), show ((i+1:Nat):Int) - 1=(i:Int) by omega]
    simp only [z0l hlt,z0l h2,bs,zr2]
   rw [e,z8z]
   cases hc:decide (0≤Lib.compareBytes (l[i]).toList (l[i+1]).toList) with
   | true =>
    rw [hc] at hF
    exact ⟨_,z2f hF, fun h=>by simp at h, fun _=>⟨i,_,rfl⟩⟩
   | false =>
    rw [hc] at hF
    obtain ⟨r,k1,k2,k3⟩:=ih (i+1) (by omega) (by omega)
    rw [e'] at k2 k3
    exact ⟨r, by rw [z2t hF]; exact k1, fun h=>k2 (by simpa using h), fun h=>k3 (by simpa using h)⟩
  ·
   have e:l.drop i=[l[i]]:=by rw [List.drop_eq_getElem_cons hlt,List.drop_eq_nil_of_le (by omega)]
   have hF:z0v l l ((i:Int),(i:Int))=some (.inr (((i+1:Nat):Int),((i+1:Nat):Int))):=by
    unfold z0v zcx
    rw [if_pos (by simp; omega)]
    simp only [z0l hlt,bs,z0t (show i<9223372036854775807 by omega)]
    rw [if_neg (by simp; omega)]
    simp only [bs]; rfl
   obtain ⟨r,k1,k2,k3⟩:=ih (i+1) (by omega) (by omega)
   rw [List.drop_eq_nil_of_le (by omega)] at k2 k3
   exact ⟨r, by rw [z2t hF]; exact k1, fun _=>k2 rfl, fun h=>by rw [e] at h; simp [z8z] at h⟩
theorem ztw (l:List (Vector UInt8 32)) (hl:l.length≤9223372036854775806):zex l=some (z8z l):=by
 obtain ⟨r,k1,k2,k3⟩:=zq3 l hl _ 0 rfl (by omega)
 unfold zex z2v z36
 rw [show ((0:Int),(0:Int))=(((0:Nat):Int),((0:Nat):Int)) from rfl,k1]
 simp only [List.drop_zero] at k2 k3
 cases h:z8z l with
 | true=>obtain ⟨c,rfl⟩:=k2 h; rfl
 | false =>
  obtain ⟨k,c,rfl⟩:=k3 h
  simp only [zy6,bs]
  rw [decide_eq_true (by omega)]; rfl
def zop (l:List (Vector UInt8 32)):List UInt8:=l.flatMap Vector.toList
theorem zim (l:List (Vector UInt8 32)):(zop l).length=32 * l.length:=by
 induction l with
 | nil=>rfl
 | cons x l ih=>unfold zop at ih ⊢; rw [List.flatMap_cons,List.length_append,ih]; simp; omega
theorem zp8 (l:List (Vector UInt8 32)) (i:Nat) (hi:i<l.length):zop (l.take (i+1))=zop (l.take i)++(l[i]).toList:=by
 rw [List.take_add_one,List.getElem?_eq_getElem hi]; unfold zop; rw [List.flatMap_append,Option.toList_some,List.flatMap_cons,List.flatMap_nil,List.append_nil]
theorem z11k (l:List (Vector UInt8 32)) (h:l.length≤1000) (s:List UInt8) (hs:s.length≤9):iter (z7c l) (s,0)=some (s++zop l):=by
 have:=z34 (F:=z7c l) (b:=s++zop l) l.length (fun i=>(s++zop (l.take i),(i:Int))) (fun i hi=>?_) ?_
 ·
  simpa [zop] using this
 ·
  unfold z7c
  have hf:=zim (l.take i)
  rw [if_pos (by simp; omega)]
  simp only [z0l hi,bs]
  rw [z1y (by simp at hf ⊢; omega)]
  simp only [bs,z0t (show i<9223372036854775807 by omega),zp8 l i hi,List.append_assoc]
 ·
  unfold z7c
  rw [if_neg (by simp)]
  simp
theorem z126 (l:List (Vector UInt8 32)) (h:l.length≤1000) (s:List UInt8) (hs:s.length≤9):iter (zd2 l) (s,0)=some (s++zop l):=by
 have:=z34 (F:=zd2 l) (b:=s++zop l) l.length (fun i=>(s++zop (l.take i),(i:Int))) (fun i hi=>?_) ?_
 ·
  simpa [zop] using this
 ·
  unfold zd2
  have hf:=zim (l.take i)
  rw [if_pos (by simp; omega)]
  simp only [z0l hi,bs]
  rw [z1y (by simp at hf ⊢; omega)]
  simp only [bs,z0t (show i<9223372036854775807 by omega),zp8 l i hi,List.append_assoc]
 ·
  unfold zd2
  rw [if_neg (by simp)]
  simp
theorem zgm {n:Nat} (h:n<18446744073709551616):(UInt64.ofInt (n:Int)).toNat=n:=by
 simp [UInt64.ofInt]; omega
theorem zyh (l:List (Vector UInt8 32)) (h:l.length≤1000):z9f l=some (z2k l.length++zop l):=by
 unfold z9f
 have hn:=z17 l.length (by omega)
 rw [z6y,zgm (by omega)]
 simp only [bs]
 rw [z11k l h _ (by omega)]; rfl
theorem z11a (l:List (Vector UInt8 32)) (h:l.length≤60) (hi:z8z l=true):zj1 l=some (z2k l.length++zop l,0):=by
 unfold zj1
 have hn:=z17 l.length (by omega)
 rw [if_neg (by simp; omega),ztw l (by omega),hi,z6z,zgm (by omega)]
 simp only [bs,Bool.not_true,Bool.false_eq_true,if_false]
 rw [z126 l (by omega) _ (by omega)]; rfl
end
section
open Go
def nk:List UInt8→Nat
 | []=>0
 | a::l=>a.toNat * 256 ^ l.length+nk l
theorem zwl:∀ l:List UInt8,nk l<256 ^ l.length
 | []=>by simp [nk]
 | a::l=>by
  have ih:=zwl l
  have ha:=UInt8.toNat_lt a
  simp only [nk,List.length_cons,Nat.pow_succ]
  have h1:(a.toNat+1) * 256 ^ l.length≤256 * 256 ^ l.length:=Nat.mul_le_mul_right _ (by omega)
  rw [Nat.add_mul,Nat.one_mul] at h1
  omega
theorem zwn:∀ a b:List UInt8,a.length=b.length→Lib.compareBytes a b=(if nk a<nk b then -1 else if nk b<nk a then 1 else 0)∧(nk a=nk b→a=b)
 | [],[],_=>by simp [Lib.compareBytes,nk]
 | [],_::_,h=>by simp at h
 | _::_,[],h=>by simp at h
 | a::x,b::y,h=>by
  have hl:x.length=y.length:=by simpa using h
  obtain ⟨i1,i2⟩:=zwn x y hl
  have lx:=zwl x
  have ly:=zwl y
  simp only [Lib.compareBytes,nk,hl] at *
  have e:∀ u v:UInt8,u.toNat<v.toNat→u.toNat * 256 ^ y.length+256 ^ y.length≤v.toNat * 256 ^ y.length:=fun u v huv=>by
   have:=Nat.mul_le_mul_right (256 ^ y.length) (show u.toNat+1≤v.toNat from huv)
   rwa [Nat.add_mul,Nat.one_mul] at this
  by_cases h1:a<b
  ·
   have h1':a.toNat<b.toNat:=UInt8.lt_iff_toNat_lt.1 h1
   have:=e a b h1'
   rw [if_pos h1,if_pos (by omega)]
   exact ⟨rfl, fun h=>by omega⟩
  ·
   by_cases h2:b<a
   ·
    have h2':b.toNat<a.toNat:=UInt8.lt_iff_toNat_lt.1 h2
    have:=e b a h2'
    rw [if_neg h1,if_pos h2,if_neg (by omega),if_pos (by omega)]
    exact ⟨rfl, fun h=>by omega⟩
   ·
    have h3:a=b:=UInt8.toNat_inj.1 (by rw [UInt8.lt_iff_toNat_lt] at h1 h2; omega)
    subst h3
    rw [if_neg h1,if_neg h1,i1]
    refine ⟨?_, fun h=>by rw [i2 (by omega)]⟩
    by_cases c1:nk x<nk y
    ·
     rw [if_pos c1,if_pos (by omega)]
    ·
     by_cases c2:nk y<nk x
     ·
      rw [if_neg c1,if_pos c2,if_neg (by omega),if_pos (by omega)]
     ·
      rw [if_neg c1,if_neg c2,if_neg (by omega),if_neg (by omega)]
def kd (d:Vector UInt8 32):Nat:=nk d.toList
theorem zww (a b:Vector UInt8 32):Lib.compareBytes a.toList b.toList=if kd a<kd b then -1 else if kd b<kd a then 1 else 0:=(zwn a.toList b.toList (by simp)).1
theorem zkp {a b:Vector UInt8 32} (h:kd a=kd b):a=b:=by
 have:=(zwn a.toList b.toList (by simp)).2 h
 exact Vector.toList_inj.1 this
theorem zwg (a b:Vector UInt8 32):z91 a b=some (if kd a<kd b then -1 else if kd b<kd a then 1 else 0):=by rw [zr2,zww]
theorem z119 (a b:Vector UInt8 32):z90 a b=some (if kd a<kd b then -1 else if kd b<kd a then 1 else 0):=by rw [zps,zww]
theorem zsj (a b:Vector UInt8 32):decide ((if kd a<kd b then (-1:Int) else if kd b<kd a then 1 else 0)<0)=decide (kd a<kd b):=by
 by_cases h:kd a<kd b
 ·
  simp [h]
 ·
  by_cases h2:kd b<kd a <;> simp [h,h2]
theorem zzu (a b:Vector UInt8 32):decide (0≤(if kd a<kd b then (-1:Int) else if kd b<kd a then 1 else 0))=decide (kd b≤kd a):=by
 by_cases h:kd a<kd b
 ·
  have:¬ kd b≤kd a:=by omega
  simp [h,this]
 ·
  have h3:kd b≤kd a:=by omega
  by_cases h2:kd b<kd a <;> simp [h,h2,h3]
theorem z135 (a b:Vector UInt8 32):((if kd a<kd b then (-1:Int) else if kd b<kd a then 1 else 0)==0)=decide (a=b):=by
 by_cases h:kd a<kd b
 ·
  have:a≠b:=fun e=>by rw [e] at h; omega
  simp [h,this]
 ·
  by_cases h2:kd b<kd a
  ·
   have:a≠b:=fun e=>by rw [e] at h2; omega
   simp [h,h2,this]
  ·
   have:a=b:=zkp (by omega)
   simp [h,h2,this]
theorem zsg:∀ l:List (Vector UInt8 32),z8z l=true↔∀ i (h:i+1<l.length),kd (l[i]'(by omega))<kd l[i+1]
 | []=>by simp [z8z]
 | [a]=>by simp [z8z]
 | a::b::l=>by
  have ih:=zsg (b::l)
  rw [z8z,Bool.and_eq_true,ih,zww,zzu]
  constructor
  ·
   rintro ⟨h1,h2⟩ i hi
   cases i with
   | zero=>simpa using h1
   | succ i=>exact h2 i (by simpa using hi)
  ·
   intro h
   refine ⟨?_, fun i hi=>h (i+1) (by simpa using hi)⟩
   have:=h 0 (by simp)
   simpa using this
theorem zdb:∀ l:List (Vector UInt8 32),z8z l=true↔l.Pairwise (fun a b=>kd a<kd b)
 | []=>by simp [z8z]
 | [a]=>by simp [z8z]
 | a::b::l=>by
  have ih:=zdb (b::l)
  rw [z8z,Bool.and_eq_true,ih,zww,zzu]
  constructor
  ·
   rintro ⟨h1,h2⟩
   have h1':kd a<kd b:=by simpa using h1
   refine List.pairwise_cons.2 ⟨fun c hc=>?_,h2⟩
   rcases List.mem_cons.1 hc with rfl | hc
   ·
    exact h1'
   ·
    have:=(List.pairwise_cons.1 h2).1 c hc; omega
  ·
   intro h
   obtain ⟨h1,h2⟩:=List.pairwise_cons.1 h
   have:=h1 b (by simp)
   exact ⟨by simp; omega,h2⟩
theorem zwe (l:List (Vector UInt8 32)) (hl:l.length≤9223372036854775807):∃ b,z1s l=some b∧(b=true↔∀ i (h:i+1<l.length),kd (l[i]'(by omega))≤kd l[i+1]):=by
 have key:∀ n,n<l.length→∃ r:Sum Bool Unit,iter (z16 l) (n:Int)=some r∧((r=.inr ()∧∀ i (h:i+1<l.length),i+1≤n→kd (l[i]'(by omega))≤kd l[i+1])∨(r=.inl false∧∃ i,∃ h:i+1<l.length,¬ kd (l[i]'(by omega))≤kd l[i+1])):=by
  intro n
  induction n with
  | zero =>
   intro h
   refine ⟨_,z2f ?_,.inl ⟨rfl, fun i _ h=>by omega⟩⟩
   unfold z16
   rw [if_neg (by simp)]
  | succ n ih =>
   intro h
   have hF:z16 l ((n+1:Nat):Int)=if decide (kd l[n+1]<kd l[n]) then some (.inl (.inl false)) else some (.inr (n:Int)):=by
    unfold z16
    rw [if_pos (by simp <;> omega),z0l h,z1j (by omega) (by omega), show (((n+1:Nat):Int) - 1)=(n:Int) by omega,z0l (by omega)]
    simp only [bS]
    rw [zwg]
    simp only [bS]
    rw [zsj]
   by_cases hc:kd l[n+1]<kd l[n]
   ·
    rw [decide_eq_true hc,if_pos rfl] at hF
    exact ⟨_,z2f hF,.inr ⟨rfl,n,h, by omega⟩⟩
   ·
    rw [decide_eq_false hc,if_neg (by simp)] at hF
    obtain ⟨r,h1,h2⟩:=ih (by omega)
    refine ⟨r, by rw [z2t hF]; exact h1,?_⟩
    rcases h2 with ⟨h2,h3⟩ | h2
    ·
     refine .inl ⟨h2, fun i hi hn=>?_⟩
     by_cases hin:i=n
     ·
      subst hin; omega
     ·
      exact h3 i hi (by omega)
    ·
     exact .inr h2
 unfold z1s
 simp only [bS]
 by_cases h0:l.length=0
 ·
  refine ⟨true,?_, by simp; intro i hi; omega⟩
  rw [h0,z1j (by omega) (by omega),z2f (b:=.inr ())]
  ·
   rfl
  ·
   unfold z16
   rw [if_neg (by simp)]
 ·
  obtain ⟨r,h1,h2⟩:=key (l.length - 1) (by omega)
  rw [z1j (by omega) (by omega), show ((l.length:Int) - 1)=((l.length - 1:Nat):Int) by omega,h1]
  rcases h2 with ⟨rfl,h3⟩ | ⟨rfl,i,hi,h3⟩
  ·
   exact ⟨true,rfl, by simp; exact fun i hi=>h3 i hi (by omega)⟩
  ·
   exact ⟨false,rfl, by simp; exact ⟨i,hi, by omega⟩⟩
theorem zoi {k n j:Nat} (h:j<n):subi k n (j:Int)=some (k+j):=by unfold subi; rw [if_pos (by omega)]; simp
theorem zr4 {α:Type} (b:List α) (k n:Nat) (x:α) (h:k+n≤b.length):(clr b k n x).length=b.length:=by
 unfold clr
 simp only [List.length_append,List.length_take,List.length_replicate,List.length_drop]; omega
theorem zr9 (l:List (Vector UInt8 32)) (s:Nat) (h1:1≤s) (hs:s<l.length) (hl:l.length≤9223372036854775806):∃ b:List (Vector UInt8 32) × Int,iter (z1g l s) (l,(s:Int),1)=some b∧b.1.length=l.length∧∃ j:Nat,b.2=(j:Int)∧j<l.length:=by
 refine z8i (F:=z1g l s) (l.length - s) (fun i st=>st.1.length=l.length∧st.2.2=(i:Int)∧1≤i∧∃ j:Nat,st.2.1=(j:Int)∧j+1≤s+i) _ ?_ ?_ _ 1 (by omega) ⟨rfl,rfl, by omega,s,rfl, by omega⟩
 ·
  rintro i ⟨c,j',i'⟩ hi ⟨e1,e2,e0,j,e3,e4⟩
  simp only at e1 e2 e3
  subst e2 e3
  unfold z1g
  rw [if_pos (by simp; omega)]
  simp only [Int.toNat_natCast]
  rw [zoi (by omega),z1j (x:=(i:Int) - 1) (by omega) (by omega), show ((i:Int) - 1)=((i - 1:Nat):Int) by omega,zoi (by omega)]
  simp only [bS]
  rw [z0l (by omega),z0l (by omega)]
  simp only [bS]
  by_cases hc:c[s+i]'(by omega)=c[s+(i - 1)]'(by omega)
  ·
   rw [decide_eq_true hc,if_neg (by simp)]
   exact ⟨_,rfl,e1,z0t (by omega), by omega,j,rfl, by omega⟩
  ·
   rw [decide_eq_false hc,if_pos (by simp),z0l (by omega)]
   simp only [bS]
   exact ⟨_,rfl, by simpa using e1,z0t (by omega), by omega,j+1,z0t (by omega), by omega⟩
 ·
  rintro ⟨c,j',i'⟩ ⟨e1,e2,e0,j,e3,e4⟩
  simp only at e1 e2 e3
  subst e2 e3
  unfold z1g
  rw [if_neg (by simp <;> omega)]
  exact ⟨_,rfl,e1,j,rfl, by omega⟩
theorem zt9 (l:List (Vector UInt8 32)) (hl:l.length≤9223372036854775806):∃ c,z19 l=some c∧(c.length=l.length↔∀ i (h:i+1<l.length),l[i]'(by omega)≠l[i+1]):=by
 have key:∀ k n,l.length - n=k→1≤n→n≤l.length→∃ r:Sum (List (Vector UInt8 32)) Unit,iter (z0p l) (n:Int)=some r∧((r=.inr ()∧∀ i (h:i+1<l.length),n≤i+1→l[i]'(by omega)≠l[i+1])∨(∃ c,r=.inl c∧c.length≠l.length∧∃ i,∃ h:i+1<l.length,l[i]'(by omega)=l[i+1])):=by
  intro k
  induction k with
  | zero =>
   intro n hk h1 hn
   refine ⟨_,z2f ?_,.inl ⟨rfl, fun i _ h=>by omega⟩⟩
   unfold z0p
   rw [if_neg (by simp; omega)]
  | succ k ih =>
   intro n hk h1 hn
   have hlt:n<l.length:=by omega
   by_cases hc:l[n]=l[n - 1]
   ·
    obtain ⟨⟨c,j'⟩,e1,e2,j,e3,e4⟩:=zr9 l n h1 hlt hl
    simp only at e2 e3
    subst e3
    have hF:z0p l (n:Int)=some (.inl (.inl ((clr c j (c.length - j) (Vector.replicate 32 0)).take j))):=by
     unfold z0p
     rw [if_pos (by simp; omega),z0l hlt,z1j (by omega) (by omega), show ((n:Int) - 1)=((n - 1:Nat):Int) by omega,z0l (by omega)]
     simp only [bS]
     rw [decide_eq_true hc,if_pos rfl,z3q (by omega)]
     simp only [bS]
     rw [e1]
     simp only [bS]
     rw [z3q (by omega),z3q (by simp; omega)]
     simp only [bS,Int.toNat_natCast]
     rw [show (0:Int)=((0:Nat):Int) from rfl,zdu (by omega) (by rw [zr4 _ _ _ _ (by omega)]; omega)]
     simp
    refine ⟨_,z2f hF,.inr ⟨_,rfl,?_,n - 1, by omega,?_⟩⟩
    ·
     rw [List.length_take]; omega
    ·
     have:n - 1+1=n:=by omega
     simp only [this]; exact hc.symm
   ·
    have hF:z0p l (n:Int)=some (.inr ((n+1:Nat):Int)):=by
     unfold z0p
     rw [if_pos (by simp; omega),z0l hlt,z1j (x:=(n:Int) - 1) (by omega) (by omega), show ((n:Int) - 1)=((n - 1:Nat):Int) by omega,z0l (by omega)]
     simp only [bS]
     rw [decide_eq_false hc,if_neg (by simp),z0t (by omega)]
    obtain ⟨r,h2,h3⟩:=ih (n+1) (by omega) (by omega) (by omega)
    refine ⟨r, by rw [z2t hF]; exact h2,?_⟩
    rcases h3 with ⟨h3,h4⟩ | h3
    ·
     refine .inl ⟨h3, fun i hi hni=>?_⟩
     by_cases hin:i+1=n
     ·
      subst hin; exact fun e=>hc e.symm
     ·
      exact h4 i hi (by omega)
    ·
     exact .inr h3
 unfold z19
 by_cases h2:l.length<2
 ·
  rw [if_pos (by simp; omega)]
  exact ⟨l,rfl, by simp; intro i hi; omega⟩
 ·
  rw [if_neg (by simp; omega)]
  obtain ⟨r,e1,e2⟩:=key (l.length - 1) 1 rfl (by omega) (by omega)
  rw [show (1:Int)=((1:Nat):Int) from rfl,e1]
  rcases e2 with ⟨rfl,h3⟩ | ⟨c,rfl,h3,i,hi,h4⟩
  ·
   exact ⟨l,rfl, by simp; exact fun i hi=>h3 i hi (by omega)⟩
  ·
   exact ⟨c,rfl,⟨fun h=>absurd h h3, fun h=>absurd h4 (h i hi)⟩⟩
theorem zy1 (l:List (Vector UInt8 32)):z8z l=true↔(∀ i (h:i+1<l.length),kd (l[i]'(by omega))≤kd l[i+1])∧∀ i (h:i+1<l.length),l[i]'(by omega)≠l[i+1]:=by
 rw [zsg]
 constructor
 ·
  intro h
  refine ⟨fun i hi=>Nat.le_of_lt (h i hi), fun i hi e=>?_⟩
  have:=h i hi
  rw [e] at this; omega
 ·
  rintro ⟨h1,h2⟩ i hi
  have:=h1 i hi
  rcases Nat.lt_or_eq_of_le this with h | h
  ·
   exact h
  ·
   exact absurd (zkp h) (h2 i hi)
end
section
open Go Go.Shelf Go.RowKit Go.Lib Go.Sort
def cfID (x y:Vector UInt8 32):Int:=Lib.compareBytes x.toList y.toList
theorem zxe (x y:Vector UInt8 32):ltOf cfID x y=decide (kd x<kd y):=by
 unfold ltOf cfID
 rw [zww,zsj]
theorem z133:SWO (ltOf cfID) where
 irrefl x:=by rw [zxe]; simp
 trans x y z h1 h2:=by rw [zxe] at *; simp at *; omega
 ntrans x y z h1 h2:=by rw [zxe] at *; simp at *; omega
def zqm (l:List (Vector UInt8 32)):List (Vector UInt8 32):=l.mergeSort fun x y=>!(ltOf cfID) y x
theorem zj2 (l:List (Vector UInt8 32)):(zqm l).length=l.length:=List.length_mergeSort l
theorem zpz (l:List (Vector UInt8 32)) (x:Vector UInt8 32):x∈zqm l↔x∈l:=List.mem_mergeSort
theorem zkq (l:List (Vector UInt8 32)):(zqm l).Pairwise fun x y=>kd x≤kd y:=by
 have h:=List.pairwise_mergeSort (le:=fun x y=>!(ltOf cfID) y x) (fun a b c h1 h2=>by
  rw [zxe] at *; simp at *; omega) (fun a b=>by rw [zxe,zxe]; simp; omega) l
 exact h.imp fun {a b} hab=>by rw [zxe] at hab; simp at hab; omega
def zmp (l:List (Vector UInt8 32)):Option (List (Vector UInt8 32)):=chk (l.length≤1000000) >>= fun _=>some (zqm l)
theorem zxj (p0:Value) (c0:List (Vector UInt8 32)):z27 Tryz.prog 78 [.val p0,.val (.func (.func 105) #[] #[])] [(1,some (p0,.list (z06 32 u8R) 62 c0))] (zmp c0) (fun r nv=>⟨[],[(1,some (p0,.list (z06 32 u8R) 62 r))]⟩):=by
 refine zsz zqm zj2 (fun cap w=>?_) (fun blk cap d w hH hb hs=>?_) p0 c0
 ·
  exact AnyF.slices_SortFunc_none zyz none cap _ w
 ·
  have eg:∀ args w,(callFunc 105 args).run Tryz.prog w=.ok (.enter 105 args) w:=enters_of Tryz.func105 (by kernel_rfl) rfl
  exact AnyQ.slices_SortFunc_total zyz 32 Tryz.isAgg62 Tryz.sizeOf62 z8p zev (fun x v hv=>by
   unfold z8p at hv
   obtain ⟨c,_,rfl⟩:=List.mem_map.1 hv
   rfl) cfID z133 105 #[] blk 0 cap d w eg (fun m os dk _ x y=>ztd x y _) hH hb hs (fun x y h1 h2=>by
   rw [zxe] at h1 h2
   simp at h1 h2
   exact zkp (by omega))
theorem zow (p0:Value) (c0:List (Vector UInt8 32)):z27 Tryz.prog 78 [.val p0,.val (.func (.func 79) #[] #[])] [(1,some (p0,.list (z06 32 u8R) 62 c0))] (zmp c0) (fun r nv=>⟨[],[(1,some (p0,.list (z06 32 u8R) 62 r))]⟩):=by
 refine zsz zqm zj2 (fun cap w=>?_) (fun blk cap d w hH hb hs=>?_) p0 c0
 ·
  exact AnyF.slices_SortFunc_none zyz none cap _ w
 ·
  have eg:∀ args w,(callFunc 79 args).run Tryz.prog w=.ok (.enter 79 args) w:=enters_of Tryz.func79 (by kernel_rfl) rfl
  exact AnyQ.slices_SortFunc_total zyz 32 Tryz.isAgg62 Tryz.sizeOf62 z8p zev (fun x v hv=>by
   unfold z8p at hv
   obtain ⟨c,_,rfl⟩:=List.mem_map.1 hv
   rfl) cfID z133 79 #[] blk 0 cap d w eg (fun m os dk _ x y=>zrd x y _) hH hb hs (fun x y h1 h2=>by
   rw [zxe] at h1 h2
   simp at h1 h2
   exact zkp (by omega))
end
section
open Go Go.RowKit
section
variable {ρ:Type} {C:World→World→Prop} {P:Program} {Γ:Ctx} {l:z3a} {res:Res} {d:Tmp} {ty:TypeId} {pos:String} {after:Array Edge} {g:Option (Nat × Bool)}
def z10f (b c:List UInt8):Bool:=Op.bytesLess b c
theorem z10w {ρ:Operand→Value} {w:World} {x y:Operand} {T T':TypeId} {s s':ByteArray} (hx:ρ x=(.string s)) (hy:ρ y=(.string s')) :
  (execOp ρ ⟨some d,.binOp .lss T x y T',ty,pos,after,g⟩).run P w=.ok (.value (.bool (Op.bytesLess s.toList s'.toList))) w:=(zfr (by rw [hx,hy]; rfl) (by rw [hx,hy]; rfl))
theorem ltS {x y:Operand} {T T':TypeId} {b c:List UInt8} (hx:opE l x=some (.rd zhp b)) (hy:opE l y=some (.rd zhp c)):Run C P Γ l res ⟨some d,.binOp .lss T x y T',ty,pos,after,g⟩ (.rd z0n (z10f b c)):=fun _ w ha=>by
 obtain ⟨s,h1,rfl⟩:=zhn (ha.vl hx)
 obtain ⟨t,h2,rfl⟩:=zhn (ha.vl hy)
 exact ⟨_, fun w' _=>z10w h1 h2, by rw [z9e,z9e]; exact zbb⟩
end
end
section
open Go Go.RowKit
set_option maxRecDepth 100000
def z9h (a0:z01) (a1:List (Vector UInt8 32)):Option (Bool) :=
 zag a0 >>= fun r2 =>
 if r2 then
  some true
 else
  some (decide (70<(a1.length:Int))) >>= fun y5 =>
  some y5
theorem zds (a0:z01) (a1:List (Vector UInt8 32)):z27 Tryz.prog 10 [.rd z03 a0,.rd (z02 (z06 32 u8R)) a1] [] (z9h a0 a1) (fun r nv=>⟨[.rd z0n r],[]⟩):=by
 refine z2n 12 Tryz.func10 rfl rfl rfl fun H w=>?_
 refine gSR<|Eb rfl (bx 1 rfl) fun v1=>Za rfl<|Zn<|gSR<|Zq (ld 1 rfl rfl Foc.here z99 rfl)<|Zc [] [] Tryz.func23 rfl (zhy _) fun r2 n3=>Zm rfl<|z1n 7 rfl (fun h4=>?_) (fun h4=>?_)
 ·
  refine lKn 6 rfl h4<|Zk rfl<|Zk rfl<|Zk rfl<|Zq (pkT rfl rfl)<|Za rfl<|Zn<|z0m<|Ze [] [] rfl
 ·
  refine lKn 6 rfl h4<|z0z Zx rfl rfl (mv rfl)<|z0z Zx rfl rfl (z37 rfl .rd rfl tu22)<|z0z Zx rfl rfl (I.gtr rfl rfl)<|Zq (pkF rfl rfl)<|Za rfl<|z1e 4 rfl fun y5=>Zn<|z0m<|Ze [] [] rfl
def z3u (a1:List (List (Vector UInt8 32))) (s6:Int):Option (Sum (Sum Int Unit) Int) :=
 if decide (s6<(a1.length:Int)) then
  idx a1 s6 >>= fun x8 =>
  if decide (60<(x8.length:Int)) then
   some (.inl (.inl 4))
  else
   some (.inr (w64 (s6+1)))
 else
  some (.inl (.inr ()))
def z8a (a0:z01) (a1:List (List (Vector UInt8 32))):Option (Int) :=
 z3v a0 >>= fun r2 =>
 if r2 != 0 then
  some r2
 else
  z5p (iter (z3u a1) 0) fun s5 =>
  some 0
theorem zcb (a0:z01) (a1:List (List (Vector UInt8 32))):z27 Tryz.prog 43 [.rd z03 a0,.rd (z02 (z02 (z06 32 u8R))) a1] [zG1] (z8a a0 a1) (fun r nv=>⟨[.rd z0k r],[(1001,some (.bool true,.glob 1 (z06 64 z1c) z8f))]⟩):=by
 refine z2n 23 Tryz.func43 rfl rfl rfl fun H w=>?_
 refine gSR<|Eb rfl (bx 1 rfl) fun v1=>Za rfl<|Zn<|z0w<|gSR<|Zq (ld 1 rfl rfl Foc.here z99 rfl)<|Zc [1001] [] Tryz.func74 rfl (ze1 _) fun r2 n3=>Za rfl<|Zn<|gSR<|Zm rfl<|Zq (I.neq rfl rfl)<|Zn<|gIf rfl rfl (fun h4=>?_) (fun h4=>?_)
 ·
  refine gSR<|Zm rfl<|Za rfl<|Zn<|z0m<|z12<|Ze [] [1001] rfl
 ·
  refine Zt<|z7k (fun (s5:Unit) aa ww=>Sta (ctx 23 H [zG1] w) [] [zG1] aa ww) ?_ (fun s5=>?_)
  ·
   refine gSR<|Zm rfl<|Zq (z37 rfl .rd rfl Tryz.underlying110)<|Zm rfl<|Zn<|z2h (fun (s6:Int) aa ww=>Sta (ctx 23 H [zG1] w) [(13,.rd (z02 (z02 (z06 32 u8R))) a1),(14,.rd z0k (a1.length:Int)),(15,.rd z0k s6)] [zG1] aa ww) (fun aa ww h=>Zu h [1001]) (fun s6=>?_)
   refine gSR<|Zq (I.lss rfl rfl)<|Zn<|z0w<|gIf rfl rfl (fun h7=>?_) (fun h7=>?_)
   ·
    refine Zt<|z0w<|z4q<|gSR<|z0s fun x8 h9=>Zq (ixR rfl rfl h9 Tryz.underlying110 z2d rfl)<|Zq (ldR rfl z8l)<|Za rfl<|Zn<|gSR<|Zm rfl<|Zq (z37 rfl .rd rfl tu22)<|Zq (I.gtr rfl rfl)<|Zn<|gIf rfl rfl (fun h10=>?_) (fun h10=>?_)
    ·
     refine gSR<|Za rfl<|Zn<|z0m<|z4a<|z12<|z7g<|z54<|Ze [] [1001] rfl
    ·
     refine z2l<|z1w<|z0d<|z1m<|Zq (I.add rfl rfl)<|Zm rfl<|z1f<|z0r (fun aa ww h=>Zu h [1001])
   ·
    refine z1z<|z13<|z14<|z4s (fun aa ww h=>Zu h [1001])
  ·
   refine gSR<|Za rfl<|Zn<|z0m<|Ze [] [1001] rfl
def z3b (a0:List (Vector UInt8 32)) (a1:Vector UInt8 32) (s3:Int):Option (Sum (Sum Int Unit) Int) :=
 if decide (s3<(a0.length:Int)) then
  idx a0 s3 >>= fun x5 =>
  if decide (a1=x5) then
   some (.inl (.inl s3))
  else
   some (.inr (w64 (s3+1)))
 else
  some (.inl (.inr ()))
def z6n (a0:List (Vector UInt8 32)) (a1:Vector UInt8 32):Option (Int) :=
 z5p (iter (z3b a0 a1) 0) fun s2 =>
 some (-1)
theorem zcq (a0:List (Vector UInt8 32)) (a1:Vector UInt8 32):z27 Tryz.prog 115 [.rd (z02 (z06 32 u8R)) a0,.rd (z06 32 u8R) a1] [] (z6n a0 a1) (fun r nv=>⟨[.rd z0k r],[]⟩):=by
 refine z2n 19 Tryz.func115 rfl rfl rfl fun H w=>?_
 refine gSR<|Eb rfl (bx 1 rfl) fun v1=>Za rfl<|Zn<|z7k (fun (s2:Unit) aa ww=>Sta (ctx 19 H [] w) [] [] aa ww) ?_ (fun s2=>?_)
 ·
  refine gSR<|Zm rfl<|Zq (z37 rfl .rd rfl tu22)<|Zm rfl<|Zn<|z2h (fun (s3:Int) aa ww=>Sta (ctx 19 H [] w) [(0,.rd (z02 (z06 32 u8R)) a0),(3,.val (z09 v1 0)),(7,.rd z0k (a0.length:Int)),(8,.rd z0k s3)] [(1,some (v1,.box 62 [.rd (z06 32 u8R) a1]))] aa ww) (fun aa ww h=>Zu h [1]) (fun s3=>?_)
  refine gSR<|Zq (I.lss rfl rfl)<|Zn<|z0w<|gIf rfl rfl (fun h4=>?_) (fun h4=>?_)
  ·
   refine Zt<|z0w<|z4q<|gSR<|Zm rfl<|Za rfl<|Zn<|z0w<|zdn mixed (by kernel_rfl)<|Rq rfl (ld 1 rfl rfl Foc.here z49 rfl)<|Rq rfl (mv rfl)<|Rq rfl (mv rfl)<|z6a fun x5 h6=>Rq rfl (ixR rfl rfl h6 tu22 z1p rfl)<|Rq rfl (ldR rfl z49)<|Rq rfl (eqA rfl rfl zsh rfl rfl zsu)<|zl6<|z0d<|gIf rfl rfl (fun h7=>?_) (fun h7=>?_)
   ·
    refine gSR<|Zm rfl<|Za rfl<|Zn<|z0m<|z4a<|z12<|z7g<|z54<|Ze [] [] rfl
   ·
    refine z2l<|z1w<|z0d<|z1m<|Zq (I.add rfl rfl)<|Zm rfl<|z1f<|z0r (fun aa ww h=>Zu h [1])
  ·
   refine z1z<|z13<|z14<|z4s (fun aa ww h=>Zu h [])
 ·
  refine gSR<|Za rfl<|Zn<|z0m<|Ze [] [] rfl
def z2b (a0:List (Vector UInt8 32)) (a1:Vector UInt8 32):Option (Bool) :=
 z6n a0 a1 >>= fun r2 =>
 some (decide (0≤r2)) >>= fun y4 =>
 some y4
theorem z3k (a0:List (Vector UInt8 32)) (a1:Vector UInt8 32):z27 Tryz.prog 77 [.rd (z02 (z06 32 u8R)) a0,.rd (z06 32 u8R) a1] [] (z2b a0 a1) (fun r nv=>⟨[.rd z0n r],[]⟩):=by
 refine z2n 9 Tryz.func77 rfl rfl rfl fun H w=>?_
 refine gSR<|Eb rfl (bx 1 rfl) fun v1=>Za rfl<|Zn<|gSR<|Zm rfl<|Zq (ld 1 rfl rfl Foc.here z49 rfl)<|Zc [] [] Tryz.func115 rfl (zcq _ _) fun r2 n3=>Zq (I.geq rfl rfl)<|Za rfl<|z1e 4 rfl fun y4=>Zn<|z0m<|Ze [] [] rfl
def z9o (a0:Vector UInt8 32) (c1_0:z01):Option (Bool) :=
 z2b c1_0.IDs a0 >>= fun r2 =>
 some r2
theorem zfw (a0:Vector UInt8 32) (p1_0:Value) (c1_0:z01):z27 Tryz.prog 76 [.rd (z06 32 u8R) a0,.val (z09 p1_0 0)] [(1,some (p1_0,.box 25 [.rd z03 c1_0]))] (z9o a0 c1_0) (fun r nv=>⟨[.rd z0n r],[(1,some (p1_0,.box 25 [.rd z03 c1_0]))]⟩):=by
 refine z2n 8 Tryz.func76 rfl rfl rfl fun H w=>?_
 refine gSR<|Eb rfl (bx 2 rfl) fun v1=>Za rfl<|Zn<|gSR<|Zq (faB 1 rfl rfl Tryz.underlying25 rfl (by exact z2d))<|Zq (ld 1 rfl rfl ((Foc.here).part (z0j _)) z8l rfl)<|Zq (ld 2 rfl rfl Foc.here z49 rfl)<|Zc [] [] Tryz.func77 rfl (z3k _ _) fun r2 n3=>Za rfl<|Zn<|z0m<|Ze [] [1] rfl
def z6i (a0:List (Vector UInt8 32)) (c1_0:z01) (s2:Int):Option (Sum (Sum Int Unit) Int) :=
 if decide (s2<(a0.length:Int)) then
  idx a0 s2 >>= fun x4 =>
  z9o x4 c1_0 >>= fun r6 =>
  if r6 then
   some (.inl (.inl s2))
  else
   some (.inr (w64 (s2+1)))
 else
  some (.inl (.inr ()))
def z3t (a0:List (Vector UInt8 32)) (c1_0:z01):Option (Int) :=
 z5p (iter (z6i a0 c1_0) 0) fun s1 =>
 some (-1)
theorem z6g (a0:List (Vector UInt8 32)) (q0:Value) (l0:List (Vector UInt8 32)) (p1_0:Value) (c1_0:z01):z27 Tryz.prog 114 [.vw (z06 32 u8R) q0 l0 a0,.val (.func (.func 76) #[] #[z09 p1_0 0])] [(1,some (q0,.list (z06 32 u8R) 62 l0)),(2,some (p1_0,.box 25 [.rd z03 c1_0]))] (z3t a0 c1_0) (fun r nv=>⟨[.rd z0k r],[(1,some (q0,.list (z06 32 u8R) 62 l0)),(2,some (p1_0,.box 25 [.rd z03 c1_0]))]⟩):=by
 refine z2n 19 Tryz.func114 rfl rfl rfl fun H w=>?_
 refine gSR<|Za rfl<|Zn<|z7k (fun (s1:Unit) aa ww=>Sta (ctx 19 H [(1,some (q0,.list (z06 32 u8R) 62 l0)),(2,some (p1_0,.box 25 [.rd z03 c1_0]))] w) [] [(1,some (q0,.list (z06 32 u8R) 62 l0)),(2,some (p1_0,.box 25 [.rd z03 c1_0]))] aa ww) ?_ (fun s1=>?_)
 ·
  refine gSR<|Zm rfl<|Zq (z37 rfl (.vw 1 rfl) rfl tu22)<|Zm rfl<|Zn<|z2h (fun (s2:Int) aa ww=>Sta (ctx 19 H [(1,some (q0,.list (z06 32 u8R) 62 l0)),(2,some (p1_0,.box 25 [.rd z03 c1_0]))] w) [(0,.vw (z06 32 u8R) q0 l0 a0),(1,.val (.func (.func 76) #[] #[z09 p1_0 0])),(7,.rd z0k (a0.length:Int)),(8,.rd z0k s2)] [(1,some (q0,.list (z06 32 u8R) 62 l0)),(2,some (p1_0,.box 25 [.rd z03 c1_0]))] aa ww) (fun aa ww h=>Zu h [1,2]) (fun s2=>?_)
  refine gSR<|Zq (I.lss rfl rfl)<|Zn<|z0w<|gIf rfl rfl (fun h3=>?_) (fun h3=>?_)
  ·
   refine Zt<|z0w<|z4q<|gSR<|Zm rfl<|Za rfl<|Zn<|gSR<|Zm rfl<|Zm rfl<|Zm rfl<|z0s fun x4 h5=>Zq (ixQ 1 rfl rfl rfl h5 tu22 z1p)<|Zq (ldQ 1 rfl rfl z49 rfl)<|zgf [2] [(1,2)] (gd0 rfl) rfl rfl Tryz.func76 rfl rfl (zfw _ _ _) (Y1 rfl) (cQ 2 rfl<|cN) (y1 rfl) fun r6 n7=>Zn<|gIf rfl rfl (fun h8=>?_) (fun h8=>?_)
   ·
    refine gSR<|Zm rfl<|Za rfl<|Zn<|z0m<|z4a<|z12<|z7g<|z54<|Ze [] [1,2] rfl
   ·
    refine z2l<|z1w<|z0d<|z1m<|Zq (I.add rfl rfl)<|Zm rfl<|z1f<|z0r (fun aa ww h=>Zu h [1,2])
  ·
   refine z1z<|z13<|z14<|z4s (fun aa ww h=>Zu h [1,2])
 ·
  refine gSR<|Za rfl<|Zn<|z0m<|Ze [] [1,2] rfl
def z6w (c1_0:z01) (s5:(List (Vector UInt8 32)) × Int × Int):Option (Sum ((List (Vector UInt8 32)) × Int) ((List (Vector UInt8 32)) × Int × Int)) :=
 if decide (s5.2.2<(s5.1.length:Int)) then
  idx s5.1 s5.2.2 >>= fun x7 =>
  z9o x7 c1_0 >>= fun r10 =>
  if !r10 then
   idx s5.1 s5.2.1 >>= fun x13 =>
   some (w64 (s5.2.1+1)) >>= fun y15 =>
   some (w64 (s5.2.2+1)) >>= fun y16 =>
   some (.inr (s5.1.set (s5.2.1:Int).toNat x7,y15,y16))
  else
   some (w64 (s5.2.2+1)) >>= fun y17 =>
   some (.inr (s5.1,s5.2.1,y17))
 else
  some (.inl (s5.1,s5.2.1))
def z26 (c0:List (Vector UInt8 32)) (c1_0:z01):Option ((List (Vector UInt8 32))) :=
 z3t c0 c1_0 >>= fun r1 =>
 if r1==(-1) then
  some c0
 else
  (iter (z6w c1_0) (c0,r1,w64 (r1+1))) >>= fun s4 =>
  chk (0≤s4.2∧s4.2≤(s4.1.length:Int)∧(s4.1.length:Int)≤(s4.1.length:Int)) >>= fun u18 =>
  chk ((s4.2:Int).toNat+(((s4.1.length:Int):Int).toNat - (s4.2:Int).toNat)≤s4.1.length) >>= fun u20 =>
  cut (clr s4.1 ((s4.2:Int).toNat) (((s4.1.length:Int):Int).toNat - (s4.2:Int).toNat) (Vector.replicate 32 0)) 0 s4.2 >>= fun x22 =>
  some x22
theorem z6v (p0:Value) (c0:List (Vector UInt8 32)) (p1_0:Value) (c1_0:z01):z27 Tryz.prog 75 [.val p0,.val (.func (.func 76) #[] #[z09 p1_0 0])] [(1,some (p0,.list (z06 32 u8R) 62 c0)),(2,some (p1_0,.box 25 [.rd z03 c1_0]))] (z26 c0 c1_0) (fun r nv=>⟨[.val (nv 0)],[(2,some (p1_0,.box 25 [.rd z03 c1_0])),(100,some (nv 0,.list (z06 32 u8R) 62 r))]⟩):=by
 refine z2n 42 Tryz.func75 rfl rfl rfl fun H w=>?_
 refine gSR<|Za rfl<|Zn<|gSR<|Zm rfl<|Zm rfl<|call [1,2] [(1,1),(2,2)] rfl Tryz.func114 rfl rfl (z6g _ _ _ _ _) (aW rfl<|aQ rfl<|aN) (Zi rfl<|Zi rfl<|rN) fun r1 n2=>Za rfl<|Zn<|z0w<|gSR<|Zm rfl<|Zq (I.eql rfl rfl)<|Zn<|gIf rfl rfl (fun h3=>?_) (fun h3=>?_)
 ·
  refine gSR<|Zm rfl<|Za rfl<|Zn<|z0m<|z12<|Ze [p0] [2,1] rfl
 ·
  refine Zt<|z7f (fun (s4:(List (Vector UInt8 32)) × Int) aa ww=>Sta (ctx 42 H [(1,some (p0,.list (z06 32 u8R) 62 c0)),(2,some (p1_0,.box 25 [.rd z03 c1_0]))] w) [(0,.val p0),(5,.rd z0k s4.2)] [(1,some (p0,.list (z06 32 u8R) 62 s4.1)),(2,some (p1_0,.box 25 [.rd z03 c1_0]))] aa ww) ?_ (fun s4=>?_)
  ·
   refine gSR<|Zm rfl<|Zq (I.add rfl rfl)<|Za rfl<|Zn<|z2h (fun (s5:(List (Vector UInt8 32)) × Int × Int) aa ww=>Sta (ctx 42 H [(1,some (p0,.list (z06 32 u8R) 62 c0)),(2,some (p1_0,.box 25 [.rd z03 c1_0]))] w) [(0,.val p0),(1,.val (.func (.func 76) #[] #[z09 p1_0 0])),(5,.rd z0k s5.2.1),(6,.rd z0k s5.2.2)] [(1,some (p0,.list (z06 32 u8R) 62 s5.1)),(2,some (p1_0,.box 25 [.rd z03 c1_0]))] aa ww) (fun aa ww h=>Zu h [1,2]) (fun s5=>?_)
   refine z0w<|gSR<|Zm rfl<|Zm rfl<|Zq (z37 rfl (.own 1 rfl) rfl tu22)<|Zq (I.lss rfl rfl)<|Zn<|gIf rfl rfl (fun h6=>?_) (fun h6=>?_)
   ·
    refine Zt<|z0w<|z4q<|gSR<|Zm rfl<|Zm rfl<|z0s fun x7 h8=>Zq (ixO 1 rfl rfl rfl h8 tu22 z1p)<|Zq (ld 1 rfl rfl (Foc.el h8) z49 rfl)<|Eb rfl (z7s 3 z1p (.zr (R:=(z06 32 u8R)) (x:=(Vector.replicate 32 0)) zj3)) fun v9=>Es (sto 3 rfl rfl Foc.here rfl z1p)<|Zn<|gSR<|Zm rfl<|Zq (ld 3 rfl rfl Foc.here z49 rfl)<|zgf [2] [(1,2)] (gd0 rfl) rfl rfl Tryz.func76 rfl rfl (zfw _ _ _) (Y1 rfl) (cQ 2 rfl<|cN) (y1 rfl) fun r10 n11=>Zq (zcy rfl)<|Zn<|gIf rfl rfl (fun h12=>?_) (fun h12=>?_)
    ·
     refine gSR<|Zm rfl<|Zm rfl<|Zq (ld 3 rfl rfl Foc.here z49 rfl)<|z0s fun x13 h14=>Zq (ixO 1 rfl rfl rfl h14 tu22 z1p)<|Es (sto 1 rfl rfl (Foc.el h14) rfl z1p)<|Zn<|z1m<|Zm rfl<|Zq (I.add rfl rfl)<|Za rfl<|z1e 5 rfl fun y15=>z1f<|z1w<|z0d<|z1m<|Zm rfl<|Zq (I.add rfl rfl)<|Za rfl<|z1e 6 rfl fun y16=>z1f<|z0r (fun aa ww h=>Zu h [1,2])
    ·
     refine z2l<|z1w<|z0d<|z1m<|Zm rfl<|Zq (I.add rfl rfl)<|Za rfl<|z1e 6 rfl fun y17=>z1f<|z0r (fun aa ww h=>Zu h [1,2])
   ·
    refine z1z<|z13<|z14<|z2x (fun aa ww h=>Zu h [1,2])
  ·
   refine gSR<|Zm rfl<|Zm rfl<|z0s fun u18 h19=>Zq (zt1 1 rfl rfl (.to rfl) .no (z44 h19) tu22 z1p)<|z0s fun u20 h21=>EsV (clrS 1 rfl rfl (z44 h21) rfl tu22 z1p zj3 rfl)<|Zn<|gSR<|Zm rfl<|Zm rfl<|z0s fun x22 h23=>Ef rfl (cutO 1 rfl rfl rfl h23 tu22 z1p) fun v24=>Za rfl<|Zn<|z0m<|Ze [v24] [2,1] rfl
def zfj (a0:z01) (a1:List (Vector UInt8 32)):Option ((List (Vector UInt8 32))) :=
 z1h a1 >>= fun r2 =>
 z26 r2 a0 >>= fun r4 =>
 zmp r4 >>= fun r6 =>
 z19 r6 >>= fun r8 =>
 some r8
theorem zmq (a0:z01) (a1:List (Vector UInt8 32)):z27 Tryz.prog 44 [.rd z03 a0,.rd (z02 (z06 32 u8R)) a1] [] (zfj a0 a1) (fun r nv=>⟨[.val (nv 0)],[(100,some (nv 0,.list (z06 32 u8R) 62 r))]⟩):=by
 refine z2n 14 Tryz.func44 rfl rfl rfl fun H w=>?_
 refine gSR<|Eb rfl (bx 1 rfl) fun v1=>Za rfl<|Zn<|gSR<|Zm rfl<|Zc [] [(100,2)] Tryz.func46 rfl (z2a _) fun r2 n3=>Zq (mkf mp0 (mp1 rfl))<|Zc [2,1] [(100,3),(2,1)] Tryz.func75 rfl (z6v _ _ _ _) fun r4 n5=>Za rfl<|Zn<|gSR<|Zm rfl<|Zc [3] [(1,3)] Tryz.func78 rfl (zow _ _) fun r6 n7=>Zn<|gSR<|Zm rfl<|Zc [3] [(100,4)] Tryz.func80 rfl (z31 _ _) fun r8 n9=>Za rfl<|Zn<|z0m<|Ze [(n9 0)] [4] rfl
def zfi (a0:z01) (a1:List (Vector UInt8 32)):Option ((List (Vector UInt8 32)) × Int) :=
 z8a a0 [a1] >>= fun r3 =>
 if r3 != 0 then
  some ([],r3)
 else
  zfj a0 a1 >>= fun r6 =>
  some (r6,0)
theorem zn4 (a0:z01) (a1:List (Vector UInt8 32)):z27 Tryz.prog 12 [.rd z03 a0,.rd (z02 (z06 32 u8R)) a1] [zG1] (zfi a0 a1) (fun r nv=>⟨[.val (nv 0),.rd z0k r.2],[(1001,some (.bool true,.glob 1 (z06 64 z1c) z8f)),(100,some (nv 0,.list (z06 32 u8R) 62 r.1))]⟩):=by
 refine z2n 17 Tryz.func12 rfl rfl rfl fun H w=>?_
 refine gSR<|Eb rfl (bx 1 rfl) fun v1=>Za rfl<|Za rfl<|Zn<|z0w<|gSR<|Zq (ld 1 rfl rfl Foc.here z99 rfl)<|Zm rfl<|Ef rfl (lit (R:=(z02 (z06 32 u8R))) ([a1]:List (List (Vector UInt8 32))) 2 (pP rfl rfl<|pN) rfl Tryz.underlying110 z2d rfl rfl) fun v2=>zgv 2 [9] rfl (fS rfl<|fN)<|Zc [1001] [] Tryz.func43 rfl (zcb _ _) fun r3 n4=>Za rfl<|Zn<|gSR<|Zm rfl<|Zq (I.neq rfl rfl)<|Zn<|gIf rfl rfl (fun h5=>?_) (fun h5=>?_)
 ·
  refine gSR<|Zm rfl<|Za rfl<|Za rfl<|Zn<|z0m<|z12<|zm0 (z06 32 u8R) 62 3<|Ze [(.slice none 0 0)] [1001,3] rfl
 ·
  refine Zt<|gSR<|Zq (ld 1 rfl rfl Foc.here z99 rfl)<|Zm rfl<|Zc [] [(100,4)] Tryz.func44 rfl (zmq _ _) fun r6 n7=>Za rfl<|Za rfl<|Zn<|z0m<|Ze [(n7 0)] [1001,4] rfl
def z4b (a0:z01) (a1:List (Vector UInt8 32)) (a2:List (Vector UInt8 32)):Option (Int) :=
 z2c a0 >>= fun r2 =>
 if r2 != 0 then
  some r2
 else
  if decide (60<(a1.length:Int)) then
   some 4
  else
   if decide (60<(a2.length:Int)) then
    some 4
   else
    some 0
theorem z7d (a0:z01) (a1:List (Vector UInt8 32)) (a2:List (Vector UInt8 32)):z27 Tryz.prog 33 [.rd z03 a0,.rd (z02 (z06 32 u8R)) a1,.rd (z02 (z06 32 u8R)) a2] [] (z4b a0 a1 a2) (fun r nv=>⟨[.rd z0k r],[]⟩):=by
 refine z2n 21 Tryz.func33 rfl rfl rfl fun H w=>?_
 refine gSR<|Eb rfl (bx 1 rfl) fun v1=>Za rfl<|Zn<|z0w<|gSR<|Zq (ld 1 rfl rfl Foc.here z99 rfl)<|Zc [] [] Tryz.func38 rfl (z8j _) fun r2 n3=>Za rfl<|Zn<|gSR<|Zm rfl<|Zq (I.neq rfl rfl)<|Zn<|gIf rfl rfl (fun h4=>?_) (fun h4=>?_)
 ·
  refine gSR<|Zm rfl<|Za rfl<|Zn<|z0m<|z12<|Ze [] [] rfl
 ·
  refine Zt<|z0w<|gSR<|Zm rfl<|Zq (z37 rfl .rd rfl tu22)<|Zq (I.gtr rfl rfl)<|Zm rfl<|z1n 16 rfl (fun h5=>?_) (fun h5=>?_)
  ·
   refine lKn 15 rfl h5<|Zk rfl<|Zk rfl<|Zk rfl<|Zq (pkT rfl rfl)<|Zn<|zdg rfl<|gSR<|Za rfl<|Zn<|z0m<|z12<|Ze [] [] rfl
  ·
   refine lKn 15 rfl h5<|z0z Zx rfl rfl (mv rfl)<|z0z Zx rfl rfl (z37 rfl .rd rfl tu22)<|z0z Zx rfl rfl (I.gtr rfl rfl)<|Zq (pkF rfl rfl)<|Zn<|gIf rfl rfl (fun h6=>?_) (fun h6=>?_)
   ·
    refine gKn 19 rfl h6<|gSR<|Za rfl<|Zn<|z0m<|z12<|Ze [] [] rfl
   ·
    refine gKn 19 rfl h6<|Zt<|gSR<|Za rfl<|Zn<|z0m<|Ze [] [] rfl
def z8r (a0:List (Vector UInt8 32)) (a1:Vector UInt8 32) (s3:Int):Option (Sum (Sum Bool Unit) Int) :=
 if decide (s3<(a0.length:Int)) then
  idx a0 s3 >>= fun x5 =>
  if decide (x5=a1) then
   some (.inl (.inl true))
  else
   some (.inr (w64 (s3+1)))
 else
  some (.inl (.inr ()))
def z8g (a0:List (Vector UInt8 32)) (a1:Vector UInt8 32):Option (Bool) :=
 z5p (iter (z8r a0 a1) 0) fun s2 =>
 some false
theorem zao (a0:List (Vector UInt8 32)) (a1:Vector UInt8 32):z27 Tryz.prog 32 [.rd (z02 (z06 32 u8R)) a0,.rd (z06 32 u8R) a1] [] (z8g a0 a1) (fun r nv=>⟨[.rd z0n r],[]⟩):=by
 refine z2n 18 Tryz.func32 rfl rfl rfl fun H w=>?_
 refine gSR<|Eb rfl (bx 1 rfl) fun v1=>Za rfl<|Zn<|z7k (fun (s2:Unit) aa ww=>Sta (ctx 18 H [] w) [] [] aa ww) ?_ (fun s2=>?_)
 ·
  refine gSR<|Za rfl<|Zn<|z2h (fun (s3:Int) aa ww=>Sta (ctx 18 H [] w) [(0,.rd (z02 (z06 32 u8R)) a0),(3,.val (z09 v1 0)),(5,.rd z0k s3)] [(1,some (v1,.box 62 [.rd (z06 32 u8R) a1]))] aa ww) (fun aa ww h=>Zu h [1]) (fun s3=>?_)
  refine z0w<|gSR<|Zm rfl<|Zm rfl<|Zq (z37 rfl .rd rfl tu22)<|Zq (I.lss rfl rfl)<|Zn<|gIf rfl rfl (fun h4=>?_) (fun h4=>?_)
  ·
   refine Zt<|z0w<|z4q<|z0w<|zdn mixed (by kernel_rfl)<|Rq rfl (mv rfl)<|Rq rfl (mv rfl)<|z6a fun x5 h6=>Rq rfl (ixR rfl rfl h6 tu22 z1p rfl)<|Rq rfl (ldR rfl z49)<|Rq rfl (ld 1 rfl rfl Foc.here z49 rfl)<|Rq rfl (eqA rfl rfl zsh rfl rfl zsu)<|zl6<|z0d<|gIf rfl rfl (fun h7=>?_) (fun h7=>?_)
   ·
    refine gSR<|Za rfl<|Zn<|z0m<|z4a<|z12<|z7g<|z54<|Ze [] [] rfl
   ·
    refine z2l<|z1w<|z0d<|z1m<|Zm rfl<|Zq (I.add rfl rfl)<|Za rfl<|z1f<|z0r (fun aa ww h=>Zu h [1])
  ·
   refine z1z<|z13<|z14<|z4s (fun aa ww h=>Zu h [])
 ·
  refine gSR<|Za rfl<|Zn<|z0m<|Ze [] [] rfl
def z9x (a0:Vector UInt8 32) (a1:Vector UInt8 32):Option (Bool) :=
 some (z10f a0.toList a1.toList) >>= fun y3 =>
 some y3
theorem zhf (a0:Vector UInt8 32) (a1:Vector UInt8 32):z27 Tryz.prog 81 [.rd (z06 32 u8R) a0,.rd (z06 32 u8R) a1] [] (z9x a0 a1) (fun r nv=>⟨[.rd z0n r],[]⟩):=by
 refine z2n 10 Tryz.func81 rfl rfl rfl fun H w=>?_
 refine gSR<|Eb rfl (bx 1 rfl) fun v1=>Eb rfl (bx 2 rfl) fun v2=>Za rfl<|Zn<|z0w<|zy0 1 2 rfl rfl<|zy0 2 3 rfl rfl<|zdn mixed (by kernel_rfl)<|Rq rfl (cutV rfl tu62 ti5 rfl rfl rfl)<|Rq rfl (cvBS rfl tu75 tu5 tu9)<|Rq rfl (cutV rfl tu62 ti5 rfl rfl rfl)<|Rq rfl (cvBS rfl tu75 tu5 tu9)<|Rq rfl (ltS rfl rfl)<|Rq rfl (asg rfl)<|z12h 4 rfl fun y3=>zl6<|z0d<|z0m<|Ze [] [] rfl
def z83 (a0:List (Vector UInt8 32)) (a1:Vector UInt8 32) (s3:Int):Option (Sum Int Int) :=
 if decide (s3<(a0.length:Int)) then
  idx a0 s3 >>= fun x5 =>
  z9x x5 a1 >>= fun r7 =>
  if r7 then
   some (.inr (w64 (s3+1)))
  else
   some (.inl s3)
 else
  some (.inl s3)
def z8y (a0:List (Vector UInt8 32)) (a1:Vector UInt8 32):Option ((List (Vector UInt8 32))) :=
 (iter (z83 a0 a1) 0) >>= fun s2 =>
 z5p (if decide (s2<(a0.length:Int)) then
  idx a0 s2 >>= fun x12 =>
  if decide (x12=a1) then
   some (.inl a0)
  else
   some (.inr ())
 else
  some (.inr ())) fun s10 =>
 cut a0 0 s2 >>= fun x15 =>
 cut a0 s2 (a0.length:Int) >>= fun x17 =>
 app 32 ([]:List (Vector UInt8 32)) x15 >>= fun x20 =>
 app 32 x20 [a1] >>= fun x24 =>
 app 32 x24 x17 >>= fun x27 =>
 some x27
theorem zc1 (a0:List (Vector UInt8 32)) (a1:Vector UInt8 32):z27 Tryz.prog 45 [.rd (z02 (z06 32 u8R)) a0,.rd (z06 32 u8R) a1] [] (z8y a0 a1) (fun r nv=>⟨[.rd (z02 (z06 32 u8R)) r],[]⟩):=by
 refine z2n 45 Tryz.func45 rfl rfl rfl fun H w=>?_
 refine gSR<|Eb rfl (bx 1 rfl) fun v1=>Za rfl<|Zn<|gSR<|Za rfl<|Zn<|z7f (fun (s2:Int) aa ww=>Sta (ctx 45 H [] w) [(0,.rd (z02 (z06 32 u8R)) a0),(3,.val (z09 v1 0)),(5,.rd z0k s2)] [(1,some (v1,.box 62 [.rd (z06 32 u8R) a1]))] aa ww) ?_ (fun s2=>?_)
 ·
  refine z2h (fun (s3:Int) aa ww=>Sta (ctx 45 H [] w) [(0,.rd (z02 (z06 32 u8R)) a0),(3,.val (z09 v1 0)),(5,.rd z0k s3)] [(1,some (v1,.box 62 [.rd (z06 32 u8R) a1]))] aa ww) (fun aa ww h=>Zu h [1]) (fun s3=>?_)
  refine z0w<|z0w<|z5m [] mixed rfl rfl<|hTk 0 rfl rfl (mv rfl)<|hTk 1 rfl rfl (mv rfl)<|hTk 2 rfl rfl (z37 rfl .rd rfl tu22)<|hTk 3 rfl rfl (I.lss rfl rfl)<|hTk 4 rfl rfl (mv rfl)<|hIf 10 rfl rfl (fun h4=>?_) (fun h4=>?_)
  ·
   refine hKn 9 rfl rfl h4<|Zg 5 rfl rfl (mv rfl)<|Zg 6 rfl rfl (mv rfl)<|z0o fun x5 h6=>Zg 7 rfl rfl (ixR rfl rfl h6 tu22 z1p rfl)<|Zg 8 rfl rfl (ldR rfl z49)<|Zg 9 rfl rfl (ld 1 rfl rfl Foc.here z49 rfl)<|z10 10 [] [] rfl (by kernel_rfl) rfl Zx rfl Tryz.func81 rfl rfl (zhf _ _) (Y2 rfl rfl) rN rfl (fun _ _=>zbv) fun r7 n8=>hTk 11 rfl rfl (pkT rfl rfl)<|z0y (by kernel_rfl)<|z0d<|gIf rfl rfl (fun h9=>?_) (fun h9=>?_)
   ·
    refine gKn 16 rfl h9<|Zt<|z4q<|z1m<|Zm rfl<|Zq (I.add rfl rfl)<|Za rfl<|z1f<|z1w<|z0r (fun aa ww h=>Zu h [1])
   ·
    refine gKn 16 rfl h9<|z1z<|z13<|z14<|z2x (fun aa ww h=>Zu h [1])
  ·
   refine hKn 9 rfl rfl h4<|hSk 5 rfl rfl<|hSk 6 rfl rfl<|hSk 7 rfl rfl<|hSk 8 rfl rfl<|hSk 9 rfl rfl<|hSk 10 rfl rfl<|hTk 11 rfl rfl (pkF rfl rfl)<|z0y (by kernel_rfl)<|z0d<|zbl rfl<|z1z<|z13<|z14<|z2x (fun aa ww h=>Zu h [1])
 ·
  refine z7k (fun (s10:Unit) aa ww=>Sta (ctx 45 H [] w) [(0,.rd (z02 (z06 32 u8R)) a0),(3,.val (z09 v1 0)),(5,.rd z0k s2)] [(1,some (v1,.box 62 [.rd (z06 32 u8R) a1]))] aa ww) ?_ (fun s10=>?_)
  ·
   refine z0w<|zdn mixed (by kernel_rfl)<|Rq rfl (mv rfl)<|Rq rfl (mv rfl)<|Rq rfl (z37 rfl .rd rfl tu22)<|Rq rfl (I.lss rfl rfl)<|Rq rfl (mv rfl)<|zzw 24 rfl (fun h11=>?_) (fun h11=>?_)
   ·
    refine qKn 23 rfl h11<|zqt Zx rfl rfl (mv rfl)<|zqt Zx rfl rfl (mv rfl)<|z6a fun x12 h13=>zqt Zx rfl rfl (ixR rfl rfl h13 tu22 z1p rfl)<|zqt Zx rfl rfl (ldR rfl z49)<|zqt Zx rfl rfl (ld 1 rfl rfl Foc.here z49 rfl)<|zqt Zx rfl rfl (eqA rfl rfl zsh rfl rfl zsu)<|Rq rfl (pkT rfl rfl)<|zl6<|z0d<|gIf rfl rfl (fun h14=>?_) (fun h14=>?_)
    ·
     refine gKn 30 rfl h14<|gSR<|Zm rfl<|Za rfl<|Zn<|z0m<|z54<|Ze [] [] rfl
    ·
     refine gKn 30 rfl h14<|z2l<|z4s (fun aa ww h=>Zu h [1])
   ·
    refine qKn 23 rfl h11<|zhu Zx rfl rfl<|zhu Zx rfl rfl<|zhu Zx rfl rfl<|zhu Zx rfl rfl<|zhu Zx rfl rfl<|zhu Zx rfl rfl<|Rq rfl (pkF rfl rfl)<|zl6<|z0d<|zbl rfl<|z2l<|z4s (fun aa ww h=>Zu h [1])
  ·
   refine z0w<|z5m [41,59] mixed rfl rfl<|hTk 1 rfl rfl (mv rfl)<|hTk 2 rfl rfl (mv rfl)<|z0o fun x15 h16=>hTk 3 rfl rfl (cut' rfl .no (.to rfl) h16 tu22 z1p)<|hTk 5 rfl rfl (ld 1 rfl rfl Foc.here z49 rfl)<|hTk 8 rfl rfl (mv rfl)<|hTk 9 rfl rfl (mv rfl)<|z0o fun x17 h18=>hTk 10 rfl rfl (cut' rfl (.to rfl) .no h18 tu22 z1p)<|z6o [0,6] (by kernel_rfl) rfl ⟨?_,?_,trivial⟩
   ·
    refine oDo 0 rfl (gd0 rfl) rfl rfl rfl (lit (R:=(z06 32 u8R)) (([]:List (Vector UInt8 32)):List (Vector UInt8 32)) 41 (pN) rfl tu22 z1p rfl rfl) (fun _=>rfl) fun v19=>z6o [4,6] (by kernel_rfl) rfl ⟨?_,?_,trivial⟩
    ·
     refine zfq fun x20 h21=>oDo 4 rfl (gd0 rfl) rfl rfl rfl (apn 41 rfl rfl rfl .rd h21 tu22 z1p rfl rfl rfl) (fun _=>rfl) fun v22=>Zo 6 rfl rfl rfl (lit (R:=(z06 32 u8R)) ([a1]:List (Vector UInt8 32)) 59 (pP rfl rfl<|pN) rfl tu22 z1p rfl rfl) fun v23=>z2z 59 [39] rfl (fS rfl<|fN)<|z0o fun x24 h25=>Zo 7 rfl rfl rfl (apn 41 rfl rfl rfl .rd h25 tu22 z1p rfl rfl rfl) fun v26=>z0o fun x27 h28=>Zo 11 rfl rfl rfl (apn 41 rfl rfl rfl .rd h28 tu22 z1p rfl rfl rfl) fun v29=>Zf 12 rfl rfl z05 (asg rfl)<|z0y (by kernel_rfl)<|z0d<|z0m<|eFrz 41 [44,4] rfl (fS rfl<|fS rfl<|fN)<|Ze [] [] rfl
    ·
     refine oDo 6 rfl (gd0 rfl) rfl rfl rfl (lit (R:=(z06 32 u8R)) ([a1]:List (Vector UInt8 32)) 59 (pP rfl rfl<|pN) rfl tu22 z1p rfl rfl) (fun _=>rfl) fun v30=>z0o fun x31 h32=>Zo 4 rfl rfl rfl (apn 41 rfl rfl rfl .rd h32 tu22 z1p rfl rfl rfl) fun v33=>z2z 59 [39] rfl (fS rfl<|fN)<|z0o fun x34 h35=>Zo 7 rfl rfl rfl (apn 41 rfl rfl rfl .rd h35 tu22 z1p rfl rfl rfl) fun v36=>z0o fun x37 h38=>Zo 11 rfl rfl rfl (apn 41 rfl rfl rfl .rd h38 tu22 z1p rfl rfl rfl) fun v39=>Zf 12 rfl rfl z05 (asg rfl)<|z0y (by kernel_rfl)<|z0d<|z0m<|eFrz 41 [44,4] rfl (fS rfl<|fS rfl<|fN)<|Ze [] [] rfl
   ·
    refine oDo 6 rfl (gd0 rfl) rfl rfl rfl (lit (R:=(z06 32 u8R)) ([a1]:List (Vector UInt8 32)) 59 (pP rfl rfl<|pN) rfl tu22 z1p rfl rfl) (fun _=>rfl) fun v40=>Zo 0 rfl rfl rfl (lit (R:=(z06 32 u8R)) (([]:List (Vector UInt8 32)):List (Vector UInt8 32)) 41 (pN) rfl tu22 z1p rfl rfl) fun v41=>z0o fun x42 h43=>Zo 4 rfl rfl rfl (apn 41 rfl rfl rfl .rd h43 tu22 z1p rfl rfl rfl) fun v44=>z2z 59 [39] rfl (fS rfl<|fN)<|z0o fun x45 h46=>Zo 7 rfl rfl rfl (apn 41 rfl rfl rfl .rd h46 tu22 z1p rfl rfl rfl) fun v47=>z0o fun x48 h49=>Zo 11 rfl rfl rfl (apn 41 rfl rfl rfl .rd h49 tu22 z1p rfl rfl rfl) fun v50=>Zf 12 rfl rfl z05 (asg rfl)<|z0y (by kernel_rfl)<|z0d<|z0m<|eFrz 41 [44,4] rfl (fS rfl<|fS rfl<|fN)<|Ze [] [] rfl
def z4m (a0:z01) (a1:List (Vector UInt8 32)) (s6:(List (Vector UInt8 32)) × Int):Option (Sum ((List (Vector UInt8 32))) ((List (Vector UInt8 32)) × Int)) :=
 if decide (s6.2<(a1.length:Int)) then
  idx a1 s6.2 >>= fun x8 =>
  z8g a0.IDs x8 >>= fun r10 =>
  if !r10 then
   idx a1 s6.2 >>= fun x13 =>
   z8y s6.1 x13 >>= fun r15 =>
   some (w64 (s6.2+1)) >>= fun y17 =>
   some (.inr (r15,y17))
  else
   some (w64 (s6.2+1)) >>= fun y18 =>
   some (.inr (s6.1,y18))
 else
  some (.inl s6.1)
def zam (a0:z01) (a1:List (Vector UInt8 32)):Option ((List (Vector UInt8 32)) × Int) :=
 z4b a0 a1 [] >>= fun r2 =>
 if r2 != 0 then
  some ([],r2)
 else
  (iter (z4m a0 a1) ([],0)) >>= fun s5 =>
  some (s5,0)
theorem zic (a0:z01) (a1:List (Vector UInt8 32)):z27 Tryz.prog 13 [.rd z03 a0,.rd (z02 (z06 32 u8R)) a1] [] (zam a0 a1) (fun r nv=>⟨[.rd (z02 (z06 32 u8R)) r.1,.rd z0k r.2],[]⟩):=by
 refine z2n 36 Tryz.func13 rfl rfl rfl fun H w=>?_
 refine gSR<|Eb rfl (bx 1 rfl) fun v1=>Za rfl<|Za rfl<|Zn<|z0w<|gSR<|Zq (ld 1 rfl rfl Foc.here z99 rfl)<|Zm rfl<|call [] [] rfl Tryz.func33 rfl rfl (z7d _ _ _) (aQ rfl<|aQ rfl<|aNil rfl<|aN) rN fun r2 n3=>Za rfl<|Zn<|gSR<|Zm rfl<|Zq (I.neq rfl rfl)<|Zn<|gIf rfl rfl (fun h4=>?_) (fun h4=>?_)
 ·
  refine gSR<|Zm rfl<|Za rfl<|Za rfl<|Zn<|z0m<|z12<|zzv (z06 32 u8R) 4 rfl<|Ze [] [] rfl
 ·
  refine Zt<|gSR<|Za rfl<|Zn<|z7f (fun (s5:(List (Vector UInt8 32))) aa ww=>Sta (ctx 36 H [] w) [(7,.rd (z02 (z06 32 u8R)) s5)] [] aa ww) ?_ (fun s5=>?_)
  ·
   refine gSR<|Za rfl<|Zn<|zzg (z06 32 u8R) 7 rfl<|z2h (fun (s6:(List (Vector UInt8 32)) × Int) aa ww=>Sta (ctx 36 H [] w) [(1,.rd (z02 (z06 32 u8R)) a1),(2,.val (z09 v1 0)),(7,.rd (z02 (z06 32 u8R)) s6.1),(8,.rd z0k s6.2)] [(1,some (v1,.box 25 [.rd z03 a0]))] aa ww) (fun aa ww h=>Zu h [1]) (fun s6=>?_)
   refine z0w<|gSR<|Zm rfl<|Zm rfl<|Zq (z37 rfl .rd rfl tu22)<|Zq (I.lss rfl rfl)<|Zn<|gIf rfl rfl (fun h7=>?_) (fun h7=>?_)
   ·
    refine Zt<|z0w<|z4q<|z0w<|z5m [] mixed rfl rfl<|hTk 0 rfl rfl (faB 1 rfl rfl Tryz.underlying25 rfl (by exact z2d))<|hTk 1 rfl rfl (ld 1 rfl rfl ((Foc.here).part (z0j _)) z8l rfl)<|hTk 2 rfl rfl (mv rfl)<|hTk 3 rfl rfl (mv rfl)<|z0o fun x8 h9=>hTk 4 rfl rfl (ixR rfl rfl h9 tu22 z1p rfl)<|hTk 5 rfl rfl (ldR rfl z49)<|z10 6 [] [] rfl (by kernel_rfl) rfl (gd0 rfl) rfl Tryz.func32 rfl rfl (zao _ _) (Y2 rfl rfl) rN rfl (fun _ _=>zbv) fun r10 n11=>hTk 7 rfl rfl (zcy rfl)<|z0y (by kernel_rfl)<|z0d<|gIf rfl rfl (fun h12=>?_) (fun h12=>?_)
    ·
     refine z1m<|Zm rfl<|Zm rfl<|Zm rfl<|z0s fun x13 h14=>Zq (ixR rfl rfl h14 tu22 z1p rfl)<|Zq (ldR rfl z49)<|Zc [] [] Tryz.func45 rfl (zc1 _ _) fun r15 n16=>Za rfl<|z1f<|z1w<|z0d<|z1m<|Zm rfl<|Zq (I.add rfl rfl)<|Za rfl<|z1e 8 rfl fun y17=>z1f<|z0r (fun aa ww h=>Zu h [1])
    ·
     refine z2l<|z1w<|z0d<|z1m<|Zm rfl<|Zq (I.add rfl rfl)<|Za rfl<|z1e 8 rfl fun y18=>z1f<|z0r (fun aa ww h=>Zu h [1])
   ·
    refine z1z<|z13<|z14<|z2x (fun aa ww h=>Zu h [])
  ·
   refine gSR<|Zm rfl<|Za rfl<|Za rfl<|Zn<|z0m<|Ze [] [] rfl
def z74 (a0:Vector UInt8 32) (c1_0:List ((Vector UInt8 32) × Int)):Option (Bool) :=
 some ((zj8 c1_0 a0).getD 0) >>= fun y2 =>
 some ((zj8 c1_0 a0).isSome) >>= fun y3 =>
 some y3
theorem zcc (a0:Vector UInt8 32) (p1_0:Value) (q1_0:Value) (c1_0:List ((Vector UInt8 32) × Int)):z27 Tryz.prog 165 [.rd (z06 32 u8R) a0,.val (z09 p1_0 0)] [(1,some (p1_0,.box 156 [.val q1_0])),(2,some (q1_0,.map (z06 32 u8R) z0k c1_0))] (z74 a0 c1_0) (fun r nv=>⟨[.rd z0n r],[(1,some (p1_0,.box 156 [.val q1_0])),(2,some (q1_0,.map (z06 32 u8R) z0k c1_0))]⟩):=by
 refine z2n 13 Tryz.func165 rfl rfl rfl fun H w=>?_
 refine gSR<|Eb rfl (bx 3 rfl) fun v1=>Za rfl<|Zn<|gSR<|Zq (ldV 1 rfl rfl .here z11l rfl)<|Zq (ld 3 rfl rfl Foc.here z49 rfl)<|Zq (mlk2 rfl (.own 2 rfl rfl) rfl ky62 Tryz.underlying156 ti3 (Zr.num rfl) rfl)<|Zm rfl<|Zq (ext rfl rfl)<|Zq (ext rfl rfl)<|Za rfl<|z1e 4 rfl fun y2=>Za rfl<|z1e 5 rfl fun y3=>Zn<|gSR<|Zm rfl<|Za rfl<|Zn<|z0m<|Ze [] [1,2] rfl
def z5b (a0:List (Vector UInt8 32)) (c1_0:List ((Vector UInt8 32) × Int)) (s2:Int):Option (Sum (Sum Int Unit) Int) :=
 if decide (s2<(a0.length:Int)) then
  idx a0 s2 >>= fun x4 =>
  z74 x4 c1_0 >>= fun r6 =>
  if r6 then
   some (.inl (.inl s2))
  else
   some (.inr (w64 (s2+1)))
 else
  some (.inl (.inr ()))
def z3i (a0:List (Vector UInt8 32)) (c1_0:List ((Vector UInt8 32) × Int)):Option (Int) :=
 z5p (iter (z5b a0 c1_0) 0) fun s1 =>
 some (-1)
theorem z58 (a0:List (Vector UInt8 32)) (q0:Value) (l0:List (Vector UInt8 32)) (p1_0:Value) (q1_0:Value) (c1_0:List ((Vector UInt8 32) × Int)):z27 Tryz.prog 114 [.vw (z06 32 u8R) q0 l0 a0,.val (.func (.func 165) #[] #[z09 p1_0 0])] [(1,some (q0,.list (z06 32 u8R) 62 l0)),(2,some (p1_0,.box 156 [.val q1_0])),(3,some (q1_0,.map (z06 32 u8R) z0k c1_0))] (z3i a0 c1_0) (fun r nv=>⟨[.rd z0k r],[(1,some (q0,.list (z06 32 u8R) 62 l0)),(2,some (p1_0,.box 156 [.val q1_0])),(3,some (q1_0,.map (z06 32 u8R) z0k c1_0))]⟩):=by
 refine z2n 19 Tryz.func114 rfl rfl rfl fun H w=>?_
 refine gSR<|Za rfl<|Zn<|z7k (fun (s1:Unit) aa ww=>Sta (ctx 19 H [(1,some (q0,.list (z06 32 u8R) 62 l0)),(2,some (p1_0,.box 156 [.val q1_0])),(3,some (q1_0,.map (z06 32 u8R) z0k c1_0))] w) [] [(1,some (q0,.list (z06 32 u8R) 62 l0)),(3,some (q1_0,.map (z06 32 u8R) z0k c1_0)),(2,some (p1_0,.box 156 [.val q1_0]))] aa ww) ?_ (fun s1=>?_)
 ·
  refine gSR<|Zm rfl<|Zq (z37 rfl (.vw 1 rfl) rfl tu22)<|Zm rfl<|Zn<|z2h (fun (s2:Int) aa ww=>Sta (ctx 19 H [(1,some (q0,.list (z06 32 u8R) 62 l0)),(2,some (p1_0,.box 156 [.val q1_0])),(3,some (q1_0,.map (z06 32 u8R) z0k c1_0))] w) [(0,.vw (z06 32 u8R) q0 l0 a0),(1,.val (.func (.func 165) #[] #[z09 p1_0 0])),(7,.rd z0k (a0.length:Int)),(8,.rd z0k s2)] [(1,some (q0,.list (z06 32 u8R) 62 l0)),(3,some (q1_0,.map (z06 32 u8R) z0k c1_0)),(2,some (p1_0,.box 156 [.val q1_0]))] aa ww) (fun aa ww h=>Zu h [1,3,2]) (fun s2=>?_)
  refine gSR<|Zq (I.lss rfl rfl)<|Zn<|z0w<|gIf rfl rfl (fun h3=>?_) (fun h3=>?_)
  ·
   refine Zt<|z0w<|z4q<|gSR<|Zm rfl<|Za rfl<|Zn<|gSR<|Zm rfl<|Zm rfl<|Zm rfl<|z0s fun x4 h5=>Zq (ixQ 1 rfl rfl rfl h5 tu22 z1p)<|Zq (ldQ 1 rfl rfl z49 rfl)<|zgf [2,3] [(1,2),(2,3)] (gd0 rfl) rfl rfl Tryz.func165 rfl rfl (zcc _ _ _ _) (Y1 rfl) (cQ 2 rfl<|cN) (Zi rfl<|Zi rfl<|rN) fun r6 n7=>Zn<|gIf rfl rfl (fun h8=>?_) (fun h8=>?_)
   ·
    refine gSR<|Zm rfl<|Za rfl<|Zn<|z0m<|z4a<|z12<|z7g<|z54<|Ze [] [1,2,3] rfl
   ·
    refine z2l<|z1w<|z0d<|z1m<|Zq (I.add rfl rfl)<|Zm rfl<|z1f<|z0r (fun aa ww h=>Zu h [1,3,2])
  ·
   refine z1z<|z13<|z14<|z4s (fun aa ww h=>Zu h [1,3,2])
 ·
  refine gSR<|Za rfl<|Zn<|z0m<|Ze [] [1,2,3] rfl
def z5q (c1_0:List ((Vector UInt8 32) × Int)) (s5:(List (Vector UInt8 32)) × Int × Int):Option (Sum ((List (Vector UInt8 32)) × Int) ((List (Vector UInt8 32)) × Int × Int)) :=
 if decide (s5.2.2<(s5.1.length:Int)) then
  idx s5.1 s5.2.2 >>= fun x7 =>
  z74 x7 c1_0 >>= fun r10 =>
  if !r10 then
   idx s5.1 s5.2.1 >>= fun x13 =>
   some (w64 (s5.2.1+1)) >>= fun y15 =>
   some (w64 (s5.2.2+1)) >>= fun y16 =>
   some (.inr (s5.1.set (s5.2.1:Int).toNat x7,y15,y16))
  else
   some (w64 (s5.2.2+1)) >>= fun y17 =>
   some (.inr (s5.1,s5.2.1,y17))
 else
  some (.inl (s5.1,s5.2.1))
def z1v (c0:List (Vector UInt8 32)) (c1_0:List ((Vector UInt8 32) × Int)):Option ((List (Vector UInt8 32))) :=
 z3i c0 c1_0 >>= fun r1 =>
 if r1==(-1) then
  some c0
 else
  (iter (z5q c1_0) (c0,r1,w64 (r1+1))) >>= fun s4 =>
  chk (0≤s4.2∧s4.2≤(s4.1.length:Int)∧(s4.1.length:Int)≤(s4.1.length:Int)) >>= fun u18 =>
  chk ((s4.2:Int).toNat+(((s4.1.length:Int):Int).toNat - (s4.2:Int).toNat)≤s4.1.length) >>= fun u20 =>
  cut (clr s4.1 ((s4.2:Int).toNat) (((s4.1.length:Int):Int).toNat - (s4.2:Int).toNat) (Vector.replicate 32 0)) 0 s4.2 >>= fun x22 =>
  some x22
theorem z5t (p0:Value) (c0:List (Vector UInt8 32)) (p1_0:Value) (q1_0:Value) (c1_0:List ((Vector UInt8 32) × Int)):z27 Tryz.prog 75 [.val p0,.val (.func (.func 165) #[] #[z09 p1_0 0])] [(1,some (p0,.list (z06 32 u8R) 62 c0)),(2,some (p1_0,.box 156 [.val q1_0])),(3,some (q1_0,.map (z06 32 u8R) z0k c1_0))] (z1v c0 c1_0) (fun r nv=>⟨[.val (nv 0)],[(2,some (p1_0,.box 156 [.val q1_0])),(3,some (q1_0,.map (z06 32 u8R) z0k c1_0)),(100,some (nv 0,.list (z06 32 u8R) 62 r))]⟩):=by
 refine z2n 42 Tryz.func75 rfl rfl rfl fun H w=>?_
 refine gSR<|Za rfl<|Zn<|gSR<|Zm rfl<|Zm rfl<|call [1,2,3] [(1,1),(2,2),(3,3)] rfl Tryz.func114 rfl rfl (z58 _ _ _ _ _ _) (aW rfl<|aQ rfl<|aN) (Zi rfl<|Zi rfl<|Zi rfl<|rN) fun r1 n2=>Za rfl<|Zn<|z0w<|gSR<|Zm rfl<|Zq (I.eql rfl rfl)<|Zn<|gIf rfl rfl (fun h3=>?_) (fun h3=>?_)
 ·
  refine gSR<|Zm rfl<|Za rfl<|Zn<|z0m<|z12<|Ze [p0] [2,3,1] rfl
 ·
  refine Zt<|z7f (fun (s4:(List (Vector UInt8 32)) × Int) aa ww=>Sta (ctx 42 H [(1,some (p0,.list (z06 32 u8R) 62 c0)),(2,some (p1_0,.box 156 [.val q1_0])),(3,some (q1_0,.map (z06 32 u8R) z0k c1_0))] w) [(0,.val p0),(5,.rd z0k s4.2)] [(1,some (p0,.list (z06 32 u8R) 62 s4.1)),(3,some (q1_0,.map (z06 32 u8R) z0k c1_0)),(2,some (p1_0,.box 156 [.val q1_0]))] aa ww) ?_ (fun s4=>?_)
  ·
   refine gSR<|Zm rfl<|Zq (I.add rfl rfl)<|Za rfl<|Zn<|z2h (fun (s5:(List (Vector UInt8 32)) × Int × Int) aa ww=>Sta (ctx 42 H [(1,some (p0,.list (z06 32 u8R) 62 c0)),(2,some (p1_0,.box 156 [.val q1_0])),(3,some (q1_0,.map (z06 32 u8R) z0k c1_0))] w) [(0,.val p0),(1,.val (.func (.func 165) #[] #[z09 p1_0 0])),(5,.rd z0k s5.2.1),(6,.rd z0k s5.2.2)] [(1,some (p0,.list (z06 32 u8R) 62 s5.1)),(3,some (q1_0,.map (z06 32 u8R) z0k c1_0)),(2,some (p1_0,.box 156 [.val q1_0]))] aa ww) (fun aa ww h=>Zu h [1,3,2]) (fun s5=>?_)
   refine z0w<|gSR<|Zm rfl<|Zm rfl<|Zq (z37 rfl (.own 1 rfl) rfl tu22)<|Zq (I.lss rfl rfl)<|Zn<|gIf rfl rfl (fun h6=>?_) (fun h6=>?_)
   ·
    refine Zt<|z0w<|z4q<|gSR<|Zm rfl<|Zm rfl<|z0s fun x7 h8=>Zq (ixO 1 rfl rfl rfl h8 tu22 z1p)<|Zq (ld 1 rfl rfl (Foc.el h8) z49 rfl)<|Eb rfl (z7s 4 z1p (.zr (R:=(z06 32 u8R)) (x:=(Vector.replicate 32 0)) zj3)) fun v9=>Es (sto 4 rfl rfl Foc.here rfl z1p)<|Zn<|gSR<|Zm rfl<|Zq (ld 4 rfl rfl Foc.here z49 rfl)<|zgf [2,3] [(1,2),(2,3)] (gd0 rfl) rfl rfl Tryz.func165 rfl rfl (zcc _ _ _ _) (Y1 rfl) (cQ 2 rfl<|cN) (Zi rfl<|Zi rfl<|rN) fun r10 n11=>Zq (zcy rfl)<|Zn<|gIf rfl rfl (fun h12=>?_) (fun h12=>?_)
    ·
     refine gSR<|Zm rfl<|Zm rfl<|Zq (ld 4 rfl rfl Foc.here z49 rfl)<|z0s fun x13 h14=>Zq (ixO 1 rfl rfl rfl h14 tu22 z1p)<|Es (sto 1 rfl rfl (Foc.el h14) rfl z1p)<|Zn<|z1m<|Zm rfl<|Zq (I.add rfl rfl)<|Za rfl<|z1e 5 rfl fun y15=>z1f<|z1w<|z0d<|z1m<|Zm rfl<|Zq (I.add rfl rfl)<|Za rfl<|z1e 6 rfl fun y16=>z1f<|z0r (fun aa ww h=>Zu h [1,3,2])
    ·
     refine z2l<|z1w<|z0d<|z1m<|Zm rfl<|Zq (I.add rfl rfl)<|Za rfl<|z1e 6 rfl fun y17=>z1f<|z0r (fun aa ww h=>Zu h [1,3,2])
   ·
    refine z1z<|z13<|z14<|z2x (fun aa ww h=>Zu h [1,3,2])
  ·
   refine gSR<|Zm rfl<|Zm rfl<|z0s fun u18 h19=>Zq (zt1 1 rfl rfl (.to rfl) .no (z44 h19) tu22 z1p)<|z0s fun u20 h21=>EsV (clrS 1 rfl rfl (z44 h21) rfl tu22 z1p zj3 rfl)<|Zn<|gSR<|Zm rfl<|Zm rfl<|z0s fun x22 h23=>Ef rfl (cutO 1 rfl rfl rfl h23 tu22 z1p) fun v24=>Za rfl<|Zn<|z0m<|Ze [v24] [2,3,1] rfl
def zal (a0:z01) (a1:List (Vector UInt8 32)):Option ((List (Vector UInt8 32)) × Int) :=
 z3v a0 >>= fun r2 =>
 if r2 != 0 then
  some ([],r2)
 else
  if decide (60<(a1.length:Int)) then
   some ([],4)
  else
   z4y a0 >>= fun r6 =>
   z1h a1 >>= fun r9 =>
   z1v r9 r6 >>= fun r11 =>
   zmp r11 >>= fun r13 =>
   z19 r13 >>= fun r15 =>
   some (r15,0)
theorem zi6 (a0:z01) (a1:List (Vector UInt8 32)):z27 Tryz.prog 119 [.rd z03 a0,.rd (z02 (z06 32 u8R)) a1] [zG1] (zal a0 a1) (fun r nv=>⟨[.val (nv 0),.rd z0k r.2],[(1001,some (.bool true,.glob 1 (z06 64 z1c) z8f)),(100,some (nv 0,.list (z06 32 u8R) 62 r.1))]⟩):=by
 refine z2n 27 Tryz.func119 rfl rfl rfl fun H w=>?_
 refine gSR<|Eb rfl (bx 1 rfl) fun v1=>Za rfl<|Za rfl<|Zn<|z0w<|gSR<|Zq (ld 1 rfl rfl Foc.here z99 rfl)<|Zc [1001] [] Tryz.func74 rfl (ze1 _) fun r2 n3=>Za rfl<|Zn<|gSR<|Zm rfl<|Zq (I.neq rfl rfl)<|Zn<|gIf rfl rfl (fun h4=>?_) (fun h4=>?_)
 ·
  refine gSR<|Zm rfl<|Za rfl<|Za rfl<|Zn<|z0m<|z12<|zm0 (z06 32 u8R) 62 2<|Ze [(.slice none 0 0)] [1001,2] rfl
 ·
  refine Zt<|z0w<|gSR<|Zm rfl<|Zq (z37 rfl .rd rfl tu22)<|Zq (I.gtr rfl rfl)<|Zn<|gIf rfl rfl (fun h5=>?_) (fun h5=>?_)
  ·
   refine gSR<|Za rfl<|Za rfl<|Zn<|z0m<|z12<|zm0 (z06 32 u8R) 62 3<|Ze [(.slice none 0 0)] [1001,3] rfl
  ·
   refine Zt<|gSR<|Zq (ld 1 rfl rfl Foc.here z99 rfl)<|Zc [] [(100,4)] Tryz.func123 rfl (zbd _) fun r6 n7=>Eb rfl (z7s 5 zta (.val rfl)) fun v8=>Es (z4e 5 rfl rfl (.here z00) rfl z0a z00 zta)<|Zn<|gSR<|Zm rfl<|Zc [] [(100,6)] Tryz.func46 rfl (z2a _) fun r9 n10=>Zq (mkf mp0 (mp1 rfl))<|Zc [6,5,4] [(100,7),(2,5),(3,4)] Tryz.func75 rfl (z5t _ _ _ _ _) fun r11 n12=>Za rfl<|Zn<|gSR<|Zm rfl<|Zc [7] [(1,7)] Tryz.func78 rfl (zxj _ _) fun r13 n14=>Zn<|gSR<|Zm rfl<|Zc [7] [(100,8)] Tryz.func80 rfl (z31 _ _) fun r15 n16=>Za rfl<|Za rfl<|Zn<|z0m<|Ze [(n16 0)] [1001,8] rfl
def z82 (a0:z01) (r10:(List Bool)) (s12:(List (Vector UInt8 32)) × (List z0g) × Int):Option (Sum ((List (Vector UInt8 32)) × (List z0g)) ((List (Vector UInt8 32)) × (List z0g) × Int)) :=
 if decide (s12.2.2<(r10.length:Int)) then
  idx r10 s12.2.2 >>= fun x15 =>
  if x15 then
   idx a0.Ops s12.2.2 >>= fun x18 =>
   z1h x18.Preds >>= fun r21 =>
   idx a0.IDs s12.2.2 >>= fun x23 =>
   app 32 s12.1 [x23] >>= fun x26 =>
   app 112 s12.2.1 [(⟨x18.Author,r21,x18.Stamp,x18.Act,x18.Sig⟩:z0g)] >>= fun x30 =>
   some (.inr (x26,x30,w64 (s12.2.2+1)))
  else
   some (.inr (s12.1,s12.2.1,w64 (s12.2.2+1)))
 else
  some (.inl (s12.1,s12.2.1))
def zc8 (a0:z01) (a1:List (Vector UInt8 32)):Option (z01 × Int) :=
 zal a0 a1 >>= fun r3 =>
 if r3.2 != 0 then
  some ((⟨[],[]⟩:z01),r3.2)
 else
  some (decide (0<(r3.1.length:Int))) >>= fun y6 =>
  if y6 then
   some ((⟨[],[]⟩:z01),6)
  else
   (zc6 a0 a1 >>= fun r10 =>
   iter (z82 a0 r10) ([],[],0)) >>= fun s9 =>
   some ((⟨s9.1,s9.2⟩:z01),0)
end
section
open Go Go.RowKit
set_option maxRecDepth 100000
theorem zc3 (a0:z01) (a1:List (Vector UInt8 32)):z27 Tryz.prog 83 [.rd z03 a0,.rd (z02 (z06 32 u8R)) a1] [zG1] (zc8 a0 a1) (fun r nv=>⟨[.rd z03 r.1,.rd z0k r.2],[(1001,some (.bool true,.glob 1 (z06 64 z1c) z8f))]⟩):=by
 refine z2n 65 Tryz.func83 rfl rfl rfl fun H w=>?_
 refine gSR<|Eb rfl (bx 1 rfl) fun v1=>Eb rfl (z7s 2 zn7 (ZrE.nilS (ZrE.nilS ZrE.nil))) fun v2=>Za rfl<|Zn<|gSR<|Zq (ld 1 rfl rfl Foc.here z99 rfl)<|Zm rfl<|Zc [1001] [(100,3)] Tryz.func119 rfl (zi6 _ _) fun r3 n4=>Zm rfl<|Zq (ext rfl rfl)<|Zq (ext rfl rfl)<|Za rfl<|Za rfl<|Zn<|z0w<|z4q<|gSR<|Zm rfl<|Zq (I.neq rfl rfl)<|Za rfl<|Zn<|gIf rfl rfl (fun h5=>?_) (fun h5=>?_)
 ·
  refine gKn 20 rfl h5<|gSR<|Zq (zsp [(0,1),(1,1)] Tryz.underlying25 zn7 (ZrE.nilS (ZrE.nilS ZrE.nil)) rfl (zef.done rfl))<|Zm rfl<|Es (zsq 2 rfl rfl (z0e.cast (z0e.cons z00 (z0e.cons z00 z0e.nil)) rfl) rfl (z3l.cons z0a (z3l.cons z0a z3l.nil)) (z0e.cast (z0e.cons z00 (z0e.cons z00 z0e.nil)) rfl) zn7)<|Za rfl<|Zn<|z0m<|z4a<|z12<|ePnl (z06 32 u8R) [.rd (z02 (z06 32 u8R)) [],.val (.slice none 0 0)] 2 [] [.val (.slice none 0 0)] rfl rfl rfl<|ePnl z0c [.rd (z02 (z06 32 u8R)) [],.rd (z02 z0c) []] 2 [.rd (z02 (z06 32 u8R)) []] [] rfl rfl rfl<|eJoi (R:=z03) (⟨[],[]⟩:z01) 2 rfl (Sp.via (Sp.prod (Sp.prod Sp.unit)))<|zge [] [1001] rfl (eC 2 rfl rfl z99<|eE rfl<|eN) (y1 rfl)
 ·
  refine gKn 20 rfl h5<|gSR<|Zm rfl<|Zq (z37 rfl (.own 3 rfl) rfl tu22)<|Zq (I.gtr rfl rfl)<|Za rfl<|z1e 23 rfl fun y6=>Zn<|gIf rfl rfl (fun h7=>?_) (fun h7=>?_)
  ·
   refine gSR<|Zq (zsp [(0,1),(1,1)] Tryz.underlying25 zn7 (ZrE.nilS (ZrE.nilS ZrE.nil)) rfl (zef.done rfl))<|Es (zsq 2 rfl rfl (z0e.cast (z0e.cons z00 (z0e.cons z00 z0e.nil)) rfl) rfl (z3l.cons z0a (z3l.cons z0a z3l.nil)) (z0e.cast (z0e.cons z00 (z0e.cons z00 z0e.nil)) rfl) zn7)<|Za rfl<|Zn<|z0m<|z4a<|z12<|ePnl (z06 32 u8R) [.rd (z02 (z06 32 u8R)) [],.val (.slice none 0 0)] 2 [] [.val (.slice none 0 0)] rfl rfl rfl<|ePnl z0c [.rd (z02 (z06 32 u8R)) [],.rd (z02 z0c) []] 2 [.rd (z02 (z06 32 u8R)) []] [] rfl rfl rfl<|eJoi (R:=z03) (⟨[],[]⟩:z01) 2 rfl (Sp.via (Sp.prod (Sp.prod Sp.unit)))<|zge [] [1001] rfl (eC 2 rfl rfl z99<|eE rfl<|eN) (y1 rfl)
  ·
   refine z2l<|z1w<|z0d<|gSR<|Eb rfl (z7s 4 zn7 (ZrE.nilS (ZrE.nilS ZrE.nil))) fun v8=>Zn<|z7f (fun (s9:(List (Vector UInt8 32)) × (List z0g)) aa ww=>∃ nv:Nat→Value,Sta (ctx 65 H [zG1] w) [(4,.val (z09 v2 0)),(8,.val (z09 v8 0))] [(2,some (v2,.box 25 [.val (.slice none 0 0),.val (.slice none 0 0)])),(32,some ((nv 0),.list (z06 32 u8R) 62 s9.1)),(47,some ((nv 1),.list z0c 73 s9.2)),(4,some (v8,.box 25 [.val (nv 0),.val (nv 1)])),zG1] aa ww) ?_ (fun s9=>?_)
   ·
    refine gSR<|Zq (ld 1 rfl rfl Foc.here z99 rfl)<|Zm rfl<|Zc [] [(100,1002)] Tryz.func120 rfl (zkh _ _) fun r10 n11=>Zq (z37 rfl (.own 1002 rfl) rfl tu152)<|Zm rfl<|Zn<|zrq (z06 32 u8R) 62 1045<|zrq z0c 73 1046<|z2h (fun (s12:(List (Vector UInt8 32)) × (List z0g) × Int) aa ww=>∃ nv:Nat→Value,Sta (ctx 65 H [zG1] w) [(2,.val (z09 v1 0)),(4,.val (z09 v2 0)),(8,.val (z09 v8 0)),(30,.val (n11 0)),(31,.rd z0k (r10.length:Int)),(32,.rd z0k s12.2.2)] [(1,some (v1,.box 25 [.rd z03 a0])),(2,some (v2,.box 25 [.val (.slice none 0 0),.val (.slice none 0 0)])),(1029,some ((nv 0),.list (z06 32 u8R) 62 s12.1)),(1044,some ((nv 1),.list z0c 73 s12.2.1)),(4,some (v8,.box 25 [.val (nv 0),.val (nv 1)])),(1002,some ((n11 0),.list z0n 4 r10)),zG1] aa ww) (fun aa ww h=>⟨nvl [(.slice none 0 0),(.slice none 0 0)],Zu h [1,2,1045,1046,4,1002,1001]⟩) (fun s12=>?_)
    refine gEx fun n13=>gSR<|Zq (I.lss rfl rfl)<|Zn<|z0w<|gIf rfl rfl (fun h14=>?_) (fun h14=>?_)
    ·
     refine Zt<|z0w<|z4q<|gSR<|Zm rfl<|z0s fun x15 h16=>Zq (ixO 1002 rfl rfl rfl h16 tu152 ti4)<|Zq (ld 1002 rfl rfl (Foc.el h16) ty4 rfl)<|Za rfl<|Za rfl<|Zn<|gSR<|Zm rfl<|Zn<|gIf rfl rfl (fun h17=>?_) (fun h17=>?_)
     ·
      refine gKn 36 rfl h17<|gKn 10 rfl h17<|gSR<|Zq (faB 1 rfl rfl Tryz.underlying25 rfl (by exact z40))<|Zq (ld 1 rfl rfl ((Foc.here).part (z0f _)) zg6 rfl)<|Zm rfl<|z0s fun x18 h19=>Zq (ixR rfl rfl h19 tu23 z4w rfl)<|Zq (ldR rfl zg5)<|Eb rfl (z7s 1047 z4w (ZrE.rd (R:=z1c) (x:=0) (Zr.num rfl) (ZrE.nilS (ZrE.rd (R:=z2r) (x:=0) (Zr.num rfl) (ZrE.rd (R:=z1i) (x:=(⟨0,[],(⟨0,0,0,[]⟩:z0b)⟩:z1u)) zx2 (ZrE.rd (R:=z1q) (x:=(⟨0,0⟩:z0u)) zx9 ZrE.nil rfl) rfl) rfl)) rfl)) fun v20=>znn (z06 32 u8R) [.rd z1c 0,.rd (z02 (z06 32 u8R)) [],.rd z2r 0,.rd z1i (⟨0,[],(⟨0,0,0,[]⟩:z0b)⟩:z1u),.rd z1q (⟨0,0⟩:z0u)] 1047 [.rd z1c 0] [.rd z2r 0,.rd z1i (⟨0,[],(⟨0,0,0,[]⟩:z0b)⟩:z1u),.rd z1q (⟨0,0⟩:z0u)] rfl rfl rfl<|zks (R:=z0c) (⟨0,[],0,(⟨0,[],(⟨0,0,0,[]⟩:z0b)⟩:z1u),(⟨0,0⟩:z0u)⟩:z0g) 1047 rfl (Sp.via (Sp.prod (Sp.prod (Sp.prod (Sp.prod (Sp.prod Sp.unit))))))<|Es (sto 1047 rfl rfl Foc.here rfl z4w)<|Zn<|gSR<|Zq (faB 1047 rfl rfl Tryz.underlying73 rfl (by exact z2d))<|Zq (ld 1047 rfl rfl ((Foc.here).part (z1l _)) z8l rfl)<|Zc [] [(100,1048)] Tryz.func46 rfl (z2a _) fun r21 n22=>Zq (faB 1047 rfl rfl Tryz.underlying73 rfl (by exact z2d))<|lSpl (R:=z0c) 1047 rfl (Sp.via (Sp.prod (Sp.prod (Sp.prod (Sp.prod (Sp.prod Sp.unit))))))<|Es (z4e 1047 rfl rfl (z18.cast (z18.next z08 (z18.here z08)) rfl) rfl z0a z00 z2d)<|Zn<|gPow [.rd z1c x18.Author,.rd (z02 (z06 32 u8R)) r21,.rd z2r x18.Stamp,.rd z1i x18.Act,.rd z1q x18.Sig] 1047 1048 [.rd z1c x18.Author] [.rd z2r x18.Stamp,.rd z1i x18.Act,.rd z1q x18.Sig] rfl rfl rfl rfl rfl<|gJoi (R:=z0c) (⟨x18.Author,r21,x18.Stamp,x18.Act,x18.Sig⟩:z0g) 1047 rfl (Sp.via (Sp.prod (Sp.prod (Sp.prod (Sp.prod (Sp.prod Sp.unit))))))<|z5m [4,1029,1044,1070,1085] mixed rfl rfl<|hTk 0 rfl rfl (faB 4 rfl rfl Tryz.underlying25 rfl (by exact z2d))<|hTk 2 rfl rfl (faB 1 rfl rfl Tryz.underlying25 rfl (by exact z2d))<|hTk 3 rfl rfl (ld 1 rfl rfl ((Foc.here).part (z0j _)) z8l rfl)<|hTk 4 rfl rfl (mv rfl)<|z0o fun x23 h24=>hTk 5 rfl rfl (ixR rfl rfl h24 tu22 z1p rfl)<|hTk 6 rfl rfl (ldR rfl z49)<|hTk 9 rfl rfl (faB 4 rfl rfl Tryz.underlying25 rfl (by exact z40))<|hTk 11 rfl rfl (ld 1047 rfl rfl Foc.here zg5 rfl)<|z6o [1,7,10,12] (by kernel_rfl) rfl ⟨?_,?_,?_,?_,trivial⟩
      ·
       refine zaz 1 rfl (gd0 rfl) rfl rfl z05 (ldV 4 rfl rfl (At.cast At.here rfl) zqo rfl)<|z6o [7,10,12] (by kernel_rfl) rfl ⟨?_,?_,?_,trivial⟩
       ·
        refine oDo 7 rfl (gd0 rfl) rfl rfl rfl (lit (R:=(z06 32 u8R)) ([x23]:List (Vector UInt8 32)) 1070 (pP rfl rfl<|pN) rfl tu22 z1p rfl rfl) (fun _=>rfl) fun v25=>z6o [8,10,12] (by kernel_rfl) rfl ⟨?_,?_,?_,trivial⟩
        ·
         refine zql 1070 [54] rfl (fS rfl<|fN)<|zfq fun x26 h27=>oDo 8 rfl (gd0 rfl) rfl rfl rfl (apn 1029 rfl rfl rfl .rd h27 tu22 z1p rfl rfl rfl) (fun _=>rfl) fun v28=>z6o [10,12] (by kernel_rfl) rfl ⟨?_,?_,trivial⟩
         ·
          refine zaz 10 rfl (gd0 rfl) rfl rfl z05 (ldV 4 rfl rfl (At.cast (At.next z00 At.here) rfl) zil rfl)<|hTk 14 rfl rfl (faB 4 rfl rfl Tryz.underlying25 rfl (by exact z2d))<|Zo 12 rfl rfl rfl (lit (R:=z0c) ([(⟨x18.Author,r21,x18.Stamp,x18.Act,x18.Sig⟩:z0g)]:List z0g) 1085 (pP rfl rfl<|pN) rfl tu23 z4w rfl rfl) fun v29=>z2z 1085 [59] rfl (fS rfl<|fN)<|z0o fun x30 h31=>Zo 13 rfl rfl rfl (apn 1044 rfl rfl rfl .rd h31 tu23 z4w rfl rfl rfl) fun v32=>Zp 15 rfl rfl rfl rfl rfl (z4e 4 rfl rfl (z18.cast (z18.here z00) rfl) rfl z0a z00 z2d)<|hTk 16 rfl rfl (faB 4 rfl rfl Tryz.underlying25 rfl (by exact z40))<|Zp 17 rfl rfl rfl rfl rfl (z4e 4 rfl rfl (z18.cast (z18.next z00 (z18.here z00)) rfl) rfl z0a z00 z40)<|z0y (by kernel_rfl)<|z1w<|z0d<|z1m<|Zq (I.add rfl rfl)<|Zm rfl<|z1f<|z0r (fun aa ww h=>⟨nvl [v28,v32],Zu h [1,2,1029,1044,4,1002,1001]⟩)
         ·
          refine oDo 12 rfl (gd0 rfl) rfl rfl rfl (lit (R:=z0c) ([(⟨x18.Author,r21,x18.Stamp,x18.Act,x18.Sig⟩:z0g)]:List z0g) 1085 (pP rfl rfl<|pN) rfl tu23 z4w rfl rfl) (fun _=>rfl) fun v33=>zii 10 rfl (by kernel_rfl) (gd0 rfl) rfl rfl z05 (ldV 4 rfl rfl (At.cast (At.next z00 At.here) rfl) zil rfl)<|hTk 14 rfl rfl (faB 4 rfl rfl Tryz.underlying25 rfl (by exact z2d))<|z2z 1085 [59] rfl (fS rfl<|fN)<|z0o fun x34 h35=>Zo 13 rfl rfl rfl (apn 1044 rfl rfl rfl .rd h35 tu23 z4w rfl rfl rfl) fun v36=>Zp 15 rfl rfl rfl rfl rfl (z4e 4 rfl rfl (z18.cast (z18.here z00) rfl) rfl z0a z00 z2d)<|hTk 16 rfl rfl (faB 4 rfl rfl Tryz.underlying25 rfl (by exact z40))<|Zp 17 rfl rfl rfl rfl rfl (z4e 4 rfl rfl (z18.cast (z18.next z00 (z18.here z00)) rfl) rfl z0a z00 z40)<|z0y (by kernel_rfl)<|z1w<|z0d<|z1m<|Zq (I.add rfl rfl)<|Zm rfl<|z1f<|z0r (fun aa ww h=>⟨nvl [v28,v36],Zu h [1,2,1029,1044,4,1002,1001]⟩)
        ·
         refine zaz 10 rfl (gd0 rfl) rfl rfl z05 (ldV 4 rfl rfl (At.cast (At.next z00 At.here) rfl) zil rfl)<|z6o [8,12] (by kernel_rfl) rfl ⟨?_,?_,trivial⟩
         ·
          refine zql 1070 [54] rfl (fS rfl<|fN)<|zfq fun x37 h38=>oDo 8 rfl (gd0 rfl) rfl rfl rfl (apn 1029 rfl rfl rfl .rd h38 tu22 z1p rfl rfl rfl) (fun _=>rfl) fun v39=>hTk 14 rfl rfl (faB 4 rfl rfl Tryz.underlying25 rfl (by exact z2d))<|Zo 12 rfl rfl rfl (lit (R:=z0c) ([(⟨x18.Author,r21,x18.Stamp,x18.Act,x18.Sig⟩:z0g)]:List z0g) 1085 (pP rfl rfl<|pN) rfl tu23 z4w rfl rfl) fun v40=>z2z 1085 [59] rfl (fS rfl<|fN)<|z0o fun x41 h42=>Zo 13 rfl rfl rfl (apn 1044 rfl rfl rfl .rd h42 tu23 z4w rfl rfl rfl) fun v43=>Zp 15 rfl rfl rfl rfl rfl (z4e 4 rfl rfl (z18.cast (z18.here z00) rfl) rfl z0a z00 z2d)<|hTk 16 rfl rfl (faB 4 rfl rfl Tryz.underlying25 rfl (by exact z40))<|Zp 17 rfl rfl rfl rfl rfl (z4e 4 rfl rfl (z18.cast (z18.next z00 (z18.here z00)) rfl) rfl z0a z00 z40)<|z0y (by kernel_rfl)<|z1w<|z0d<|z1m<|Zq (I.add rfl rfl)<|Zm rfl<|z1f<|z0r (fun aa ww h=>⟨nvl [v39,v43],Zu h [1,2,1029,1044,4,1002,1001]⟩)
         ·
          refine oDo 12 rfl (gd0 rfl) rfl rfl rfl (lit (R:=z0c) ([(⟨x18.Author,r21,x18.Stamp,x18.Act,x18.Sig⟩:z0g)]:List z0g) 1085 (pP rfl rfl<|pN) rfl tu23 z4w rfl rfl) (fun _=>rfl) fun v44=>z2z 1070 [54] rfl (fS rfl<|fN)<|z0o fun x45 h46=>Zo 8 rfl rfl rfl (apn 1029 rfl rfl rfl .rd h46 tu22 z1p rfl rfl rfl) fun v47=>hTk 14 rfl rfl (faB 4 rfl rfl Tryz.underlying25 rfl (by exact z2d))<|z2z 1085 [59] rfl (fS rfl<|fN)<|z0o fun x48 h49=>Zo 13 rfl rfl rfl (apn 1044 rfl rfl rfl .rd h49 tu23 z4w rfl rfl rfl) fun v50=>Zp 15 rfl rfl rfl rfl rfl (z4e 4 rfl rfl (z18.cast (z18.here z00) rfl) rfl z0a z00 z2d)<|hTk 16 rfl rfl (faB 4 rfl rfl Tryz.underlying25 rfl (by exact z40))<|Zp 17 rfl rfl rfl rfl rfl (z4e 4 rfl rfl (z18.cast (z18.next z00 (z18.here z00)) rfl) rfl z0a z00 z40)<|z0y (by kernel_rfl)<|z1w<|z0d<|z1m<|Zq (I.add rfl rfl)<|Zm rfl<|z1f<|z0r (fun aa ww h=>⟨nvl [v47,v50],Zu h [1,2,1029,1044,4,1002,1001]⟩)
        ·
         refine oDo 12 rfl (gd0 rfl) rfl rfl rfl (lit (R:=z0c) ([(⟨x18.Author,r21,x18.Stamp,x18.Act,x18.Sig⟩:z0g)]:List z0g) 1085 (pP rfl rfl<|pN) rfl tu23 z4w rfl rfl) (fun _=>rfl) fun v51=>z6o [8,10] (by kernel_rfl) rfl ⟨?_,?_,trivial⟩
         ·
          refine zql 1070 [54] rfl (fS rfl<|fN)<|zfq fun x52 h53=>oDo 8 rfl (gd0 rfl) rfl rfl rfl (apn 1029 rfl rfl rfl .rd h53 tu22 z1p rfl rfl rfl) (fun _=>rfl) fun v54=>zii 10 rfl (by kernel_rfl) (gd0 rfl) rfl rfl z05 (ldV 4 rfl rfl (At.cast (At.next z00 At.here) rfl) zil rfl)<|hTk 14 rfl rfl (faB 4 rfl rfl Tryz.underlying25 rfl (by exact z2d))<|z2z 1085 [59] rfl (fS rfl<|fN)<|z0o fun x55 h56=>Zo 13 rfl rfl rfl (apn 1044 rfl rfl rfl .rd h56 tu23 z4w rfl rfl rfl) fun v57=>Zp 15 rfl rfl rfl rfl rfl (z4e 4 rfl rfl (z18.cast (z18.here z00) rfl) rfl z0a z00 z2d)<|hTk 16 rfl rfl (faB 4 rfl rfl Tryz.underlying25 rfl (by exact z40))<|Zp 17 rfl rfl rfl rfl rfl (z4e 4 rfl rfl (z18.cast (z18.next z00 (z18.here z00)) rfl) rfl z0a z00 z40)<|z0y (by kernel_rfl)<|z1w<|z0d<|z1m<|Zq (I.add rfl rfl)<|Zm rfl<|z1f<|z0r (fun aa ww h=>⟨nvl [v54,v57],Zu h [1,2,1029,1044,4,1002,1001]⟩)
         ·
          refine zaz 10 rfl (gd0 rfl) rfl rfl z05 (ldV 4 rfl rfl (At.cast (At.next z00 At.here) rfl) zil rfl)<|z2z 1070 [54] rfl (fS rfl<|fN)<|z0o fun x58 h59=>Zo 8 rfl rfl rfl (apn 1029 rfl rfl rfl .rd h59 tu22 z1p rfl rfl rfl) fun v60=>hTk 14 rfl rfl (faB 4 rfl rfl Tryz.underlying25 rfl (by exact z2d))<|z2z 1085 [59] rfl (fS rfl<|fN)<|z0o fun x61 h62=>Zo 13 rfl rfl rfl (apn 1044 rfl rfl rfl .rd h62 tu23 z4w rfl rfl rfl) fun v63=>Zp 15 rfl rfl rfl rfl rfl (z4e 4 rfl rfl (z18.cast (z18.here z00) rfl) rfl z0a z00 z2d)<|hTk 16 rfl rfl (faB 4 rfl rfl Tryz.underlying25 rfl (by exact z40))<|Zp 17 rfl rfl rfl rfl rfl (z4e 4 rfl rfl (z18.cast (z18.next z00 (z18.here z00)) rfl) rfl z0a z00 z40)<|z0y (by kernel_rfl)<|z1w<|z0d<|z1m<|Zq (I.add rfl rfl)<|Zm rfl<|z1f<|z0r (fun aa ww h=>⟨nvl [v60,v63],Zu h [1,2,1029,1044,4,1002,1001]⟩)
       ·
        refine zaz 10 rfl (gd0 rfl) rfl rfl z05 (ldV 4 rfl rfl (At.cast (At.next z00 At.here) rfl) zil rfl)<|z6o [7,12] (by kernel_rfl) rfl ⟨?_,?_,trivial⟩
        ·
         refine oDo 7 rfl (gd0 rfl) rfl rfl rfl (lit (R:=(z06 32 u8R)) ([x23]:List (Vector UInt8 32)) 1070 (pP rfl rfl<|pN) rfl tu22 z1p rfl rfl) (fun _=>rfl) fun v64=>z6o [8,12] (by kernel_rfl) rfl ⟨?_,?_,trivial⟩
         ·
          refine zql 1070 [54] rfl (fS rfl<|fN)<|zfq fun x65 h66=>oDo 8 rfl (gd0 rfl) rfl rfl rfl (apn 1029 rfl rfl rfl .rd h66 tu22 z1p rfl rfl rfl) (fun _=>rfl) fun v67=>hTk 14 rfl rfl (faB 4 rfl rfl Tryz.underlying25 rfl (by exact z2d))<|Zo 12 rfl rfl rfl (lit (R:=z0c) ([(⟨x18.Author,r21,x18.Stamp,x18.Act,x18.Sig⟩:z0g)]:List z0g) 1085 (pP rfl rfl<|pN) rfl tu23 z4w rfl rfl) fun v68=>z2z 1085 [59] rfl (fS rfl<|fN)<|z0o fun x69 h70=>Zo 13 rfl rfl rfl (apn 1044 rfl rfl rfl .rd h70 tu23 z4w rfl rfl rfl) fun v71=>Zp 15 rfl rfl rfl rfl rfl (z4e 4 rfl rfl (z18.cast (z18.here z00) rfl) rfl z0a z00 z2d)<|hTk 16 rfl rfl (faB 4 rfl rfl Tryz.underlying25 rfl (by exact z40))<|Zp 17 rfl rfl rfl rfl rfl (z4e 4 rfl rfl (z18.cast (z18.next z00 (z18.here z00)) rfl) rfl z0a z00 z40)<|z0y (by kernel_rfl)<|z1w<|z0d<|z1m<|Zq (I.add rfl rfl)<|Zm rfl<|z1f<|z0r (fun aa ww h=>⟨nvl [v67,v71],Zu h [1,2,1029,1044,4,1002,1001]⟩)
         ·
          refine oDo 12 rfl (gd0 rfl) rfl rfl rfl (lit (R:=z0c) ([(⟨x18.Author,r21,x18.Stamp,x18.Act,x18.Sig⟩:z0g)]:List z0g) 1085 (pP rfl rfl<|pN) rfl tu23 z4w rfl rfl) (fun _=>rfl) fun v72=>z2z 1070 [54] rfl (fS rfl<|fN)<|z0o fun x73 h74=>Zo 8 rfl rfl rfl (apn 1029 rfl rfl rfl .rd h74 tu22 z1p rfl rfl rfl) fun v75=>hTk 14 rfl rfl (faB 4 rfl rfl Tryz.underlying25 rfl (by exact z2d))<|z2z 1085 [59] rfl (fS rfl<|fN)<|z0o fun x76 h77=>Zo 13 rfl rfl rfl (apn 1044 rfl rfl rfl .rd h77 tu23 z4w rfl rfl rfl) fun v78=>Zp 15 rfl rfl rfl rfl rfl (z4e 4 rfl rfl (z18.cast (z18.here z00) rfl) rfl z0a z00 z2d)<|hTk 16 rfl rfl (faB 4 rfl rfl Tryz.underlying25 rfl (by exact z40))<|Zp 17 rfl rfl rfl rfl rfl (z4e 4 rfl rfl (z18.cast (z18.next z00 (z18.here z00)) rfl) rfl z0a z00 z40)<|z0y (by kernel_rfl)<|z1w<|z0d<|z1m<|Zq (I.add rfl rfl)<|Zm rfl<|z1f<|z0r (fun aa ww h=>⟨nvl [v75,v78],Zu h [1,2,1029,1044,4,1002,1001]⟩)
        ·
         refine oDo 12 rfl (gd0 rfl) rfl rfl rfl (lit (R:=z0c) ([(⟨x18.Author,r21,x18.Stamp,x18.Act,x18.Sig⟩:z0g)]:List z0g) 1085 (pP rfl rfl<|pN) rfl tu23 z4w rfl rfl) (fun _=>rfl) fun v79=>Zo 7 rfl rfl rfl (lit (R:=(z06 32 u8R)) ([x23]:List (Vector UInt8 32)) 1070 (pP rfl rfl<|pN) rfl tu22 z1p rfl rfl) fun v80=>z2z 1070 [54] rfl (fS rfl<|fN)<|z0o fun x81 h82=>Zo 8 rfl rfl rfl (apn 1029 rfl rfl rfl .rd h82 tu22 z1p rfl rfl rfl) fun v83=>hTk 14 rfl rfl (faB 4 rfl rfl Tryz.underlying25 rfl (by exact z2d))<|z2z 1085 [59] rfl (fS rfl<|fN)<|z0o fun x84 h85=>Zo 13 rfl rfl rfl (apn 1044 rfl rfl rfl .rd h85 tu23 z4w rfl rfl rfl) fun v86=>Zp 15 rfl rfl rfl rfl rfl (z4e 4 rfl rfl (z18.cast (z18.here z00) rfl) rfl z0a z00 z2d)<|hTk 16 rfl rfl (faB 4 rfl rfl Tryz.underlying25 rfl (by exact z40))<|Zp 17 rfl rfl rfl rfl rfl (z4e 4 rfl rfl (z18.cast (z18.next z00 (z18.here z00)) rfl) rfl z0a z00 z40)<|z0y (by kernel_rfl)<|z1w<|z0d<|z1m<|Zq (I.add rfl rfl)<|Zm rfl<|z1f<|z0r (fun aa ww h=>⟨nvl [v83,v86],Zu h [1,2,1029,1044,4,1002,1001]⟩)
       ·
        refine oDo 12 rfl (gd0 rfl) rfl rfl rfl (lit (R:=z0c) ([(⟨x18.Author,r21,x18.Stamp,x18.Act,x18.Sig⟩:z0g)]:List z0g) 1085 (pP rfl rfl<|pN) rfl tu23 z4w rfl rfl) (fun _=>rfl) fun v87=>z6o [7,10] (by kernel_rfl) rfl ⟨?_,?_,trivial⟩
        ·
         refine oDo 7 rfl (gd0 rfl) rfl rfl rfl (lit (R:=(z06 32 u8R)) ([x23]:List (Vector UInt8 32)) 1070 (pP rfl rfl<|pN) rfl tu22 z1p rfl rfl) (fun _=>rfl) fun v88=>z6o [8,10] (by kernel_rfl) rfl ⟨?_,?_,trivial⟩
         ·
          refine zql 1070 [54] rfl (fS rfl<|fN)<|zfq fun x89 h90=>oDo 8 rfl (gd0 rfl) rfl rfl rfl (apn 1029 rfl rfl rfl .rd h90 tu22 z1p rfl rfl rfl) (fun _=>rfl) fun v91=>zii 10 rfl (by kernel_rfl) (gd0 rfl) rfl rfl z05 (ldV 4 rfl rfl (At.cast (At.next z00 At.here) rfl) zil rfl)<|hTk 14 rfl rfl (faB 4 rfl rfl Tryz.underlying25 rfl (by exact z2d))<|z2z 1085 [59] rfl (fS rfl<|fN)<|z0o fun x92 h93=>Zo 13 rfl rfl rfl (apn 1044 rfl rfl rfl .rd h93 tu23 z4w rfl rfl rfl) fun v94=>Zp 15 rfl rfl rfl rfl rfl (z4e 4 rfl rfl (z18.cast (z18.here z00) rfl) rfl z0a z00 z2d)<|hTk 16 rfl rfl (faB 4 rfl rfl Tryz.underlying25 rfl (by exact z40))<|Zp 17 rfl rfl rfl rfl rfl (z4e 4 rfl rfl (z18.cast (z18.next z00 (z18.here z00)) rfl) rfl z0a z00 z40)<|z0y (by kernel_rfl)<|z1w<|z0d<|z1m<|Zq (I.add rfl rfl)<|Zm rfl<|z1f<|z0r (fun aa ww h=>⟨nvl [v91,v94],Zu h [1,2,1029,1044,4,1002,1001]⟩)
         ·
          refine zaz 10 rfl (gd0 rfl) rfl rfl z05 (ldV 4 rfl rfl (At.cast (At.next z00 At.here) rfl) zil rfl)<|z2z 1070 [54] rfl (fS rfl<|fN)<|z0o fun x95 h96=>Zo 8 rfl rfl rfl (apn 1029 rfl rfl rfl .rd h96 tu22 z1p rfl rfl rfl) fun v97=>hTk 14 rfl rfl (faB 4 rfl rfl Tryz.underlying25 rfl (by exact z2d))<|z2z 1085 [59] rfl (fS rfl<|fN)<|z0o fun x98 h99=>Zo 13 rfl rfl rfl (apn 1044 rfl rfl rfl .rd h99 tu23 z4w rfl rfl rfl) fun v100=>Zp 15 rfl rfl rfl rfl rfl (z4e 4 rfl rfl (z18.cast (z18.here z00) rfl) rfl z0a z00 z2d)<|hTk 16 rfl rfl (faB 4 rfl rfl Tryz.underlying25 rfl (by exact z40))<|Zp 17 rfl rfl rfl rfl rfl (z4e 4 rfl rfl (z18.cast (z18.next z00 (z18.here z00)) rfl) rfl z0a z00 z40)<|z0y (by kernel_rfl)<|z1w<|z0d<|z1m<|Zq (I.add rfl rfl)<|Zm rfl<|z1f<|z0r (fun aa ww h=>⟨nvl [v97,v100],Zu h [1,2,1029,1044,4,1002,1001]⟩)
        ·
         refine zaz 10 rfl (gd0 rfl) rfl rfl z05 (ldV 4 rfl rfl (At.cast (At.next z00 At.here) rfl) zil rfl)<|Zo 7 rfl rfl rfl (lit (R:=(z06 32 u8R)) ([x23]:List (Vector UInt8 32)) 1070 (pP rfl rfl<|pN) rfl tu22 z1p rfl rfl) fun v101=>z2z 1070 [54] rfl (fS rfl<|fN)<|z0o fun x102 h103=>Zo 8 rfl rfl rfl (apn 1029 rfl rfl rfl .rd h103 tu22 z1p rfl rfl rfl) fun v104=>hTk 14 rfl rfl (faB 4 rfl rfl Tryz.underlying25 rfl (by exact z2d))<|z2z 1085 [59] rfl (fS rfl<|fN)<|z0o fun x105 h106=>Zo 13 rfl rfl rfl (apn 1044 rfl rfl rfl .rd h106 tu23 z4w rfl rfl rfl) fun v107=>Zp 15 rfl rfl rfl rfl rfl (z4e 4 rfl rfl (z18.cast (z18.here z00) rfl) rfl z0a z00 z2d)<|hTk 16 rfl rfl (faB 4 rfl rfl Tryz.underlying25 rfl (by exact z40))<|Zp 17 rfl rfl rfl rfl rfl (z4e 4 rfl rfl (z18.cast (z18.next z00 (z18.here z00)) rfl) rfl z0a z00 z40)<|z0y (by kernel_rfl)<|z1w<|z0d<|z1m<|Zq (I.add rfl rfl)<|Zm rfl<|z1f<|z0r (fun aa ww h=>⟨nvl [v104,v107],Zu h [1,2,1029,1044,4,1002,1001]⟩)
      ·
       refine oDo 7 rfl (gd0 rfl) rfl rfl rfl (lit (R:=(z06 32 u8R)) ([x23]:List (Vector UInt8 32)) 1070 (pP rfl rfl<|pN) rfl tu22 z1p rfl rfl) (fun _=>rfl) fun v108=>z6o [1,10,12] (by kernel_rfl) rfl ⟨?_,?_,?_,trivial⟩
       ·
        refine zaz 1 rfl (gd0 rfl) rfl rfl z05 (ldV 4 rfl rfl (At.cast At.here rfl) zqo rfl)<|z6o [8,10,12] (by kernel_rfl) rfl ⟨?_,?_,?_,trivial⟩
        ·
         refine zql 1070 [54] rfl (fS rfl<|fN)<|zfq fun x109 h110=>oDo 8 rfl (gd0 rfl) rfl rfl rfl (apn 1029 rfl rfl rfl .rd h110 tu22 z1p rfl rfl rfl) (fun _=>rfl) fun v111=>z6o [10,12] (by kernel_rfl) rfl ⟨?_,?_,trivial⟩
         ·
          refine zaz 10 rfl (gd0 rfl) rfl rfl z05 (ldV 4 rfl rfl (At.cast (At.next z00 At.here) rfl) zil rfl)<|hTk 14 rfl rfl (faB 4 rfl rfl Tryz.underlying25 rfl (by exact z2d))<|Zo 12 rfl rfl rfl (lit (R:=z0c) ([(⟨x18.Author,r21,x18.Stamp,x18.Act,x18.Sig⟩:z0g)]:List z0g) 1085 (pP rfl rfl<|pN) rfl tu23 z4w rfl rfl) fun v112=>z2z 1085 [59] rfl (fS rfl<|fN)<|z0o fun x113 h114=>Zo 13 rfl rfl rfl (apn 1044 rfl rfl rfl .rd h114 tu23 z4w rfl rfl rfl) fun v115=>Zp 15 rfl rfl rfl rfl rfl (z4e 4 rfl rfl (z18.cast (z18.here z00) rfl) rfl z0a z00 z2d)<|hTk 16 rfl rfl (faB 4 rfl rfl Tryz.underlying25 rfl (by exact z40))<|Zp 17 rfl rfl rfl rfl rfl (z4e 4 rfl rfl (z18.cast (z18.next z00 (z18.here z00)) rfl) rfl z0a z00 z40)<|z0y (by kernel_rfl)<|z1w<|z0d<|z1m<|Zq (I.add rfl rfl)<|Zm rfl<|z1f<|z0r (fun aa ww h=>⟨nvl [v111,v115],Zu h [1,2,1029,1044,4,1002,1001]⟩)
         ·
          refine oDo 12 rfl (gd0 rfl) rfl rfl rfl (lit (R:=z0c) ([(⟨x18.Author,r21,x18.Stamp,x18.Act,x18.Sig⟩:z0g)]:List z0g) 1085 (pP rfl rfl<|pN) rfl tu23 z4w rfl rfl) (fun _=>rfl) fun v116=>zii 10 rfl (by kernel_rfl) (gd0 rfl) rfl rfl z05 (ldV 4 rfl rfl (At.cast (At.next z00 At.here) rfl) zil rfl)<|hTk 14 rfl rfl (faB 4 rfl rfl Tryz.underlying25 rfl (by exact z2d))<|z2z 1085 [59] rfl (fS rfl<|fN)<|z0o fun x117 h118=>Zo 13 rfl rfl rfl (apn 1044 rfl rfl rfl .rd h118 tu23 z4w rfl rfl rfl) fun v119=>Zp 15 rfl rfl rfl rfl rfl (z4e 4 rfl rfl (z18.cast (z18.here z00) rfl) rfl z0a z00 z2d)<|hTk 16 rfl rfl (faB 4 rfl rfl Tryz.underlying25 rfl (by exact z40))<|Zp 17 rfl rfl rfl rfl rfl (z4e 4 rfl rfl (z18.cast (z18.next z00 (z18.here z00)) rfl) rfl z0a z00 z40)<|z0y (by kernel_rfl)<|z1w<|z0d<|z1m<|Zq (I.add rfl rfl)<|Zm rfl<|z1f<|z0r (fun aa ww h=>⟨nvl [v111,v119],Zu h [1,2,1029,1044,4,1002,1001]⟩)
        ·
         refine zaz 10 rfl (gd0 rfl) rfl rfl z05 (ldV 4 rfl rfl (At.cast (At.next z00 At.here) rfl) zil rfl)<|z6o [8,12] (by kernel_rfl) rfl ⟨?_,?_,trivial⟩
         ·
          refine zql 1070 [54] rfl (fS rfl<|fN)<|zfq fun x120 h121=>oDo 8 rfl (gd0 rfl) rfl rfl rfl (apn 1029 rfl rfl rfl .rd h121 tu22 z1p rfl rfl rfl) (fun _=>rfl) fun v122=>hTk 14 rfl rfl (faB 4 rfl rfl Tryz.underlying25 rfl (by exact z2d))<|Zo 12 rfl rfl rfl (lit (R:=z0c) ([(⟨x18.Author,r21,x18.Stamp,x18.Act,x18.Sig⟩:z0g)]:List z0g) 1085 (pP rfl rfl<|pN) rfl tu23 z4w rfl rfl) fun v123=>z2z 1085 [59] rfl (fS rfl<|fN)<|z0o fun x124 h125=>Zo 13 rfl rfl rfl (apn 1044 rfl rfl rfl .rd h125 tu23 z4w rfl rfl rfl) fun v126=>Zp 15 rfl rfl rfl rfl rfl (z4e 4 rfl rfl (z18.cast (z18.here z00) rfl) rfl z0a z00 z2d)<|hTk 16 rfl rfl (faB 4 rfl rfl Tryz.underlying25 rfl (by exact z40))<|Zp 17 rfl rfl rfl rfl rfl (z4e 4 rfl rfl (z18.cast (z18.next z00 (z18.here z00)) rfl) rfl z0a z00 z40)<|z0y (by kernel_rfl)<|z1w<|z0d<|z1m<|Zq (I.add rfl rfl)<|Zm rfl<|z1f<|z0r (fun aa ww h=>⟨nvl [v122,v126],Zu h [1,2,1029,1044,4,1002,1001]⟩)
         ·
          refine oDo 12 rfl (gd0 rfl) rfl rfl rfl (lit (R:=z0c) ([(⟨x18.Author,r21,x18.Stamp,x18.Act,x18.Sig⟩:z0g)]:List z0g) 1085 (pP rfl rfl<|pN) rfl tu23 z4w rfl rfl) (fun _=>rfl) fun v127=>z2z 1070 [54] rfl (fS rfl<|fN)<|z0o fun x128 h129=>Zo 8 rfl rfl rfl (apn 1029 rfl rfl rfl .rd h129 tu22 z1p rfl rfl rfl) fun v130=>hTk 14 rfl rfl (faB 4 rfl rfl Tryz.underlying25 rfl (by exact z2d))<|z2z 1085 [59] rfl (fS rfl<|fN)<|z0o fun x131 h132=>Zo 13 rfl rfl rfl (apn 1044 rfl rfl rfl .rd h132 tu23 z4w rfl rfl rfl) fun v133=>Zp 15 rfl rfl rfl rfl rfl (z4e 4 rfl rfl (z18.cast (z18.here z00) rfl) rfl z0a z00 z2d)<|hTk 16 rfl rfl (faB 4 rfl rfl Tryz.underlying25 rfl (by exact z40))<|Zp 17 rfl rfl rfl rfl rfl (z4e 4 rfl rfl (z18.cast (z18.next z00 (z18.here z00)) rfl) rfl z0a z00 z40)<|z0y (by kernel_rfl)<|z1w<|z0d<|z1m<|Zq (I.add rfl rfl)<|Zm rfl<|z1f<|z0r (fun aa ww h=>⟨nvl [v130,v133],Zu h [1,2,1029,1044,4,1002,1001]⟩)
        ·
         refine oDo 12 rfl (gd0 rfl) rfl rfl rfl (lit (R:=z0c) ([(⟨x18.Author,r21,x18.Stamp,x18.Act,x18.Sig⟩:z0g)]:List z0g) 1085 (pP rfl rfl<|pN) rfl tu23 z4w rfl rfl) (fun _=>rfl) fun v134=>z6o [8,10] (by kernel_rfl) rfl ⟨?_,?_,trivial⟩
         ·
          refine zql 1070 [54] rfl (fS rfl<|fN)<|zfq fun x135 h136=>oDo 8 rfl (gd0 rfl) rfl rfl rfl (apn 1029 rfl rfl rfl .rd h136 tu22 z1p rfl rfl rfl) (fun _=>rfl) fun v137=>zii 10 rfl (by kernel_rfl) (gd0 rfl) rfl rfl z05 (ldV 4 rfl rfl (At.cast (At.next z00 At.here) rfl) zil rfl)<|hTk 14 rfl rfl (faB 4 rfl rfl Tryz.underlying25 rfl (by exact z2d))<|z2z 1085 [59] rfl (fS rfl<|fN)<|z0o fun x138 h139=>Zo 13 rfl rfl rfl (apn 1044 rfl rfl rfl .rd h139 tu23 z4w rfl rfl rfl) fun v140=>Zp 15 rfl rfl rfl rfl rfl (z4e 4 rfl rfl (z18.cast (z18.here z00) rfl) rfl z0a z00 z2d)<|hTk 16 rfl rfl (faB 4 rfl rfl Tryz.underlying25 rfl (by exact z40))<|Zp 17 rfl rfl rfl rfl rfl (z4e 4 rfl rfl (z18.cast (z18.next z00 (z18.here z00)) rfl) rfl z0a z00 z40)<|z0y (by kernel_rfl)<|z1w<|z0d<|z1m<|Zq (I.add rfl rfl)<|Zm rfl<|z1f<|z0r (fun aa ww h=>⟨nvl [v137,v140],Zu h [1,2,1029,1044,4,1002,1001]⟩)
         ·
          refine zaz 10 rfl (gd0 rfl) rfl rfl z05 (ldV 4 rfl rfl (At.cast (At.next z00 At.here) rfl) zil rfl)<|z2z 1070 [54] rfl (fS rfl<|fN)<|z0o fun x141 h142=>Zo 8 rfl rfl rfl (apn 1029 rfl rfl rfl .rd h142 tu22 z1p rfl rfl rfl) fun v143=>hTk 14 rfl rfl (faB 4 rfl rfl Tryz.underlying25 rfl (by exact z2d))<|z2z 1085 [59] rfl (fS rfl<|fN)<|z0o fun x144 h145=>Zo 13 rfl rfl rfl (apn 1044 rfl rfl rfl .rd h145 tu23 z4w rfl rfl rfl) fun v146=>Zp 15 rfl rfl rfl rfl rfl (z4e 4 rfl rfl (z18.cast (z18.here z00) rfl) rfl z0a z00 z2d)<|hTk 16 rfl rfl (faB 4 rfl rfl Tryz.underlying25 rfl (by exact z40))<|Zp 17 rfl rfl rfl rfl rfl (z4e 4 rfl rfl (z18.cast (z18.next z00 (z18.here z00)) rfl) rfl z0a z00 z40)<|z0y (by kernel_rfl)<|z1w<|z0d<|z1m<|Zq (I.add rfl rfl)<|Zm rfl<|z1f<|z0r (fun aa ww h=>⟨nvl [v143,v146],Zu h [1,2,1029,1044,4,1002,1001]⟩)
       ·
        refine zaz 10 rfl (gd0 rfl) rfl rfl z05 (ldV 4 rfl rfl (At.cast (At.next z00 At.here) rfl) zil rfl)<|z6o [1,12] (by kernel_rfl) rfl ⟨?_,?_,trivial⟩
        ·
         refine zaz 1 rfl (gd0 rfl) rfl rfl z05 (ldV 4 rfl rfl (At.cast At.here rfl) zqo rfl)<|z6o [8,12] (by kernel_rfl) rfl ⟨?_,?_,trivial⟩
         ·
          refine zql 1070 [54] rfl (fS rfl<|fN)<|zfq fun x147 h148=>oDo 8 rfl (gd0 rfl) rfl rfl rfl (apn 1029 rfl rfl rfl .rd h148 tu22 z1p rfl rfl rfl) (fun _=>rfl) fun v149=>hTk 14 rfl rfl (faB 4 rfl rfl Tryz.underlying25 rfl (by exact z2d))<|Zo 12 rfl rfl rfl (lit (R:=z0c) ([(⟨x18.Author,r21,x18.Stamp,x18.Act,x18.Sig⟩:z0g)]:List z0g) 1085 (pP rfl rfl<|pN) rfl tu23 z4w rfl rfl) fun v150=>z2z 1085 [59] rfl (fS rfl<|fN)<|z0o fun x151 h152=>Zo 13 rfl rfl rfl (apn 1044 rfl rfl rfl .rd h152 tu23 z4w rfl rfl rfl) fun v153=>Zp 15 rfl rfl rfl rfl rfl (z4e 4 rfl rfl (z18.cast (z18.here z00) rfl) rfl z0a z00 z2d)<|hTk 16 rfl rfl (faB 4 rfl rfl Tryz.underlying25 rfl (by exact z40))<|Zp 17 rfl rfl rfl rfl rfl (z4e 4 rfl rfl (z18.cast (z18.next z00 (z18.here z00)) rfl) rfl z0a z00 z40)<|z0y (by kernel_rfl)<|z1w<|z0d<|z1m<|Zq (I.add rfl rfl)<|Zm rfl<|z1f<|z0r (fun aa ww h=>⟨nvl [v149,v153],Zu h [1,2,1029,1044,4,1002,1001]⟩)
         ·
          refine oDo 12 rfl (gd0 rfl) rfl rfl rfl (lit (R:=z0c) ([(⟨x18.Author,r21,x18.Stamp,x18.Act,x18.Sig⟩:z0g)]:List z0g) 1085 (pP rfl rfl<|pN) rfl tu23 z4w rfl rfl) (fun _=>rfl) fun v154=>z2z 1070 [54] rfl (fS rfl<|fN)<|z0o fun x155 h156=>Zo 8 rfl rfl rfl (apn 1029 rfl rfl rfl .rd h156 tu22 z1p rfl rfl rfl) fun v157=>hTk 14 rfl rfl (faB 4 rfl rfl Tryz.underlying25 rfl (by exact z2d))<|z2z 1085 [59] rfl (fS rfl<|fN)<|z0o fun x158 h159=>Zo 13 rfl rfl rfl (apn 1044 rfl rfl rfl .rd h159 tu23 z4w rfl rfl rfl) fun v160=>Zp 15 rfl rfl rfl rfl rfl (z4e 4 rfl rfl (z18.cast (z18.here z00) rfl) rfl z0a z00 z2d)<|hTk 16 rfl rfl (faB 4 rfl rfl Tryz.underlying25 rfl (by exact z40))<|Zp 17 rfl rfl rfl rfl rfl (z4e 4 rfl rfl (z18.cast (z18.next z00 (z18.here z00)) rfl) rfl z0a z00 z40)<|z0y (by kernel_rfl)<|z1w<|z0d<|z1m<|Zq (I.add rfl rfl)<|Zm rfl<|z1f<|z0r (fun aa ww h=>⟨nvl [v157,v160],Zu h [1,2,1029,1044,4,1002,1001]⟩)
        ·
         refine oDo 12 rfl (gd0 rfl) rfl rfl rfl (lit (R:=z0c) ([(⟨x18.Author,r21,x18.Stamp,x18.Act,x18.Sig⟩:z0g)]:List z0g) 1085 (pP rfl rfl<|pN) rfl tu23 z4w rfl rfl) (fun _=>rfl) fun v161=>zii 1 rfl (by kernel_rfl) (gd0 rfl) rfl rfl z05 (ldV 4 rfl rfl (At.cast At.here rfl) zqo rfl)<|z2z 1070 [54] rfl (fS rfl<|fN)<|z0o fun x162 h163=>Zo 8 rfl rfl rfl (apn 1029 rfl rfl rfl .rd h163 tu22 z1p rfl rfl rfl) fun v164=>hTk 14 rfl rfl (faB 4 rfl rfl Tryz.underlying25 rfl (by exact z2d))<|z2z 1085 [59] rfl (fS rfl<|fN)<|z0o fun x165 h166=>Zo 13 rfl rfl rfl (apn 1044 rfl rfl rfl .rd h166 tu23 z4w rfl rfl rfl) fun v167=>Zp 15 rfl rfl rfl rfl rfl (z4e 4 rfl rfl (z18.cast (z18.here z00) rfl) rfl z0a z00 z2d)<|hTk 16 rfl rfl (faB 4 rfl rfl Tryz.underlying25 rfl (by exact z40))<|Zp 17 rfl rfl rfl rfl rfl (z4e 4 rfl rfl (z18.cast (z18.next z00 (z18.here z00)) rfl) rfl z0a z00 z40)<|z0y (by kernel_rfl)<|z1w<|z0d<|z1m<|Zq (I.add rfl rfl)<|Zm rfl<|z1f<|z0r (fun aa ww h=>⟨nvl [v164,v167],Zu h [1,2,1029,1044,4,1002,1001]⟩)
       ·
        refine oDo 12 rfl (gd0 rfl) rfl rfl rfl (lit (R:=z0c) ([(⟨x18.Author,r21,x18.Stamp,x18.Act,x18.Sig⟩:z0g)]:List z0g) 1085 (pP rfl rfl<|pN) rfl tu23 z4w rfl rfl) (fun _=>rfl) fun v168=>z6o [1,10] (by kernel_rfl) rfl ⟨?_,?_,trivial⟩
        ·
         refine zaz 1 rfl (gd0 rfl) rfl rfl z05 (ldV 4 rfl rfl (At.cast At.here rfl) zqo rfl)<|z6o [8,10] (by kernel_rfl) rfl ⟨?_,?_,trivial⟩
         ·
          refine zql 1070 [54] rfl (fS rfl<|fN)<|zfq fun x169 h170=>oDo 8 rfl (gd0 rfl) rfl rfl rfl (apn 1029 rfl rfl rfl .rd h170 tu22 z1p rfl rfl rfl) (fun _=>rfl) fun v171=>zii 10 rfl (by kernel_rfl) (gd0 rfl) rfl rfl z05 (ldV 4 rfl rfl (At.cast (At.next z00 At.here) rfl) zil rfl)<|hTk 14 rfl rfl (faB 4 rfl rfl Tryz.underlying25 rfl (by exact z2d))<|z2z 1085 [59] rfl (fS rfl<|fN)<|z0o fun x172 h173=>Zo 13 rfl rfl rfl (apn 1044 rfl rfl rfl .rd h173 tu23 z4w rfl rfl rfl) fun v174=>Zp 15 rfl rfl rfl rfl rfl (z4e 4 rfl rfl (z18.cast (z18.here z00) rfl) rfl z0a z00 z2d)<|hTk 16 rfl rfl (faB 4 rfl rfl Tryz.underlying25 rfl (by exact z40))<|Zp 17 rfl rfl rfl rfl rfl (z4e 4 rfl rfl (z18.cast (z18.next z00 (z18.here z00)) rfl) rfl z0a z00 z40)<|z0y (by kernel_rfl)<|z1w<|z0d<|z1m<|Zq (I.add rfl rfl)<|Zm rfl<|z1f<|z0r (fun aa ww h=>⟨nvl [v171,v174],Zu h [1,2,1029,1044,4,1002,1001]⟩)
         ·
          refine zaz 10 rfl (gd0 rfl) rfl rfl z05 (ldV 4 rfl rfl (At.cast (At.next z00 At.here) rfl) zil rfl)<|z2z 1070 [54] rfl (fS rfl<|fN)<|z0o fun x175 h176=>Zo 8 rfl rfl rfl (apn 1029 rfl rfl rfl .rd h176 tu22 z1p rfl rfl rfl) fun v177=>hTk 14 rfl rfl (faB 4 rfl rfl Tryz.underlying25 rfl (by exact z2d))<|z2z 1085 [59] rfl (fS rfl<|fN)<|z0o fun x178 h179=>Zo 13 rfl rfl rfl (apn 1044 rfl rfl rfl .rd h179 tu23 z4w rfl rfl rfl) fun v180=>Zp 15 rfl rfl rfl rfl rfl (z4e 4 rfl rfl (z18.cast (z18.here z00) rfl) rfl z0a z00 z2d)<|hTk 16 rfl rfl (faB 4 rfl rfl Tryz.underlying25 rfl (by exact z40))<|Zp 17 rfl rfl rfl rfl rfl (z4e 4 rfl rfl (z18.cast (z18.next z00 (z18.here z00)) rfl) rfl z0a z00 z40)<|z0y (by kernel_rfl)<|z1w<|z0d<|z1m<|Zq (I.add rfl rfl)<|Zm rfl<|z1f<|z0r (fun aa ww h=>⟨nvl [v177,v180],Zu h [1,2,1029,1044,4,1002,1001]⟩)
        ·
         refine zaz 10 rfl (gd0 rfl) rfl rfl z05 (ldV 4 rfl rfl (At.cast (At.next z00 At.here) rfl) zil rfl)<|zii 1 rfl (by kernel_rfl) (gd0 rfl) rfl rfl z05 (ldV 4 rfl rfl (At.cast At.here rfl) zqo rfl)<|z2z 1070 [54] rfl (fS rfl<|fN)<|z0o fun x181 h182=>Zo 8 rfl rfl rfl (apn 1029 rfl rfl rfl .rd h182 tu22 z1p rfl rfl rfl) fun v183=>hTk 14 rfl rfl (faB 4 rfl rfl Tryz.underlying25 rfl (by exact z2d))<|z2z 1085 [59] rfl (fS rfl<|fN)<|z0o fun x184 h185=>Zo 13 rfl rfl rfl (apn 1044 rfl rfl rfl .rd h185 tu23 z4w rfl rfl rfl) fun v186=>Zp 15 rfl rfl rfl rfl rfl (z4e 4 rfl rfl (z18.cast (z18.here z00) rfl) rfl z0a z00 z2d)<|hTk 16 rfl rfl (faB 4 rfl rfl Tryz.underlying25 rfl (by exact z40))<|Zp 17 rfl rfl rfl rfl rfl (z4e 4 rfl rfl (z18.cast (z18.next z00 (z18.here z00)) rfl) rfl z0a z00 z40)<|z0y (by kernel_rfl)<|z1w<|z0d<|z1m<|Zq (I.add rfl rfl)<|Zm rfl<|z1f<|z0r (fun aa ww h=>⟨nvl [v183,v186],Zu h [1,2,1029,1044,4,1002,1001]⟩)
      ·
       refine zaz 10 rfl (gd0 rfl) rfl rfl z05 (ldV 4 rfl rfl (At.cast (At.next z00 At.here) rfl) zil rfl)<|z6o [1,7,12] (by kernel_rfl) rfl ⟨?_,?_,?_,trivial⟩
       ·
        refine zaz 1 rfl (gd0 rfl) rfl rfl z05 (ldV 4 rfl rfl (At.cast At.here rfl) zqo rfl)<|z6o [7,12] (by kernel_rfl) rfl ⟨?_,?_,trivial⟩
        ·
         refine oDo 7 rfl (gd0 rfl) rfl rfl rfl (lit (R:=(z06 32 u8R)) ([x23]:List (Vector UInt8 32)) 1070 (pP rfl rfl<|pN) rfl tu22 z1p rfl rfl) (fun _=>rfl) fun v187=>z6o [8,12] (by kernel_rfl) rfl ⟨?_,?_,trivial⟩
         ·
          refine zql 1070 [54] rfl (fS rfl<|fN)<|zfq fun x188 h189=>oDo 8 rfl (gd0 rfl) rfl rfl rfl (apn 1029 rfl rfl rfl .rd h189 tu22 z1p rfl rfl rfl) (fun _=>rfl) fun v190=>hTk 14 rfl rfl (faB 4 rfl rfl Tryz.underlying25 rfl (by exact z2d))<|Zo 12 rfl rfl rfl (lit (R:=z0c) ([(⟨x18.Author,r21,x18.Stamp,x18.Act,x18.Sig⟩:z0g)]:List z0g) 1085 (pP rfl rfl<|pN) rfl tu23 z4w rfl rfl) fun v191=>z2z 1085 [59] rfl (fS rfl<|fN)<|z0o fun x192 h193=>Zo 13 rfl rfl rfl (apn 1044 rfl rfl rfl .rd h193 tu23 z4w rfl rfl rfl) fun v194=>Zp 15 rfl rfl rfl rfl rfl (z4e 4 rfl rfl (z18.cast (z18.here z00) rfl) rfl z0a z00 z2d)<|hTk 16 rfl rfl (faB 4 rfl rfl Tryz.underlying25 rfl (by exact z40))<|Zp 17 rfl rfl rfl rfl rfl (z4e 4 rfl rfl (z18.cast (z18.next z00 (z18.here z00)) rfl) rfl z0a z00 z40)<|z0y (by kernel_rfl)<|z1w<|z0d<|z1m<|Zq (I.add rfl rfl)<|Zm rfl<|z1f<|z0r (fun aa ww h=>⟨nvl [v190,v194],Zu h [1,2,1029,1044,4,1002,1001]⟩)
         ·
          refine oDo 12 rfl (gd0 rfl) rfl rfl rfl (lit (R:=z0c) ([(⟨x18.Author,r21,x18.Stamp,x18.Act,x18.Sig⟩:z0g)]:List z0g) 1085 (pP rfl rfl<|pN) rfl tu23 z4w rfl rfl) (fun _=>rfl) fun v195=>z2z 1070 [54] rfl (fS rfl<|fN)<|z0o fun x196 h197=>Zo 8 rfl rfl rfl (apn 1029 rfl rfl rfl .rd h197 tu22 z1p rfl rfl rfl) fun v198=>hTk 14 rfl rfl (faB 4 rfl rfl Tryz.underlying25 rfl (by exact z2d))<|z2z 1085 [59] rfl (fS rfl<|fN)<|z0o fun x199 h200=>Zo 13 rfl rfl rfl (apn 1044 rfl rfl rfl .rd h200 tu23 z4w rfl rfl rfl) fun v201=>Zp 15 rfl rfl rfl rfl rfl (z4e 4 rfl rfl (z18.cast (z18.here z00) rfl) rfl z0a z00 z2d)<|hTk 16 rfl rfl (faB 4 rfl rfl Tryz.underlying25 rfl (by exact z40))<|Zp 17 rfl rfl rfl rfl rfl (z4e 4 rfl rfl (z18.cast (z18.next z00 (z18.here z00)) rfl) rfl z0a z00 z40)<|z0y (by kernel_rfl)<|z1w<|z0d<|z1m<|Zq (I.add rfl rfl)<|Zm rfl<|z1f<|z0r (fun aa ww h=>⟨nvl [v198,v201],Zu h [1,2,1029,1044,4,1002,1001]⟩)
        ·
         refine oDo 12 rfl (gd0 rfl) rfl rfl rfl (lit (R:=z0c) ([(⟨x18.Author,r21,x18.Stamp,x18.Act,x18.Sig⟩:z0g)]:List z0g) 1085 (pP rfl rfl<|pN) rfl tu23 z4w rfl rfl) (fun _=>rfl) fun v202=>Zo 7 rfl rfl rfl (lit (R:=(z06 32 u8R)) ([x23]:List (Vector UInt8 32)) 1070 (pP rfl rfl<|pN) rfl tu22 z1p rfl rfl) fun v203=>z2z 1070 [54] rfl (fS rfl<|fN)<|z0o fun x204 h205=>Zo 8 rfl rfl rfl (apn 1029 rfl rfl rfl .rd h205 tu22 z1p rfl rfl rfl) fun v206=>hTk 14 rfl rfl (faB 4 rfl rfl Tryz.underlying25 rfl (by exact z2d))<|z2z 1085 [59] rfl (fS rfl<|fN)<|z0o fun x207 h208=>Zo 13 rfl rfl rfl (apn 1044 rfl rfl rfl .rd h208 tu23 z4w rfl rfl rfl) fun v209=>Zp 15 rfl rfl rfl rfl rfl (z4e 4 rfl rfl (z18.cast (z18.here z00) rfl) rfl z0a z00 z2d)<|hTk 16 rfl rfl (faB 4 rfl rfl Tryz.underlying25 rfl (by exact z40))<|Zp 17 rfl rfl rfl rfl rfl (z4e 4 rfl rfl (z18.cast (z18.next z00 (z18.here z00)) rfl) rfl z0a z00 z40)<|z0y (by kernel_rfl)<|z1w<|z0d<|z1m<|Zq (I.add rfl rfl)<|Zm rfl<|z1f<|z0r (fun aa ww h=>⟨nvl [v206,v209],Zu h [1,2,1029,1044,4,1002,1001]⟩)
       ·
        refine oDo 7 rfl (gd0 rfl) rfl rfl rfl (lit (R:=(z06 32 u8R)) ([x23]:List (Vector UInt8 32)) 1070 (pP rfl rfl<|pN) rfl tu22 z1p rfl rfl) (fun _=>rfl) fun v210=>z6o [1,12] (by kernel_rfl) rfl ⟨?_,?_,trivial⟩
        ·
         refine zaz 1 rfl (gd0 rfl) rfl rfl z05 (ldV 4 rfl rfl (At.cast At.here rfl) zqo rfl)<|z6o [8,12] (by kernel_rfl) rfl ⟨?_,?_,trivial⟩
         ·
          refine zql 1070 [54] rfl (fS rfl<|fN)<|zfq fun x211 h212=>oDo 8 rfl (gd0 rfl) rfl rfl rfl (apn 1029 rfl rfl rfl .rd h212 tu22 z1p rfl rfl rfl) (fun _=>rfl) fun v213=>hTk 14 rfl rfl (faB 4 rfl rfl Tryz.underlying25 rfl (by exact z2d))<|Zo 12 rfl rfl rfl (lit (R:=z0c) ([(⟨x18.Author,r21,x18.Stamp,x18.Act,x18.Sig⟩:z0g)]:List z0g) 1085 (pP rfl rfl<|pN) rfl tu23 z4w rfl rfl) fun v214=>z2z 1085 [59] rfl (fS rfl<|fN)<|z0o fun x215 h216=>Zo 13 rfl rfl rfl (apn 1044 rfl rfl rfl .rd h216 tu23 z4w rfl rfl rfl) fun v217=>Zp 15 rfl rfl rfl rfl rfl (z4e 4 rfl rfl (z18.cast (z18.here z00) rfl) rfl z0a z00 z2d)<|hTk 16 rfl rfl (faB 4 rfl rfl Tryz.underlying25 rfl (by exact z40))<|Zp 17 rfl rfl rfl rfl rfl (z4e 4 rfl rfl (z18.cast (z18.next z00 (z18.here z00)) rfl) rfl z0a z00 z40)<|z0y (by kernel_rfl)<|z1w<|z0d<|z1m<|Zq (I.add rfl rfl)<|Zm rfl<|z1f<|z0r (fun aa ww h=>⟨nvl [v213,v217],Zu h [1,2,1029,1044,4,1002,1001]⟩)
         ·
          refine oDo 12 rfl (gd0 rfl) rfl rfl rfl (lit (R:=z0c) ([(⟨x18.Author,r21,x18.Stamp,x18.Act,x18.Sig⟩:z0g)]:List z0g) 1085 (pP rfl rfl<|pN) rfl tu23 z4w rfl rfl) (fun _=>rfl) fun v218=>z2z 1070 [54] rfl (fS rfl<|fN)<|z0o fun x219 h220=>Zo 8 rfl rfl rfl (apn 1029 rfl rfl rfl .rd h220 tu22 z1p rfl rfl rfl) fun v221=>hTk 14 rfl rfl (faB 4 rfl rfl Tryz.underlying25 rfl (by exact z2d))<|z2z 1085 [59] rfl (fS rfl<|fN)<|z0o fun x222 h223=>Zo 13 rfl rfl rfl (apn 1044 rfl rfl rfl .rd h223 tu23 z4w rfl rfl rfl) fun v224=>Zp 15 rfl rfl rfl rfl rfl (z4e 4 rfl rfl (z18.cast (z18.here z00) rfl) rfl z0a z00 z2d)<|hTk 16 rfl rfl (faB 4 rfl rfl Tryz.underlying25 rfl (by exact z40))<|Zp 17 rfl rfl rfl rfl rfl (z4e 4 rfl rfl (z18.cast (z18.next z00 (z18.here z00)) rfl) rfl z0a z00 z40)<|z0y (by kernel_rfl)<|z1w<|z0d<|z1m<|Zq (I.add rfl rfl)<|Zm rfl<|z1f<|z0r (fun aa ww h=>⟨nvl [v221,v224],Zu h [1,2,1029,1044,4,1002,1001]⟩)
        ·
         refine oDo 12 rfl (gd0 rfl) rfl rfl rfl (lit (R:=z0c) ([(⟨x18.Author,r21,x18.Stamp,x18.Act,x18.Sig⟩:z0g)]:List z0g) 1085 (pP rfl rfl<|pN) rfl tu23 z4w rfl rfl) (fun _=>rfl) fun v225=>zii 1 rfl (by kernel_rfl) (gd0 rfl) rfl rfl z05 (ldV 4 rfl rfl (At.cast At.here rfl) zqo rfl)<|z2z 1070 [54] rfl (fS rfl<|fN)<|z0o fun x226 h227=>Zo 8 rfl rfl rfl (apn 1029 rfl rfl rfl .rd h227 tu22 z1p rfl rfl rfl) fun v228=>hTk 14 rfl rfl (faB 4 rfl rfl Tryz.underlying25 rfl (by exact z2d))<|z2z 1085 [59] rfl (fS rfl<|fN)<|z0o fun x229 h230=>Zo 13 rfl rfl rfl (apn 1044 rfl rfl rfl .rd h230 tu23 z4w rfl rfl rfl) fun v231=>Zp 15 rfl rfl rfl rfl rfl (z4e 4 rfl rfl (z18.cast (z18.here z00) rfl) rfl z0a z00 z2d)<|hTk 16 rfl rfl (faB 4 rfl rfl Tryz.underlying25 rfl (by exact z40))<|Zp 17 rfl rfl rfl rfl rfl (z4e 4 rfl rfl (z18.cast (z18.next z00 (z18.here z00)) rfl) rfl z0a z00 z40)<|z0y (by kernel_rfl)<|z1w<|z0d<|z1m<|Zq (I.add rfl rfl)<|Zm rfl<|z1f<|z0r (fun aa ww h=>⟨nvl [v228,v231],Zu h [1,2,1029,1044,4,1002,1001]⟩)
       ·
        refine oDo 12 rfl (gd0 rfl) rfl rfl rfl (lit (R:=z0c) ([(⟨x18.Author,r21,x18.Stamp,x18.Act,x18.Sig⟩:z0g)]:List z0g) 1085 (pP rfl rfl<|pN) rfl tu23 z4w rfl rfl) (fun _=>rfl) fun v232=>z6o [1,7] (by kernel_rfl) rfl ⟨?_,?_,trivial⟩
        ·
         refine zaz 1 rfl (gd0 rfl) rfl rfl z05 (ldV 4 rfl rfl (At.cast At.here rfl) zqo rfl)<|Zo 7 rfl rfl rfl (lit (R:=(z06 32 u8R)) ([x23]:List (Vector UInt8 32)) 1070 (pP rfl rfl<|pN) rfl tu22 z1p rfl rfl) fun v233=>z2z 1070 [54] rfl (fS rfl<|fN)<|z0o fun x234 h235=>Zo 8 rfl rfl rfl (apn 1029 rfl rfl rfl .rd h235 tu22 z1p rfl rfl rfl) fun v236=>hTk 14 rfl rfl (faB 4 rfl rfl Tryz.underlying25 rfl (by exact z2d))<|z2z 1085 [59] rfl (fS rfl<|fN)<|z0o fun x237 h238=>Zo 13 rfl rfl rfl (apn 1044 rfl rfl rfl .rd h238 tu23 z4w rfl rfl rfl) fun v239=>Zp 15 rfl rfl rfl rfl rfl (z4e 4 rfl rfl (z18.cast (z18.here z00) rfl) rfl z0a z00 z2d)<|hTk 16 rfl rfl (faB 4 rfl rfl Tryz.underlying25 rfl (by exact z40))<|Zp 17 rfl rfl rfl rfl rfl (z4e 4 rfl rfl (z18.cast (z18.next z00 (z18.here z00)) rfl) rfl z0a z00 z40)<|z0y (by kernel_rfl)<|z1w<|z0d<|z1m<|Zq (I.add rfl rfl)<|Zm rfl<|z1f<|z0r (fun aa ww h=>⟨nvl [v236,v239],Zu h [1,2,1029,1044,4,1002,1001]⟩)
        ·
         refine oDo 7 rfl (gd0 rfl) rfl rfl rfl (lit (R:=(z06 32 u8R)) ([x23]:List (Vector UInt8 32)) 1070 (pP rfl rfl<|pN) rfl tu22 z1p rfl rfl) (fun _=>rfl) fun v240=>zii 1 rfl (by kernel_rfl) (gd0 rfl) rfl rfl z05 (ldV 4 rfl rfl (At.cast At.here rfl) zqo rfl)<|z2z 1070 [54] rfl (fS rfl<|fN)<|z0o fun x241 h242=>Zo 8 rfl rfl rfl (apn 1029 rfl rfl rfl .rd h242 tu22 z1p rfl rfl rfl) fun v243=>hTk 14 rfl rfl (faB 4 rfl rfl Tryz.underlying25 rfl (by exact z2d))<|z2z 1085 [59] rfl (fS rfl<|fN)<|z0o fun x244 h245=>Zo 13 rfl rfl rfl (apn 1044 rfl rfl rfl .rd h245 tu23 z4w rfl rfl rfl) fun v246=>Zp 15 rfl rfl rfl rfl rfl (z4e 4 rfl rfl (z18.cast (z18.here z00) rfl) rfl z0a z00 z2d)<|hTk 16 rfl rfl (faB 4 rfl rfl Tryz.underlying25 rfl (by exact z40))<|Zp 17 rfl rfl rfl rfl rfl (z4e 4 rfl rfl (z18.cast (z18.next z00 (z18.here z00)) rfl) rfl z0a z00 z40)<|z0y (by kernel_rfl)<|z1w<|z0d<|z1m<|Zq (I.add rfl rfl)<|Zm rfl<|z1f<|z0r (fun aa ww h=>⟨nvl [v243,v246],Zu h [1,2,1029,1044,4,1002,1001]⟩)
      ·
       refine oDo 12 rfl (gd0 rfl) rfl rfl rfl (lit (R:=z0c) ([(⟨x18.Author,r21,x18.Stamp,x18.Act,x18.Sig⟩:z0g)]:List z0g) 1085 (pP rfl rfl<|pN) rfl tu23 z4w rfl rfl) (fun _=>rfl) fun v247=>z6o [1,7,10] (by kernel_rfl) rfl ⟨?_,?_,?_,trivial⟩
       ·
        refine zaz 1 rfl (gd0 rfl) rfl rfl z05 (ldV 4 rfl rfl (At.cast At.here rfl) zqo rfl)<|z6o [7,10] (by kernel_rfl) rfl ⟨?_,?_,trivial⟩
        ·
         refine oDo 7 rfl (gd0 rfl) rfl rfl rfl (lit (R:=(z06 32 u8R)) ([x23]:List (Vector UInt8 32)) 1070 (pP rfl rfl<|pN) rfl tu22 z1p rfl rfl) (fun _=>rfl) fun v248=>z6o [8,10] (by kernel_rfl) rfl ⟨?_,?_,trivial⟩
         ·
          refine zql 1070 [54] rfl (fS rfl<|fN)<|zfq fun x249 h250=>oDo 8 rfl (gd0 rfl) rfl rfl rfl (apn 1029 rfl rfl rfl .rd h250 tu22 z1p rfl rfl rfl) (fun _=>rfl) fun v251=>zii 10 rfl (by kernel_rfl) (gd0 rfl) rfl rfl z05 (ldV 4 rfl rfl (At.cast (At.next z00 At.here) rfl) zil rfl)<|hTk 14 rfl rfl (faB 4 rfl rfl Tryz.underlying25 rfl (by exact z2d))<|z2z 1085 [59] rfl (fS rfl<|fN)<|z0o fun x252 h253=>Zo 13 rfl rfl rfl (apn 1044 rfl rfl rfl .rd h253 tu23 z4w rfl rfl rfl) fun v254=>Zp 15 rfl rfl rfl rfl rfl (z4e 4 rfl rfl (z18.cast (z18.here z00) rfl) rfl z0a z00 z2d)<|hTk 16 rfl rfl (faB 4 rfl rfl Tryz.underlying25 rfl (by exact z40))<|Zp 17 rfl rfl rfl rfl rfl (z4e 4 rfl rfl (z18.cast (z18.next z00 (z18.here z00)) rfl) rfl z0a z00 z40)<|z0y (by kernel_rfl)<|z1w<|z0d<|z1m<|Zq (I.add rfl rfl)<|Zm rfl<|z1f<|z0r (fun aa ww h=>⟨nvl [v251,v254],Zu h [1,2,1029,1044,4,1002,1001]⟩)
         ·
          refine zaz 10 rfl (gd0 rfl) rfl rfl z05 (ldV 4 rfl rfl (At.cast (At.next z00 At.here) rfl) zil rfl)<|z2z 1070 [54] rfl (fS rfl<|fN)<|z0o fun x255 h256=>Zo 8 rfl rfl rfl (apn 1029 rfl rfl rfl .rd h256 tu22 z1p rfl rfl rfl) fun v257=>hTk 14 rfl rfl (faB 4 rfl rfl Tryz.underlying25 rfl (by exact z2d))<|z2z 1085 [59] rfl (fS rfl<|fN)<|z0o fun x258 h259=>Zo 13 rfl rfl rfl (apn 1044 rfl rfl rfl .rd h259 tu23 z4w rfl rfl rfl) fun v260=>Zp 15 rfl rfl rfl rfl rfl (z4e 4 rfl rfl (z18.cast (z18.here z00) rfl) rfl z0a z00 z2d)<|hTk 16 rfl rfl (faB 4 rfl rfl Tryz.underlying25 rfl (by exact z40))<|Zp 17 rfl rfl rfl rfl rfl (z4e 4 rfl rfl (z18.cast (z18.next z00 (z18.here z00)) rfl) rfl z0a z00 z40)<|z0y (by kernel_rfl)<|z1w<|z0d<|z1m<|Zq (I.add rfl rfl)<|Zm rfl<|z1f<|z0r (fun aa ww h=>⟨nvl [v257,v260],Zu h [1,2,1029,1044,4,1002,1001]⟩)
        ·
         refine zaz 10 rfl (gd0 rfl) rfl rfl z05 (ldV 4 rfl rfl (At.cast (At.next z00 At.here) rfl) zil rfl)<|Zo 7 rfl rfl rfl (lit (R:=(z06 32 u8R)) ([x23]:List (Vector UInt8 32)) 1070 (pP rfl rfl<|pN) rfl tu22 z1p rfl rfl) fun v261=>z2z 1070 [54] rfl (fS rfl<|fN)<|z0o fun x262 h263=>Zo 8 rfl rfl rfl (apn 1029 rfl rfl rfl .rd h263 tu22 z1p rfl rfl rfl) fun v264=>hTk 14 rfl rfl (faB 4 rfl rfl Tryz.underlying25 rfl (by exact z2d))<|z2z 1085 [59] rfl (fS rfl<|fN)<|z0o fun x265 h266=>Zo 13 rfl rfl rfl (apn 1044 rfl rfl rfl .rd h266 tu23 z4w rfl rfl rfl) fun v267=>Zp 15 rfl rfl rfl rfl rfl (z4e 4 rfl rfl (z18.cast (z18.here z00) rfl) rfl z0a z00 z2d)<|hTk 16 rfl rfl (faB 4 rfl rfl Tryz.underlying25 rfl (by exact z40))<|Zp 17 rfl rfl rfl rfl rfl (z4e 4 rfl rfl (z18.cast (z18.next z00 (z18.here z00)) rfl) rfl z0a z00 z40)<|z0y (by kernel_rfl)<|z1w<|z0d<|z1m<|Zq (I.add rfl rfl)<|Zm rfl<|z1f<|z0r (fun aa ww h=>⟨nvl [v264,v267],Zu h [1,2,1029,1044,4,1002,1001]⟩)
       ·
        refine oDo 7 rfl (gd0 rfl) rfl rfl rfl (lit (R:=(z06 32 u8R)) ([x23]:List (Vector UInt8 32)) 1070 (pP rfl rfl<|pN) rfl tu22 z1p rfl rfl) (fun _=>rfl) fun v268=>z6o [1,10] (by kernel_rfl) rfl ⟨?_,?_,trivial⟩
        ·
         refine zaz 1 rfl (gd0 rfl) rfl rfl z05 (ldV 4 rfl rfl (At.cast At.here rfl) zqo rfl)<|z6o [8,10] (by kernel_rfl) rfl ⟨?_,?_,trivial⟩
         ·
          refine zql 1070 [54] rfl (fS rfl<|fN)<|zfq fun x269 h270=>oDo 8 rfl (gd0 rfl) rfl rfl rfl (apn 1029 rfl rfl rfl .rd h270 tu22 z1p rfl rfl rfl) (fun _=>rfl) fun v271=>zii 10 rfl (by kernel_rfl) (gd0 rfl) rfl rfl z05 (ldV 4 rfl rfl (At.cast (At.next z00 At.here) rfl) zil rfl)<|hTk 14 rfl rfl (faB 4 rfl rfl Tryz.underlying25 rfl (by exact z2d))<|z2z 1085 [59] rfl (fS rfl<|fN)<|z0o fun x272 h273=>Zo 13 rfl rfl rfl (apn 1044 rfl rfl rfl .rd h273 tu23 z4w rfl rfl rfl) fun v274=>Zp 15 rfl rfl rfl rfl rfl (z4e 4 rfl rfl (z18.cast (z18.here z00) rfl) rfl z0a z00 z2d)<|hTk 16 rfl rfl (faB 4 rfl rfl Tryz.underlying25 rfl (by exact z40))<|Zp 17 rfl rfl rfl rfl rfl (z4e 4 rfl rfl (z18.cast (z18.next z00 (z18.here z00)) rfl) rfl z0a z00 z40)<|z0y (by kernel_rfl)<|z1w<|z0d<|z1m<|Zq (I.add rfl rfl)<|Zm rfl<|z1f<|z0r (fun aa ww h=>⟨nvl [v271,v274],Zu h [1,2,1029,1044,4,1002,1001]⟩)
         ·
          refine zaz 10 rfl (gd0 rfl) rfl rfl z05 (ldV 4 rfl rfl (At.cast (At.next z00 At.here) rfl) zil rfl)<|z2z 1070 [54] rfl (fS rfl<|fN)<|z0o fun x275 h276=>Zo 8 rfl rfl rfl (apn 1029 rfl rfl rfl .rd h276 tu22 z1p rfl rfl rfl) fun v277=>hTk 14 rfl rfl (faB 4 rfl rfl Tryz.underlying25 rfl (by exact z2d))<|z2z 1085 [59] rfl (fS rfl<|fN)<|z0o fun x278 h279=>Zo 13 rfl rfl rfl (apn 1044 rfl rfl rfl .rd h279 tu23 z4w rfl rfl rfl) fun v280=>Zp 15 rfl rfl rfl rfl rfl (z4e 4 rfl rfl (z18.cast (z18.here z00) rfl) rfl z0a z00 z2d)<|hTk 16 rfl rfl (faB 4 rfl rfl Tryz.underlying25 rfl (by exact z40))<|Zp 17 rfl rfl rfl rfl rfl (z4e 4 rfl rfl (z18.cast (z18.next z00 (z18.here z00)) rfl) rfl z0a z00 z40)<|z0y (by kernel_rfl)<|z1w<|z0d<|z1m<|Zq (I.add rfl rfl)<|Zm rfl<|z1f<|z0r (fun aa ww h=>⟨nvl [v277,v280],Zu h [1,2,1029,1044,4,1002,1001]⟩)
        ·
         refine zaz 10 rfl (gd0 rfl) rfl rfl z05 (ldV 4 rfl rfl (At.cast (At.next z00 At.here) rfl) zil rfl)<|zii 1 rfl (by kernel_rfl) (gd0 rfl) rfl rfl z05 (ldV 4 rfl rfl (At.cast At.here rfl) zqo rfl)<|z2z 1070 [54] rfl (fS rfl<|fN)<|z0o fun x281 h282=>Zo 8 rfl rfl rfl (apn 1029 rfl rfl rfl .rd h282 tu22 z1p rfl rfl rfl) fun v283=>hTk 14 rfl rfl (faB 4 rfl rfl Tryz.underlying25 rfl (by exact z2d))<|z2z 1085 [59] rfl (fS rfl<|fN)<|z0o fun x284 h285=>Zo 13 rfl rfl rfl (apn 1044 rfl rfl rfl .rd h285 tu23 z4w rfl rfl rfl) fun v286=>Zp 15 rfl rfl rfl rfl rfl (z4e 4 rfl rfl (z18.cast (z18.here z00) rfl) rfl z0a z00 z2d)<|hTk 16 rfl rfl (faB 4 rfl rfl Tryz.underlying25 rfl (by exact z40))<|Zp 17 rfl rfl rfl rfl rfl (z4e 4 rfl rfl (z18.cast (z18.next z00 (z18.here z00)) rfl) rfl z0a z00 z40)<|z0y (by kernel_rfl)<|z1w<|z0d<|z1m<|Zq (I.add rfl rfl)<|Zm rfl<|z1f<|z0r (fun aa ww h=>⟨nvl [v283,v286],Zu h [1,2,1029,1044,4,1002,1001]⟩)
       ·
        refine zaz 10 rfl (gd0 rfl) rfl rfl z05 (ldV 4 rfl rfl (At.cast (At.next z00 At.here) rfl) zil rfl)<|z6o [1,7] (by kernel_rfl) rfl ⟨?_,?_,trivial⟩
        ·
         refine zaz 1 rfl (gd0 rfl) rfl rfl z05 (ldV 4 rfl rfl (At.cast At.here rfl) zqo rfl)<|Zo 7 rfl rfl rfl (lit (R:=(z06 32 u8R)) ([x23]:List (Vector UInt8 32)) 1070 (pP rfl rfl<|pN) rfl tu22 z1p rfl rfl) fun v287=>z2z 1070 [54] rfl (fS rfl<|fN)<|z0o fun x288 h289=>Zo 8 rfl rfl rfl (apn 1029 rfl rfl rfl .rd h289 tu22 z1p rfl rfl rfl) fun v290=>hTk 14 rfl rfl (faB 4 rfl rfl Tryz.underlying25 rfl (by exact z2d))<|z2z 1085 [59] rfl (fS rfl<|fN)<|z0o fun x291 h292=>Zo 13 rfl rfl rfl (apn 1044 rfl rfl rfl .rd h292 tu23 z4w rfl rfl rfl) fun v293=>Zp 15 rfl rfl rfl rfl rfl (z4e 4 rfl rfl (z18.cast (z18.here z00) rfl) rfl z0a z00 z2d)<|hTk 16 rfl rfl (faB 4 rfl rfl Tryz.underlying25 rfl (by exact z40))<|Zp 17 rfl rfl rfl rfl rfl (z4e 4 rfl rfl (z18.cast (z18.next z00 (z18.here z00)) rfl) rfl z0a z00 z40)<|z0y (by kernel_rfl)<|z1w<|z0d<|z1m<|Zq (I.add rfl rfl)<|Zm rfl<|z1f<|z0r (fun aa ww h=>⟨nvl [v290,v293],Zu h [1,2,1029,1044,4,1002,1001]⟩)
        ·
         refine oDo 7 rfl (gd0 rfl) rfl rfl rfl (lit (R:=(z06 32 u8R)) ([x23]:List (Vector UInt8 32)) 1070 (pP rfl rfl<|pN) rfl tu22 z1p rfl rfl) (fun _=>rfl) fun v294=>zii 1 rfl (by kernel_rfl) (gd0 rfl) rfl rfl z05 (ldV 4 rfl rfl (At.cast At.here rfl) zqo rfl)<|z2z 1070 [54] rfl (fS rfl<|fN)<|z0o fun x295 h296=>Zo 8 rfl rfl rfl (apn 1029 rfl rfl rfl .rd h296 tu22 z1p rfl rfl rfl) fun v297=>hTk 14 rfl rfl (faB 4 rfl rfl Tryz.underlying25 rfl (by exact z2d))<|z2z 1085 [59] rfl (fS rfl<|fN)<|z0o fun x298 h299=>Zo 13 rfl rfl rfl (apn 1044 rfl rfl rfl .rd h299 tu23 z4w rfl rfl rfl) fun v300=>Zp 15 rfl rfl rfl rfl rfl (z4e 4 rfl rfl (z18.cast (z18.here z00) rfl) rfl z0a z00 z2d)<|hTk 16 rfl rfl (faB 4 rfl rfl Tryz.underlying25 rfl (by exact z40))<|Zp 17 rfl rfl rfl rfl rfl (z4e 4 rfl rfl (z18.cast (z18.next z00 (z18.here z00)) rfl) rfl z0a z00 z40)<|z0y (by kernel_rfl)<|z1w<|z0d<|z1m<|Zq (I.add rfl rfl)<|Zm rfl<|z1f<|z0r (fun aa ww h=>⟨nvl [v297,v300],Zu h [1,2,1029,1044,4,1002,1001]⟩)
     ·
      refine gKn 36 rfl h17<|gKn 10 rfl h17<|z2l<|z1w<|z0d<|z1m<|Zq (I.add rfl rfl)<|Zm rfl<|z1f<|z0r (fun aa ww h=>⟨nvl [(n13 0),(n13 1)],Zu h [1,2,1029,1044,4,1002,1001]⟩)
    ·
     refine z1z<|z13<|z14<|z2x (fun aa ww h=>⟨nvl [(n13 0),(n13 1)],Zu h [2,1029,1044,4,1001]⟩)
   ·
    refine gEx fun n301=>gSR<|zuy [.rd (z02 (z06 32 u8R)) s9.1,.val (n301 1)] 4 32 [] [.val (n301 1)] rfl rfl rfl rfl rfl<|zuy [.rd (z02 (z06 32 u8R)) s9.1,.rd (z02 z0c) s9.2] 4 47 [.rd (z02 (z06 32 u8R)) s9.1] [] rfl rfl rfl rfl rfl<|zks (R:=z03) (⟨s9.1,s9.2⟩:z01) 4 rfl (Sp.via (Sp.prod (Sp.prod Sp.unit)))<|Zq (ld 4 rfl rfl Foc.here z99 rfl)<|znn (z06 32 u8R) [.rd (z02 (z06 32 u8R)) [],.val (.slice none 0 0)] 2 [] [.val (.slice none 0 0)] rfl rfl rfl<|znn z0c [.rd (z02 (z06 32 u8R)) [],.rd (z02 z0c) []] 2 [.rd (z02 (z06 32 u8R)) []] [] rfl rfl rfl<|zks (R:=z03) (⟨[],[]⟩:z01) 2 rfl (Sp.via (Sp.prod (Sp.prod Sp.unit)))<|Es (sto 2 rfl rfl Foc.here rfl zn7)<|Za rfl<|Zn<|z0m<|zge [] [1001] rfl (eC 2 rfl rfl z99<|eE rfl<|eN) (y1 rfl)
def z9y (a0:Vector UInt8 32) (c1_0:z01):Option (Bool) :=
 z2b c1_0.IDs a0 >>= fun r2 =>
 some (!r2)
theorem zg0 (a0:Vector UInt8 32) (p1_0:Value) (c1_0:z01):z27 Tryz.prog 82 [.rd (z06 32 u8R) a0,.val (z09 p1_0 0)] [(1,some (p1_0,.box 25 [.rd z03 c1_0]))] (z9y a0 c1_0) (fun r nv=>⟨[.rd z0n r],[(1,some (p1_0,.box 25 [.rd z03 c1_0]))]⟩):=by
 refine z2n 9 Tryz.func82 rfl rfl rfl fun H w=>?_
 refine gSR<|Eb rfl (bx 2 rfl) fun v1=>Za rfl<|Zn<|gSR<|Zq (faB 1 rfl rfl Tryz.underlying25 rfl (by exact z2d))<|Zq (ld 1 rfl rfl ((Foc.here).part (z0j _)) z8l rfl)<|Zq (ld 2 rfl rfl Foc.here z49 rfl)<|Zc [] [] Tryz.func77 rfl (z3k _ _) fun r2 n3=>Zq (zcy rfl)<|Za rfl<|Zn<|z0m<|Ze [] [1] rfl
def z6j (a0:List (Vector UInt8 32)) (c1_0:z01) (s2:Int):Option (Sum (Sum Int Unit) Int) :=
 if decide (s2<(a0.length:Int)) then
  idx a0 s2 >>= fun x4 =>
  z9y x4 c1_0 >>= fun r6 =>
  if r6 then
   some (.inl (.inl s2))
  else
   some (.inr (w64 (s2+1)))
 else
  some (.inl (.inr ()))
def z3s (a0:List (Vector UInt8 32)) (c1_0:z01):Option (Int) :=
 z5p (iter (z6j a0 c1_0) 0) fun s1 =>
 some (-1)
theorem z6f (a0:List (Vector UInt8 32)) (q0:Value) (l0:List (Vector UInt8 32)) (p1_0:Value) (c1_0:z01):z27 Tryz.prog 114 [.vw (z06 32 u8R) q0 l0 a0,.val (.func (.func 82) #[] #[z09 p1_0 0])] [(1,some (q0,.list (z06 32 u8R) 62 l0)),(2,some (p1_0,.box 25 [.rd z03 c1_0]))] (z3s a0 c1_0) (fun r nv=>⟨[.rd z0k r],[(1,some (q0,.list (z06 32 u8R) 62 l0)),(2,some (p1_0,.box 25 [.rd z03 c1_0]))]⟩):=by
 refine z2n 19 Tryz.func114 rfl rfl rfl fun H w=>?_
 refine gSR<|Za rfl<|Zn<|z7k (fun (s1:Unit) aa ww=>Sta (ctx 19 H [(1,some (q0,.list (z06 32 u8R) 62 l0)),(2,some (p1_0,.box 25 [.rd z03 c1_0]))] w) [] [(1,some (q0,.list (z06 32 u8R) 62 l0)),(2,some (p1_0,.box 25 [.rd z03 c1_0]))] aa ww) ?_ (fun s1=>?_)
 ·
  refine gSR<|Zm rfl<|Zq (z37 rfl (.vw 1 rfl) rfl tu22)<|Zm rfl<|Zn<|z2h (fun (s2:Int) aa ww=>Sta (ctx 19 H [(1,some (q0,.list (z06 32 u8R) 62 l0)),(2,some (p1_0,.box 25 [.rd z03 c1_0]))] w) [(0,.vw (z06 32 u8R) q0 l0 a0),(1,.val (.func (.func 82) #[] #[z09 p1_0 0])),(7,.rd z0k (a0.length:Int)),(8,.rd z0k s2)] [(1,some (q0,.list (z06 32 u8R) 62 l0)),(2,some (p1_0,.box 25 [.rd z03 c1_0]))] aa ww) (fun aa ww h=>Zu h [1,2]) (fun s2=>?_)
  refine gSR<|Zq (I.lss rfl rfl)<|Zn<|z0w<|gIf rfl rfl (fun h3=>?_) (fun h3=>?_)
  ·
   refine Zt<|z0w<|z4q<|gSR<|Zm rfl<|Za rfl<|Zn<|gSR<|Zm rfl<|Zm rfl<|Zm rfl<|z0s fun x4 h5=>Zq (ixQ 1 rfl rfl rfl h5 tu22 z1p)<|Zq (ldQ 1 rfl rfl z49 rfl)<|zgf [2] [(1,2)] (gd0 rfl) rfl rfl Tryz.func82 rfl rfl (zg0 _ _ _) (Y1 rfl) (cQ 2 rfl<|cN) (y1 rfl) fun r6 n7=>Zn<|gIf rfl rfl (fun h8=>?_) (fun h8=>?_)
   ·
    refine gSR<|Zm rfl<|Za rfl<|Zn<|z0m<|z4a<|z12<|z7g<|z54<|Ze [] [1,2] rfl
   ·
    refine z2l<|z1w<|z0d<|z1m<|Zq (I.add rfl rfl)<|Zm rfl<|z1f<|z0r (fun aa ww h=>Zu h [1,2])
  ·
   refine z1z<|z13<|z14<|z4s (fun aa ww h=>Zu h [1,2])
 ·
  refine gSR<|Za rfl<|Zn<|z0m<|Ze [] [1,2] rfl
def z6u (c1_0:z01) (s5:(List (Vector UInt8 32)) × Int × Int):Option (Sum ((List (Vector UInt8 32)) × Int) ((List (Vector UInt8 32)) × Int × Int)) :=
 if decide (s5.2.2<(s5.1.length:Int)) then
  idx s5.1 s5.2.2 >>= fun x7 =>
  z9y x7 c1_0 >>= fun r10 =>
  if !r10 then
   idx s5.1 s5.2.1 >>= fun x13 =>
   some (w64 (s5.2.1+1)) >>= fun y15 =>
   some (w64 (s5.2.2+1)) >>= fun y16 =>
   some (.inr (s5.1.set (s5.2.1:Int).toNat x7,y15,y16))
  else
   some (w64 (s5.2.2+1)) >>= fun y17 =>
   some (.inr (s5.1,s5.2.1,y17))
 else
  some (.inl (s5.1,s5.2.1))
def z23 (c0:List (Vector UInt8 32)) (c1_0:z01):Option ((List (Vector UInt8 32))) :=
 z3s c0 c1_0 >>= fun r1 =>
 if r1==(-1) then
  some c0
 else
  (iter (z6u c1_0) (c0,r1,w64 (r1+1))) >>= fun s4 =>
  chk (0≤s4.2∧s4.2≤(s4.1.length:Int)∧(s4.1.length:Int)≤(s4.1.length:Int)) >>= fun u18 =>
  chk ((s4.2:Int).toNat+(((s4.1.length:Int):Int).toNat - (s4.2:Int).toNat)≤s4.1.length) >>= fun u20 =>
  cut (clr s4.1 ((s4.2:Int).toNat) (((s4.1.length:Int):Int).toNat - (s4.2:Int).toNat) (Vector.replicate 32 0)) 0 s4.2 >>= fun x22 =>
  some x22
end
section
open Go Go.RowKit
set_option maxRecDepth 100000
theorem z72 (p0:Value) (c0:List (Vector UInt8 32)) (p1_0:Value) (c1_0:z01):z27 Tryz.prog 75 [.val p0,.val (.func (.func 82) #[] #[z09 p1_0 0])] [(1,some (p0,.list (z06 32 u8R) 62 c0)),(2,some (p1_0,.box 25 [.rd z03 c1_0]))] (z23 c0 c1_0) (fun r nv=>⟨[.val (nv 0)],[(2,some (p1_0,.box 25 [.rd z03 c1_0])),(100,some (nv 0,.list (z06 32 u8R) 62 r))]⟩):=by
 refine z2n 42 Tryz.func75 rfl rfl rfl fun H w=>?_
 refine gSR<|Za rfl<|Zn<|gSR<|Zm rfl<|Zm rfl<|call [1,2] [(1,1),(2,2)] rfl Tryz.func114 rfl rfl (z6f _ _ _ _ _) (aW rfl<|aQ rfl<|aN) (Zi rfl<|Zi rfl<|rN) fun r1 n2=>Za rfl<|Zn<|z0w<|gSR<|Zm rfl<|Zq (I.eql rfl rfl)<|Zn<|gIf rfl rfl (fun h3=>?_) (fun h3=>?_)
 ·
  refine gSR<|Zm rfl<|Za rfl<|Zn<|z0m<|z12<|Ze [p0] [2,1] rfl
 ·
  refine Zt<|z7f (fun (s4:(List (Vector UInt8 32)) × Int) aa ww=>Sta (ctx 42 H [(1,some (p0,.list (z06 32 u8R) 62 c0)),(2,some (p1_0,.box 25 [.rd z03 c1_0]))] w) [(0,.val p0),(5,.rd z0k s4.2)] [(1,some (p0,.list (z06 32 u8R) 62 s4.1)),(2,some (p1_0,.box 25 [.rd z03 c1_0]))] aa ww) ?_ (fun s4=>?_)
  ·
   refine gSR<|Zm rfl<|Zq (I.add rfl rfl)<|Za rfl<|Zn<|z2h (fun (s5:(List (Vector UInt8 32)) × Int × Int) aa ww=>Sta (ctx 42 H [(1,some (p0,.list (z06 32 u8R) 62 c0)),(2,some (p1_0,.box 25 [.rd z03 c1_0]))] w) [(0,.val p0),(1,.val (.func (.func 82) #[] #[z09 p1_0 0])),(5,.rd z0k s5.2.1),(6,.rd z0k s5.2.2)] [(1,some (p0,.list (z06 32 u8R) 62 s5.1)),(2,some (p1_0,.box 25 [.rd z03 c1_0]))] aa ww) (fun aa ww h=>Zu h [1,2]) (fun s5=>?_)
   refine z0w<|gSR<|Zm rfl<|Zm rfl<|Zq (z37 rfl (.own 1 rfl) rfl tu22)<|Zq (I.lss rfl rfl)<|Zn<|gIf rfl rfl (fun h6=>?_) (fun h6=>?_)
   ·
    refine Zt<|z0w<|z4q<|gSR<|Zm rfl<|Zm rfl<|z0s fun x7 h8=>Zq (ixO 1 rfl rfl rfl h8 tu22 z1p)<|Zq (ld 1 rfl rfl (Foc.el h8) z49 rfl)<|Eb rfl (z7s 3 z1p (.zr (R:=(z06 32 u8R)) (x:=(Vector.replicate 32 0)) zj3)) fun v9=>Es (sto 3 rfl rfl Foc.here rfl z1p)<|Zn<|gSR<|Zm rfl<|Zq (ld 3 rfl rfl Foc.here z49 rfl)<|zgf [2] [(1,2)] (gd0 rfl) rfl rfl Tryz.func82 rfl rfl (zg0 _ _ _) (Y1 rfl) (cQ 2 rfl<|cN) (y1 rfl) fun r10 n11=>Zq (zcy rfl)<|Zn<|gIf rfl rfl (fun h12=>?_) (fun h12=>?_)
    ·
     refine gSR<|Zm rfl<|Zm rfl<|Zq (ld 3 rfl rfl Foc.here z49 rfl)<|z0s fun x13 h14=>Zq (ixO 1 rfl rfl rfl h14 tu22 z1p)<|Es (sto 1 rfl rfl (Foc.el h14) rfl z1p)<|Zn<|z1m<|Zm rfl<|Zq (I.add rfl rfl)<|Za rfl<|z1e 5 rfl fun y15=>z1f<|z1w<|z0d<|z1m<|Zm rfl<|Zq (I.add rfl rfl)<|Za rfl<|z1e 6 rfl fun y16=>z1f<|z0r (fun aa ww h=>Zu h [1,2])
    ·
     refine z2l<|z1w<|z0d<|z1m<|Zm rfl<|Zq (I.add rfl rfl)<|Za rfl<|z1e 6 rfl fun y17=>z1f<|z0r (fun aa ww h=>Zu h [1,2])
   ·
    refine z1z<|z13<|z14<|z2x (fun aa ww h=>Zu h [1,2])
  ·
   refine gSR<|Zm rfl<|Zm rfl<|z0s fun u18 h19=>Zq (zt1 1 rfl rfl (.to rfl) .no (z44 h19) tu22 z1p)<|z0s fun u20 h21=>EsV (clrS 1 rfl rfl (z44 h21) rfl tu22 z1p zj3 rfl)<|Zn<|gSR<|Zm rfl<|Zm rfl<|z0s fun x22 h23=>Ef rfl (cutO 1 rfl rfl rfl h23 tu22 z1p) fun v24=>Za rfl<|Zn<|z0m<|Ze [v24] [2,1] rfl
def zb0 (a0:z01) (a1:List (Vector UInt8 32)):Option ((List (Vector UInt8 32))) :=
 z1h a1 >>= fun r2 =>
 z23 r2 a0 >>= fun r4 =>
 zmp r4 >>= fun r6 =>
 z19 r6 >>= fun r8 =>
 zc8 a0 r8 >>= fun r10 =>
 some r10.1.IDs
theorem z2j (a0:z01) (a1:List (Vector UInt8 32)):z27 Tryz.prog 47 [.rd z03 a0,.rd (z02 (z06 32 u8R)) a1] [zG1] (zb0 a0 a1) (fun r nv=>⟨[.rd (z02 (z06 32 u8R)) r],[(1001,some (.bool true,.glob 1 (z06 64 z1c) z8f))]⟩):=by
 refine z2n 23 Tryz.func47 rfl rfl rfl fun H w=>?_
 refine gSR<|Eb rfl (bx 1 rfl) fun v1=>Za rfl<|Zn<|gSR<|Zm rfl<|Zc [] [(100,2)] Tryz.func46 rfl (z2a _) fun r2 n3=>Zq (mkf mp0 (mp1 rfl))<|Zc [2,1] [(100,3),(2,1)] Tryz.func75 rfl (z72 _ _ _ _) fun r4 n5=>Za rfl<|Zn<|gSR<|Zm rfl<|Zc [3] [(1,3)] Tryz.func78 rfl (zow _ _) fun r6 n7=>Zn<|z0w<|z5m [3,10,25,1001] mixed rfl rfl<|hTk 0 rfl rfl (ld 1 rfl rfl Foc.here z99 rfl)<|hTk 1 rfl rfl (mv rfl)<|z6o [2,7] (by kernel_rfl) rfl ⟨?_,?_,trivial⟩
 ·
  refine z4z 2 [3] [(100,10)] rfl rfl (gd0 rfl) rfl Tryz.func80 rfl rfl (z31 _ _) (Y1 rfl) (y1 rfl) rfl (fun _ _=>z05) fun r8 n9=>z6o [3,7] (by kernel_rfl) rfl ⟨?_,?_,trivial⟩
  ·
   refine zql 10 [17] rfl (fS rfl<|fN)<|zhr 3 [1001] [] rfl rfl (gd0 rfl) rfl Tryz.func83 rfl rfl (zc3 _ _) (Y2 rfl rfl) (y1 rfl) rfl fun r10 n11=>zbw 4 rfl (by kernel_rfl) (by kernel_rfl) (by kernel_rfl) (gd0 rfl) rfl rfl (mv rfl)<|zbw 5 rfl (by kernel_rfl) (by kernel_rfl) (by kernel_rfl) (gd0 rfl) rfl rfl (ext rfl rfl)<|Zf 6 rfl rfl z07 (ext rfl rfl)<|zzt 7 rfl (by kernel_rfl) (gd0 rfl) rfl rfl rfl (z7s 25 zn7 (ZrE.nilS (ZrE.nilS ZrE.nil))) fun v12=>hPnl (z06 32 u8R) [.rd (z02 (z06 32 u8R)) [],.val (.slice none 0 0)] 25 [] [.val (.slice none 0 0)] rfl rfl rfl<|hPnl z0c [.rd (z02 (z06 32 u8R)) [],.rd (z02 z0c) []] 25 [.rd (z02 (z06 32 u8R)) []] [] rfl rfl rfl<|hJoi (R:=z03) (⟨[],[]⟩:z01) 25 rfl (Sp.via (Sp.prod (Sp.prod Sp.unit)))<|Zp 8 rfl rfl rfl rfl rfl (sto 25 rfl rfl Foc.here rfl zn7)<|hTk 9 rfl rfl (asg rfl)<|z0y (by kernel_rfl)<|z0d<|gSR<|Zq (faB 25 rfl rfl Tryz.underlying25 rfl (by exact z2d))<|Zq (ld 25 rfl rfl ((Foc.here).part (z0j _)) z8l rfl)<|Za rfl<|Zn<|z0m<|Ze [] [1001] rfl
  ·
   refine zo1 7 rfl (gd0 rfl) rfl rfl rfl (z7s 25 zn7 (ZrE.nilS (ZrE.nilS ZrE.nil))) fun v13=>z2z 10 [17] rfl (fS rfl<|fN)<|zd9 3 [1001] [] rfl (by kernel_rfl) rfl (gd0 rfl) rfl Tryz.func83 rfl rfl (zc3 _ _) (Y2 rfl rfl) (y1 rfl) rfl fun r14 n15=>zbw 4 rfl (by kernel_rfl) (by kernel_rfl) (by kernel_rfl) (gd0 rfl) rfl rfl (mv rfl)<|zbw 5 rfl (by kernel_rfl) (by kernel_rfl) (by kernel_rfl) (gd0 rfl) rfl rfl (ext rfl rfl)<|Zf 6 rfl rfl z07 (ext rfl rfl)<|hPnl (z06 32 u8R) [.rd (z02 (z06 32 u8R)) [],.val (.slice none 0 0)] 25 [] [.val (.slice none 0 0)] rfl rfl rfl<|hPnl z0c [.rd (z02 (z06 32 u8R)) [],.rd (z02 z0c) []] 25 [.rd (z02 (z06 32 u8R)) []] [] rfl rfl rfl<|hJoi (R:=z03) (⟨[],[]⟩:z01) 25 rfl (Sp.via (Sp.prod (Sp.prod Sp.unit)))<|Zp 8 rfl rfl rfl rfl rfl (sto 25 rfl rfl Foc.here rfl zn7)<|hTk 9 rfl rfl (asg rfl)<|z0y (by kernel_rfl)<|z0d<|gSR<|Zq (faB 25 rfl rfl Tryz.underlying25 rfl (by exact z2d))<|Zq (ld 25 rfl rfl ((Foc.here).part (z0j _)) z8l rfl)<|Za rfl<|Zn<|z0m<|Ze [] [1001] rfl
 ·
  refine zo1 7 rfl (gd0 rfl) rfl rfl rfl (z7s 25 zn7 (ZrE.nilS (ZrE.nilS ZrE.nil))) fun v16=>z10 2 [3] [(100,10)] rfl (by kernel_rfl) rfl (gd0 rfl) rfl Tryz.func80 rfl rfl (z31 _ _) (Y1 rfl) (y1 rfl) rfl (fun _ _=>z05) fun r17 n18=>z2z 10 [17] rfl (fS rfl<|fN)<|zd9 3 [1001] [] rfl (by kernel_rfl) rfl (gd0 rfl) rfl Tryz.func83 rfl rfl (zc3 _ _) (Y2 rfl rfl) (y1 rfl) rfl fun r19 n20=>zbw 4 rfl (by kernel_rfl) (by kernel_rfl) (by kernel_rfl) (gd0 rfl) rfl rfl (mv rfl)<|zbw 5 rfl (by kernel_rfl) (by kernel_rfl) (by kernel_rfl) (gd0 rfl) rfl rfl (ext rfl rfl)<|Zf 6 rfl rfl z07 (ext rfl rfl)<|hPnl (z06 32 u8R) [.rd (z02 (z06 32 u8R)) [],.val (.slice none 0 0)] 25 [] [.val (.slice none 0 0)] rfl rfl rfl<|hPnl z0c [.rd (z02 (z06 32 u8R)) [],.rd (z02 z0c) []] 25 [.rd (z02 (z06 32 u8R)) []] [] rfl rfl rfl<|hJoi (R:=z03) (⟨[],[]⟩:z01) 25 rfl (Sp.via (Sp.prod (Sp.prod Sp.unit)))<|Zp 8 rfl rfl rfl rfl rfl (sto 25 rfl rfl Foc.here rfl zn7)<|hTk 9 rfl rfl (asg rfl)<|z0y (by kernel_rfl)<|z0d<|gSR<|Zq (faB 25 rfl rfl Tryz.underlying25 rfl (by exact z2d))<|Zq (ld 25 rfl rfl ((Foc.here).part (z0j _)) z8l rfl)<|Za rfl<|Zn<|z0m<|Ze [] [1001] rfl
def zf9 (a0:z01) (a1:List (Vector UInt8 32)):Option ((List (Vector UInt8 32)) × Int) :=
 z8a a0 [a1] >>= fun r3 =>
 if r3 != 0 then
  some ([],r3)
 else
  zb0 a0 a1 >>= fun r6 =>
  z1h r6 >>= fun r8 =>
  some (r8,0)
theorem zmt (a0:z01) (a1:List (Vector UInt8 32)):z27 Tryz.prog 14 [.rd z03 a0,.rd (z02 (z06 32 u8R)) a1] [zG1] (zf9 a0 a1) (fun r nv=>⟨[.val (nv 0),.rd z0k r.2],[(1001,some (.bool true,.glob 1 (z06 64 z1c) z8f)),(100,some (nv 0,.list (z06 32 u8R) 62 r.1))]⟩):=by
 refine z2n 18 Tryz.func14 rfl rfl rfl fun H w=>?_
 refine gSR<|Eb rfl (bx 1 rfl) fun v1=>Za rfl<|Za rfl<|Zn<|z0w<|gSR<|Zq (ld 1 rfl rfl Foc.here z99 rfl)<|Zm rfl<|Ef rfl (lit (R:=(z02 (z06 32 u8R))) ([a1]:List (List (Vector UInt8 32))) 2 (pP rfl rfl<|pN) rfl Tryz.underlying110 z2d rfl rfl) fun v2=>zgv 2 [9] rfl (fS rfl<|fN)<|Zc [1001] [] Tryz.func43 rfl (zcb _ _) fun r3 n4=>Za rfl<|Zn<|gSR<|Zm rfl<|Zq (I.neq rfl rfl)<|Zn<|gIf rfl rfl (fun h5=>?_) (fun h5=>?_)
 ·
  refine gSR<|Zm rfl<|Za rfl<|Za rfl<|Zn<|z0m<|z12<|zm0 (z06 32 u8R) 62 3<|Ze [(.slice none 0 0)] [1001,3] rfl
 ·
  refine Zt<|gSR<|Zq (ld 1 rfl rfl Foc.here z99 rfl)<|Zm rfl<|Zc [1001] [] Tryz.func47 rfl (z2j _ _) fun r6 n7=>Zc [] [(100,4)] Tryz.func46 rfl (z2a _) fun r8 n9=>Za rfl<|Za rfl<|Zn<|z0m<|Ze [(n9 0)] [1001,4] rfl
def z63 (r17:(List (Vector UInt8 32)) × Int) (s19:(List (Vector UInt8 32)) × Int):Option (Sum ((List (Vector UInt8 32))) ((List (Vector UInt8 32)) × Int)) :=
 if decide (s19.2<(r17.1.length:Int)) then
  idx r17.1 s19.2 >>= fun x21 =>
  z8y s19.1 x21 >>= fun r23 =>
  some (w64 (s19.2+1)) >>= fun y25 =>
  some (.inr (r23,y25))
 else
  some (.inl s19.1)
def z6b (a0:z01) (a1:List (Vector UInt8 32)) (s3:(List (Vector UInt8 32)) × Int):Option (Sum ((List (Vector UInt8 32))) ((List (Vector UInt8 32)) × Int)) :=
 if decide (s3.2<(a1.length:Int)) then
  (idx a1 s3.2 >>= fun x6 =>
  z8g a0.IDs x6 >>= fun r8 =>
  if !r8 then
   some s3.1
  else
   idx a1 s3.2 >>= fun x11 =>
   z8y s3.1 x11 >>= fun r13 =>
   idx a1 s3.2 >>= fun x15 =>
   z7u a0 x15 >>= fun r17 =>
   iter (z63 r17) (r13,0)) >>= fun s5 =>
  some (w64 (s3.2+1)) >>= fun y26 =>
  some (.inr (s5,y26))
 else
  some (.inl s3.1)
def z5d (a0:z01) (a1:List (Vector UInt8 32)):Option ((List (Vector UInt8 32))) :=
 (iter (z6b a0 a1) ([],0)) >>= fun s2 =>
 some s2
theorem zay (a0:z01) (a1:List (Vector UInt8 32)):z27 Tryz.prog 48 [.rd z03 a0,.rd (z02 (z06 32 u8R)) a1] [] (z5d a0 a1) (fun r nv=>⟨[.rd (z02 (z06 32 u8R)) r],[]⟩):=by
 refine z2n 52 Tryz.func48 rfl rfl rfl fun H w=>?_
 refine gSR<|Eb rfl (bx 1 rfl) fun v1=>Za rfl<|Zn<|gSR<|Za rfl<|Zn<|z7f (fun (s2:(List (Vector UInt8 32))) aa ww=>Sta (ctx 52 H [] w) [(5,.rd (z02 (z06 32 u8R)) s2)] [] aa ww) ?_ (fun s2=>?_)
 ·
  refine gSR<|Za rfl<|Zn<|zzg (z06 32 u8R) 5 rfl<|z2h (fun (s3:(List (Vector UInt8 32)) × Int) aa ww=>Sta (ctx 52 H [] w) [(1,.rd (z02 (z06 32 u8R)) a1),(2,.val (z09 v1 0)),(5,.rd (z02 (z06 32 u8R)) s3.1),(6,.rd z0k s3.2)] [(1,some (v1,.box 25 [.rd z03 a0]))] aa ww) (fun aa ww h=>Zu h [1]) (fun s3=>?_)
  refine z0w<|gSR<|Zm rfl<|Zm rfl<|Zq (z37 rfl .rd rfl tu22)<|Zq (I.lss rfl rfl)<|Zn<|gIf rfl rfl (fun h4=>?_) (fun h4=>?_)
  ·
   refine Zt<|z7f (fun (s5:(List (Vector UInt8 32))) aa ww=>Sta (ctx 52 H [] w) [(1,.rd (z02 (z06 32 u8R)) a1),(2,.val (z09 v1 0)),(5,.rd (z02 (z06 32 u8R)) s5),(6,.rd z0k s3.2)] [(1,some (v1,.box 25 [.rd z03 a0]))] aa ww) ?_ (fun s5=>?_)
   ·
    refine z4q<|z0w<|z0w<|z5m [] mixed rfl rfl<|hTk 0 rfl rfl (faB 1 rfl rfl Tryz.underlying25 rfl (by exact z2d))<|hTk 1 rfl rfl (ld 1 rfl rfl ((Foc.here).part (z0j _)) z8l rfl)<|hTk 2 rfl rfl (mv rfl)<|hTk 3 rfl rfl (mv rfl)<|z0o fun x6 h7=>hTk 4 rfl rfl (ixR rfl rfl h7 tu22 z1p rfl)<|hTk 5 rfl rfl (ldR rfl z49)<|z10 6 [] [] rfl (by kernel_rfl) rfl (gd0 rfl) rfl Tryz.func32 rfl rfl (zao _ _) (Y2 rfl rfl) rN rfl (fun _ _=>zbv) fun r8 n9=>hTk 7 rfl rfl (zcy rfl)<|z0y (by kernel_rfl)<|z0d<|gIf rfl rfl (fun h10=>?_) (fun h10=>?_)
    ·
     refine z1z<|z13<|zz9<|z2x (fun aa ww h=>Zu h [1])
    ·
     refine Zt<|gSR<|Zm rfl<|Zm rfl<|Zm rfl<|z0s fun x11 h12=>Zq (ixR rfl rfl h12 tu22 z1p rfl)<|Zq (ldR rfl z49)<|Zc [] [] Tryz.func45 rfl (zc1 _ _) fun r13 n14=>Za rfl<|Zn<|z0w<|z5m [44] mixed rfl rfl<|hTk 0 rfl rfl (ld 1 rfl rfl Foc.here z99 rfl)<|hTk 1 rfl rfl (mv rfl)<|hTk 2 rfl rfl (mv rfl)<|z0o fun x15 h16=>hTk 3 rfl rfl (ixR rfl rfl h16 tu22 z1p rfl)<|hTk 4 rfl rfl (ldR rfl z49)<|z10 5 [] [(100,44)] rfl (by kernel_rfl) rfl (gd0 rfl) rfl Tryz.func84 rfl rfl (zf3 _ _) (Y2 rfl rfl) rN rfl (fun _ _=>(zyn (flC z05 (flC z07 fl0)))) fun r17 n18=>hTk 6 rfl rfl (mv rfl)<|hTk 7 rfl rfl (ext rfl rfl)<|hTk 8 rfl rfl (ext rfl rfl)<|Zf 9 rfl rfl z05 (asg rfl)<|hTk 10 rfl rfl (asg rfl)<|z0y (by kernel_rfl)<|z0d<|gSR<|Za rfl<|Zn<|z2h (fun (s19:(List (Vector UInt8 32)) × Int) aa ww=>Sta (ctx 52 H [] w) [(1,.rd (z02 (z06 32 u8R)) a1),(2,.val (z09 v1 0)),(5,.rd (z02 (z06 32 u8R)) s19.1),(6,.rd z0k s3.2),(7,.val (n18 0)),(9,.rd z0k s19.2)] [(1,some (v1,.box 25 [.rd z03 a0])),(44,some ((n18 0),.list (z06 32 u8R) 62 r17.1))] aa ww) (fun aa ww h=>Zu h [1,44]) (fun s19=>?_)
     refine z0w<|gSR<|Zm rfl<|Zm rfl<|Zq (z37 rfl (.own 44 rfl) rfl tu22)<|Zq (I.lss rfl rfl)<|Zn<|gIf rfl rfl (fun h20=>?_) (fun h20=>?_)
     ·
      refine Zt<|z0w<|z4q<|z1m<|Zm rfl<|Zm rfl<|Zm rfl<|z0s fun x21 h22=>Zq (ixO 44 rfl rfl rfl h22 tu22 z1p)<|Zq (ld 44 rfl rfl (Foc.el h22) z49 rfl)<|Zc [] [] Tryz.func45 rfl (zc1 _ _) fun r23 n24=>Za rfl<|z1f<|z1w<|z0d<|z1m<|Zm rfl<|Zq (I.add rfl rfl)<|Za rfl<|z1e 9 rfl fun y25=>z1f<|z0r (fun aa ww h=>Zu h [1,44])
     ·
      refine z1z<|z13<|z14<|z1w<|z2x (fun aa ww h=>Zu h [1])
   ·
    refine z1m<|Zm rfl<|Zq (I.add rfl rfl)<|Za rfl<|z1e 6 rfl fun y26=>z1f<|z0r (fun aa ww h=>Zu h [1])
  ·
   refine z1z<|z13<|z14<|z2x (fun aa ww h=>Zu h [])
 ·
  refine gSR<|Zm rfl<|Za rfl<|Zn<|z0m<|Ze [] [] rfl
def zat (a0:z01) (a1:List (Vector UInt8 32)):Option ((List (Vector UInt8 32)) × Int) :=
 z4b a0 a1 [] >>= fun r2 =>
 if r2 != 0 then
  some ([],r2)
 else
  z5d a0 a1 >>= fun r5 =>
  some (r5,0)
theorem zif (a0:z01) (a1:List (Vector UInt8 32)):z27 Tryz.prog 15 [.rd z03 a0,.rd (z02 (z06 32 u8R)) a1] [] (zat a0 a1) (fun r nv=>⟨[.rd (z02 (z06 32 u8R)) r.1,.rd z0k r.2],[]⟩):=by
 refine z2n 16 Tryz.func15 rfl rfl rfl fun H w=>?_
 refine gSR<|Eb rfl (bx 1 rfl) fun v1=>Za rfl<|Za rfl<|Zn<|z0w<|gSR<|Zq (ld 1 rfl rfl Foc.here z99 rfl)<|Zm rfl<|call [] [] rfl Tryz.func33 rfl rfl (z7d _ _ _) (aQ rfl<|aQ rfl<|aNil rfl<|aN) rN fun r2 n3=>Za rfl<|Zn<|gSR<|Zm rfl<|Zq (I.neq rfl rfl)<|Zn<|gIf rfl rfl (fun h4=>?_) (fun h4=>?_)
 ·
  refine gSR<|Zm rfl<|Za rfl<|Za rfl<|Zn<|z0m<|z12<|zzv (z06 32 u8R) 4 rfl<|Ze [] [] rfl
 ·
  refine Zt<|gSR<|Zq (ld 1 rfl rfl Foc.here z99 rfl)<|Zm rfl<|Zc [] [] Tryz.func48 rfl (zay _ _) fun r5 n6=>Za rfl<|Za rfl<|Zn<|z0m<|Ze [] [] rfl
def zb2 (a0:Vector UInt8 32) (c1_0:List (Vector UInt8 32)) (c2_0:List (Vector UInt8 32)):Option (Bool) :=
 z2b c1_0 a0 >>= fun r2 =>
 if !r2 then
  some true
 else
  z2b c2_0 a0 >>= fun r5 =>
  some r5
theorem zg9 (a0:Vector UInt8 32) (p1_0:Value) (c1_0:List (Vector UInt8 32)) (p2_0:Value) (c2_0:List (Vector UInt8 32)):z27 Tryz.prog 86 [.rd (z06 32 u8R) a0,.val (z09 p1_0 0),.val (z09 p2_0 0)] [(1,some (p1_0,.box 22 [.rd (z02 (z06 32 u8R)) c1_0])),(2,some (p2_0,.box 22 [.rd (z02 (z06 32 u8R)) c2_0]))] (zb2 a0 c1_0 c2_0) (fun r nv=>⟨[.rd z0n r],[(1,some (p1_0,.box 22 [.rd (z02 (z06 32 u8R)) c1_0])),(2,some (p2_0,.box 22 [.rd (z02 (z06 32 u8R)) c2_0]))]⟩):=by
 refine z2n 14 Tryz.func86 rfl rfl rfl fun H w=>?_
 refine gSR<|Eb rfl (bx 3 rfl) fun v1=>Za rfl<|Zn<|gSR<|Zq (ld 1 rfl rfl Foc.here z8l rfl)<|Zq (ld 3 rfl rfl Foc.here z49 rfl)<|Zc [] [] Tryz.func77 rfl (z3k _ _) fun r2 n3=>Zq (zcy rfl)<|Zm rfl<|z1n 9 rfl (fun h4=>?_) (fun h4=>?_)
 ·
  refine lKn 8 rfl h4<|Zk rfl<|Zk rfl<|Zk rfl<|Zq (pkT rfl rfl)<|Za rfl<|Zn<|z0m<|Ze [] [1,2] rfl
 ·
  refine lKn 8 rfl h4<|z0z Zx rfl rfl (ld 2 rfl rfl Foc.here z8l rfl)<|z0z Zx rfl rfl (ld 3 rfl rfl Foc.here z49 rfl)<|zcw [] [] Zx rfl Tryz.func77 rfl rfl (z3k _ _) (Y2 rfl rfl) rN fun r5 n6=>Zq (pkF rfl rfl)<|Za rfl<|Zn<|z0m<|Ze [] [1,2] rfl
def z6l (a0:List (Vector UInt8 32)) (c1_0:List (Vector UInt8 32)) (c1_1:List (Vector UInt8 32)) (s2:Int):Option (Sum (Sum Int Unit) Int) :=
 if decide (s2<(a0.length:Int)) then
  idx a0 s2 >>= fun x4 =>
  zb2 x4 c1_0 c1_1 >>= fun r6 =>
  if r6 then
   some (.inl (.inl s2))
  else
   some (.inr (w64 (s2+1)))
 else
  some (.inl (.inr ()))
def z3w (a0:List (Vector UInt8 32)) (c1_0:List (Vector UInt8 32)) (c1_1:List (Vector UInt8 32)):Option (Int) :=
 z5p (iter (z6l a0 c1_0 c1_1) 0) fun s1 =>
 some (-1)
theorem z6k (a0:List (Vector UInt8 32)) (q0:Value) (l0:List (Vector UInt8 32)) (p1_0:Value) (c1_0:List (Vector UInt8 32)) (p1_1:Value) (c1_1:List (Vector UInt8 32)):z27 Tryz.prog 114 [.vw (z06 32 u8R) q0 l0 a0,.val (.func (.func 86) #[] #[z09 p1_0 0,z09 p1_1 0])] [(1,some (q0,.list (z06 32 u8R) 62 l0)),(2,some (p1_0,.box 22 [.rd (z02 (z06 32 u8R)) c1_0])),(3,some (p1_1,.box 22 [.rd (z02 (z06 32 u8R)) c1_1]))] (z3w a0 c1_0 c1_1) (fun r nv=>⟨[.rd z0k r],[(1,some (q0,.list (z06 32 u8R) 62 l0)),(2,some (p1_0,.box 22 [.rd (z02 (z06 32 u8R)) c1_0])),(3,some (p1_1,.box 22 [.rd (z02 (z06 32 u8R)) c1_1]))]⟩):=by
 refine z2n 19 Tryz.func114 rfl rfl rfl fun H w=>?_
 refine gSR<|Za rfl<|Zn<|z7k (fun (s1:Unit) aa ww=>Sta (ctx 19 H [(1,some (q0,.list (z06 32 u8R) 62 l0)),(2,some (p1_0,.box 22 [.rd (z02 (z06 32 u8R)) c1_0])),(3,some (p1_1,.box 22 [.rd (z02 (z06 32 u8R)) c1_1]))] w) [] [(1,some (q0,.list (z06 32 u8R) 62 l0)),(2,some (p1_0,.box 22 [.rd (z02 (z06 32 u8R)) c1_0])),(3,some (p1_1,.box 22 [.rd (z02 (z06 32 u8R)) c1_1]))] aa ww) ?_ (fun s1=>?_)
 ·
  refine gSR<|Zm rfl<|Zq (z37 rfl (.vw 1 rfl) rfl tu22)<|Zm rfl<|Zn<|z2h (fun (s2:Int) aa ww=>Sta (ctx 19 H [(1,some (q0,.list (z06 32 u8R) 62 l0)),(2,some (p1_0,.box 22 [.rd (z02 (z06 32 u8R)) c1_0])),(3,some (p1_1,.box 22 [.rd (z02 (z06 32 u8R)) c1_1]))] w) [(0,.vw (z06 32 u8R) q0 l0 a0),(1,.val (.func (.func 86) #[] #[z09 p1_0 0,z09 p1_1 0])),(7,.rd z0k (a0.length:Int)),(8,.rd z0k s2)] [(1,some (q0,.list (z06 32 u8R) 62 l0)),(2,some (p1_0,.box 22 [.rd (z02 (z06 32 u8R)) c1_0])),(3,some (p1_1,.box 22 [.rd (z02 (z06 32 u8R)) c1_1]))] aa ww) (fun aa ww h=>Zu h [1,2,3]) (fun s2=>?_)
  refine gSR<|Zq (I.lss rfl rfl)<|Zn<|z0w<|gIf rfl rfl (fun h3=>?_) (fun h3=>?_)
  ·
   refine Zt<|z0w<|z4q<|gSR<|Zm rfl<|Za rfl<|Zn<|gSR<|Zm rfl<|Zm rfl<|Zm rfl<|z0s fun x4 h5=>Zq (ixQ 1 rfl rfl rfl h5 tu22 z1p)<|Zq (ldQ 1 rfl rfl z49 rfl)<|zgf [2,3] [(1,2),(2,3)] (gd0 rfl) rfl rfl Tryz.func86 rfl rfl (zg9 _ _ _ _ _) (Y1 rfl) (cQ 2 rfl<|cQ 3 rfl<|cN) (Zi rfl<|Zi rfl<|rN) fun r6 n7=>Zn<|gIf rfl rfl (fun h8=>?_) (fun h8=>?_)
   ·
    refine gSR<|Zm rfl<|Za rfl<|Zn<|z0m<|z4a<|z12<|z7g<|z54<|Ze [] [1,2,3] rfl
   ·
    refine z2l<|z1w<|z0d<|z1m<|Zq (I.add rfl rfl)<|Zm rfl<|z1f<|z0r (fun aa ww h=>Zu h [1,2,3])
  ·
   refine z1z<|z13<|z14<|z4s (fun aa ww h=>Zu h [1,2,3])
 ·
  refine gSR<|Za rfl<|Zn<|z0m<|Ze [] [1,2,3] rfl
def z7n (c1_0:List (Vector UInt8 32)) (c1_1:List (Vector UInt8 32)) (s5:(List (Vector UInt8 32)) × Int × Int):Option (Sum ((List (Vector UInt8 32)) × Int) ((List (Vector UInt8 32)) × Int × Int)) :=
 if decide (s5.2.2<(s5.1.length:Int)) then
  idx s5.1 s5.2.2 >>= fun x7 =>
  zb2 x7 c1_0 c1_1 >>= fun r10 =>
  if !r10 then
   idx s5.1 s5.2.1 >>= fun x13 =>
   some (w64 (s5.2.1+1)) >>= fun y15 =>
   some (w64 (s5.2.2+1)) >>= fun y16 =>
   some (.inr (s5.1.set (s5.2.1:Int).toNat x7,y15,y16))
  else
   some (w64 (s5.2.2+1)) >>= fun y17 =>
   some (.inr (s5.1,s5.2.1,y17))
 else
  some (.inl (s5.1,s5.2.1))
def z35 (c0:List (Vector UInt8 32)) (c1_0:List (Vector UInt8 32)) (c1_1:List (Vector UInt8 32)):Option ((List (Vector UInt8 32))) :=
 z3w c0 c1_0 c1_1 >>= fun r1 =>
 if r1==(-1) then
  some c0
 else
  (iter (z7n c1_0 c1_1) (c0,r1,w64 (r1+1))) >>= fun s4 =>
  chk (0≤s4.2∧s4.2≤(s4.1.length:Int)∧(s4.1.length:Int)≤(s4.1.length:Int)) >>= fun u18 =>
  chk ((s4.2:Int).toNat+(((s4.1.length:Int):Int).toNat - (s4.2:Int).toNat)≤s4.1.length) >>= fun u20 =>
  cut (clr s4.1 ((s4.2:Int).toNat) (((s4.1.length:Int):Int).toNat - (s4.2:Int).toNat) (Vector.replicate 32 0)) 0 s4.2 >>= fun x22 =>
  some x22
theorem z7i (p0:Value) (c0:List (Vector UInt8 32)) (p1_0:Value) (c1_0:List (Vector UInt8 32)) (p1_1:Value) (c1_1:List (Vector UInt8 32)):z27 Tryz.prog 75 [.val p0,.val (.func (.func 86) #[] #[z09 p1_0 0,z09 p1_1 0])] [(1,some (p0,.list (z06 32 u8R) 62 c0)),(2,some (p1_0,.box 22 [.rd (z02 (z06 32 u8R)) c1_0])),(3,some (p1_1,.box 22 [.rd (z02 (z06 32 u8R)) c1_1]))] (z35 c0 c1_0 c1_1) (fun r nv=>⟨[.val (nv 0)],[(2,some (p1_0,.box 22 [.rd (z02 (z06 32 u8R)) c1_0])),(3,some (p1_1,.box 22 [.rd (z02 (z06 32 u8R)) c1_1])),(100,some (nv 0,.list (z06 32 u8R) 62 r))]⟩):=by
 refine z2n 42 Tryz.func75 rfl rfl rfl fun H w=>?_
 refine gSR<|Za rfl<|Zn<|gSR<|Zm rfl<|Zm rfl<|call [1,2,3] [(1,1),(2,2),(3,3)] rfl Tryz.func114 rfl rfl (z6k _ _ _ _ _ _ _) (aW rfl<|aQ rfl<|aN) (Zi rfl<|Zi rfl<|Zi rfl<|rN) fun r1 n2=>Za rfl<|Zn<|z0w<|gSR<|Zm rfl<|Zq (I.eql rfl rfl)<|Zn<|gIf rfl rfl (fun h3=>?_) (fun h3=>?_)
 ·
  refine gSR<|Zm rfl<|Za rfl<|Zn<|z0m<|z12<|Ze [p0] [2,3,1] rfl
 ·
  refine Zt<|z7f (fun (s4:(List (Vector UInt8 32)) × Int) aa ww=>Sta (ctx 42 H [(1,some (p0,.list (z06 32 u8R) 62 c0)),(2,some (p1_0,.box 22 [.rd (z02 (z06 32 u8R)) c1_0])),(3,some (p1_1,.box 22 [.rd (z02 (z06 32 u8R)) c1_1]))] w) [(0,.val p0),(5,.rd z0k s4.2)] [(1,some (p0,.list (z06 32 u8R) 62 s4.1)),(2,some (p1_0,.box 22 [.rd (z02 (z06 32 u8R)) c1_0])),(3,some (p1_1,.box 22 [.rd (z02 (z06 32 u8R)) c1_1]))] aa ww) ?_ (fun s4=>?_)
  ·
   refine gSR<|Zm rfl<|Zq (I.add rfl rfl)<|Za rfl<|Zn<|z2h (fun (s5:(List (Vector UInt8 32)) × Int × Int) aa ww=>Sta (ctx 42 H [(1,some (p0,.list (z06 32 u8R) 62 c0)),(2,some (p1_0,.box 22 [.rd (z02 (z06 32 u8R)) c1_0])),(3,some (p1_1,.box 22 [.rd (z02 (z06 32 u8R)) c1_1]))] w) [(0,.val p0),(1,.val (.func (.func 86) #[] #[z09 p1_0 0,z09 p1_1 0])),(5,.rd z0k s5.2.1),(6,.rd z0k s5.2.2)] [(1,some (p0,.list (z06 32 u8R) 62 s5.1)),(2,some (p1_0,.box 22 [.rd (z02 (z06 32 u8R)) c1_0])),(3,some (p1_1,.box 22 [.rd (z02 (z06 32 u8R)) c1_1]))] aa ww) (fun aa ww h=>Zu h [1,2,3]) (fun s5=>?_)
   refine z0w<|gSR<|Zm rfl<|Zm rfl<|Zq (z37 rfl (.own 1 rfl) rfl tu22)<|Zq (I.lss rfl rfl)<|Zn<|gIf rfl rfl (fun h6=>?_) (fun h6=>?_)
   ·
    refine Zt<|z0w<|z4q<|gSR<|Zm rfl<|Zm rfl<|z0s fun x7 h8=>Zq (ixO 1 rfl rfl rfl h8 tu22 z1p)<|Zq (ld 1 rfl rfl (Foc.el h8) z49 rfl)<|Eb rfl (z7s 4 z1p (.zr (R:=(z06 32 u8R)) (x:=(Vector.replicate 32 0)) zj3)) fun v9=>Es (sto 4 rfl rfl Foc.here rfl z1p)<|Zn<|gSR<|Zm rfl<|Zq (ld 4 rfl rfl Foc.here z49 rfl)<|zgf [2,3] [(1,2),(2,3)] (gd0 rfl) rfl rfl Tryz.func86 rfl rfl (zg9 _ _ _ _ _) (Y1 rfl) (cQ 2 rfl<|cQ 3 rfl<|cN) (Zi rfl<|Zi rfl<|rN) fun r10 n11=>Zq (zcy rfl)<|Zn<|gIf rfl rfl (fun h12=>?_) (fun h12=>?_)
    ·
     refine gSR<|Zm rfl<|Zm rfl<|Zq (ld 4 rfl rfl Foc.here z49 rfl)<|z0s fun x13 h14=>Zq (ixO 1 rfl rfl rfl h14 tu22 z1p)<|Es (sto 1 rfl rfl (Foc.el h14) rfl z1p)<|Zn<|z1m<|Zm rfl<|Zq (I.add rfl rfl)<|Za rfl<|z1e 5 rfl fun y15=>z1f<|z1w<|z0d<|z1m<|Zm rfl<|Zq (I.add rfl rfl)<|Za rfl<|z1e 6 rfl fun y16=>z1f<|z0r (fun aa ww h=>Zu h [1,2,3])
    ·
     refine z2l<|z1w<|z0d<|z1m<|Zm rfl<|Zq (I.add rfl rfl)<|Za rfl<|z1e 6 rfl fun y17=>z1f<|z0r (fun aa ww h=>Zu h [1,2,3])
   ·
    refine z1z<|z13<|z14<|z2x (fun aa ww h=>Zu h [1,2,3])
  ·
   refine gSR<|Zm rfl<|Zm rfl<|z0s fun u18 h19=>Zq (zt1 1 rfl rfl (.to rfl) .no (z44 h19) tu22 z1p)<|z0s fun u20 h21=>EsV (clrS 1 rfl rfl (z44 h21) rfl tu22 z1p zj3 rfl)<|Zn<|gSR<|Zm rfl<|Zm rfl<|z0s fun x22 h23=>Ef rfl (cutO 1 rfl rfl rfl h23 tu22 z1p) fun v24=>Za rfl<|Zn<|z0m<|Ze [v24] [2,3,1] rfl
def zee (a0:z01) (a1:List (Vector UInt8 32)) (a2:List (Vector UInt8 32)):Option ((List (Vector UInt8 32))) :=
 (zb0 a0 a1 >>= fun r3 =>
 zb0 a0 a2 >>= fun r5 =>
 some (r3,r5)) >>= fun s2 =>
 z8x a0 >>= fun r54 =>
 z35 r54.1 s2.1 s2.2 >>= fun r56 =>
 some r56
theorem zjs (a0:z01) (a1:List (Vector UInt8 32)) (a2:List (Vector UInt8 32)):z27 Tryz.prog 49 [.rd z03 a0,.rd (z02 (z06 32 u8R)) a1,.rd (z02 (z06 32 u8R)) a2] [zG1] (zee a0 a1 a2) (fun r nv=>⟨[.val (nv 0)],[(1001,some (.bool true,.glob 1 (z06 64 z1c) z8f)),(100,some (nv 0,.list (z06 32 u8R) 62 r))]⟩):=by
 refine z2n 25 Tryz.func49 rfl rfl rfl fun H w=>?_
 refine gSR<|Eb rfl (bx 1 rfl) fun v1=>Za rfl<|Zn<|z7f (fun (s2:(List (Vector UInt8 32)) × (List (Vector UInt8 32))) aa ww=>∃ nv:Nat→Value,Sta (ctx 25 H [zG1] w) [(3,.val (z09 v1 0)),(7,.val (z09 (nv 0) 0)),(8,.val (z09 (nv 1) 0))] [(1,some (v1,.box 25 [.rd z03 a0])),(20,some ((nv 0),.box 22 [.rd (z02 (z06 32 u8R)) s2.1])),(23,some ((nv 1),.box 22 [.rd (z02 (z06 32 u8R)) s2.2])),zG1] aa ww) ?_ (fun s2=>?_)
 ·
  refine z5m [1001,1020,1023] mixed rfl rfl<|hTk 0 rfl rfl (ld 1 rfl rfl Foc.here z99 rfl)<|hTk 1 rfl rfl (mv rfl)<|hTk 3 rfl rfl (ld 1 rfl rfl Foc.here z99 rfl)<|hTk 4 rfl rfl (mv rfl)<|z6o [2,6,7] (by kernel_rfl) rfl ⟨?_,?_,?_,trivial⟩
  ·
   refine zhr 2 [1001] [] rfl rfl (gd0 rfl) rfl Tryz.func47 rfl rfl (z2j _ _) (Y2 rfl rfl) (y1 rfl) rfl fun r3 n4=>z6o [5,6,7] (by kernel_rfl) rfl ⟨?_,?_,?_,trivial⟩
   ·
    refine zhr 5 [1001] [] rfl rfl (gd0 rfl) rfl Tryz.func47 rfl rfl (z2j _ _) (Y2 rfl rfl) (y1 rfl) rfl fun r5 n6=>z6o [6,7] (by kernel_rfl) rfl ⟨?_,?_,trivial⟩
    ·
     refine zo1 6 rfl (gd0 rfl) rfl rfl rfl (z7s 1020 z2d (.val rfl)) fun v7=>zzt 7 rfl (by kernel_rfl) (gd0 rfl) rfl rfl rfl (z7s 1023 z2d (.val rfl)) fun v8=>Zp 8 rfl rfl rfl rfl rfl (z4e 1020 rfl rfl (.here z00) rfl z2g z08 z2d)<|Zp 9 rfl rfl rfl rfl rfl (z4e 1023 rfl rfl (.here z00) rfl z2g z08 z2d)<|z0y (by kernel_rfl)<|z2x (fun aa ww h=>⟨nvl [v7,v8],Zu h [1,1020,1023,1001]⟩)
    ·
     refine zo1 7 rfl (gd0 rfl) rfl rfl rfl (z7s 1023 z2d (.val rfl)) fun v9=>zzt 6 rfl (by kernel_rfl) (gd0 rfl) rfl rfl rfl (z7s 1020 z2d (.val rfl)) fun v10=>Zp 8 rfl rfl rfl rfl rfl (z4e 1020 rfl rfl (.here z00) rfl z2g z08 z2d)<|Zp 9 rfl rfl rfl rfl rfl (z4e 1023 rfl rfl (.here z00) rfl z2g z08 z2d)<|z0y (by kernel_rfl)<|z2x (fun aa ww h=>⟨nvl [v10,v9],Zu h [1,1020,1023,1001]⟩)
   ·
    refine zo1 6 rfl (gd0 rfl) rfl rfl rfl (z7s 1020 z2d (.val rfl)) fun v11=>z6o [5,7] (by kernel_rfl) rfl ⟨?_,?_,trivial⟩
    ·
     refine zhr 5 [1001] [] rfl rfl (gd0 rfl) rfl Tryz.func47 rfl rfl (z2j _ _) (Y2 rfl rfl) (y1 rfl) rfl fun r12 n13=>zzt 7 rfl (by kernel_rfl) (gd0 rfl) rfl rfl rfl (z7s 1023 z2d (.val rfl)) fun v14=>Zp 8 rfl rfl rfl rfl rfl (z4e 1020 rfl rfl (.here z00) rfl z2g z08 z2d)<|Zp 9 rfl rfl rfl rfl rfl (z4e 1023 rfl rfl (.here z00) rfl z2g z08 z2d)<|z0y (by kernel_rfl)<|z2x (fun aa ww h=>⟨nvl [v11,v14],Zu h [1,1020,1023,1001]⟩)
    ·
     refine zo1 7 rfl (gd0 rfl) rfl rfl rfl (z7s 1023 z2d (.val rfl)) fun v15=>zd9 5 [1001] [] rfl (by kernel_rfl) rfl (gd0 rfl) rfl Tryz.func47 rfl rfl (z2j _ _) (Y2 rfl rfl) (y1 rfl) rfl fun r16 n17=>Zp 8 rfl rfl rfl rfl rfl (z4e 1020 rfl rfl (.here z00) rfl z2g z08 z2d)<|Zp 9 rfl rfl rfl rfl rfl (z4e 1023 rfl rfl (.here z00) rfl z2g z08 z2d)<|z0y (by kernel_rfl)<|z2x (fun aa ww h=>⟨nvl [v11,v15],Zu h [1,1020,1023,1001]⟩)
   ·
    refine zo1 7 rfl (gd0 rfl) rfl rfl rfl (z7s 1023 z2d (.val rfl)) fun v18=>z6o [5,6] (by kernel_rfl) rfl ⟨?_,?_,trivial⟩
    ·
     refine zhr 5 [1001] [] rfl rfl (gd0 rfl) rfl Tryz.func47 rfl rfl (z2j _ _) (Y2 rfl rfl) (y1 rfl) rfl fun r19 n20=>zzt 6 rfl (by kernel_rfl) (gd0 rfl) rfl rfl rfl (z7s 1020 z2d (.val rfl)) fun v21=>Zp 8 rfl rfl rfl rfl rfl (z4e 1020 rfl rfl (.here z00) rfl z2g z08 z2d)<|Zp 9 rfl rfl rfl rfl rfl (z4e 1023 rfl rfl (.here z00) rfl z2g z08 z2d)<|z0y (by kernel_rfl)<|z2x (fun aa ww h=>⟨nvl [v21,v18],Zu h [1,1020,1023,1001]⟩)
    ·
     refine zo1 6 rfl (gd0 rfl) rfl rfl rfl (z7s 1020 z2d (.val rfl)) fun v22=>zd9 5 [1001] [] rfl (by kernel_rfl) rfl (gd0 rfl) rfl Tryz.func47 rfl rfl (z2j _ _) (Y2 rfl rfl) (y1 rfl) rfl fun r23 n24=>Zp 8 rfl rfl rfl rfl rfl (z4e 1020 rfl rfl (.here z00) rfl z2g z08 z2d)<|Zp 9 rfl rfl rfl rfl rfl (z4e 1023 rfl rfl (.here z00) rfl z2g z08 z2d)<|z0y (by kernel_rfl)<|z2x (fun aa ww h=>⟨nvl [v22,v18],Zu h [1,1020,1023,1001]⟩)
  ·
   refine zo1 6 rfl (gd0 rfl) rfl rfl rfl (z7s 1020 z2d (.val rfl)) fun v25=>z6o [2,7] (by kernel_rfl) rfl ⟨?_,?_,trivial⟩
   ·
    refine zhr 2 [1001] [] rfl rfl (gd0 rfl) rfl Tryz.func47 rfl rfl (z2j _ _) (Y2 rfl rfl) (y1 rfl) rfl fun r26 n27=>z6o [5,7] (by kernel_rfl) rfl ⟨?_,?_,trivial⟩
    ·
     refine zhr 5 [1001] [] rfl rfl (gd0 rfl) rfl Tryz.func47 rfl rfl (z2j _ _) (Y2 rfl rfl) (y1 rfl) rfl fun r28 n29=>zzt 7 rfl (by kernel_rfl) (gd0 rfl) rfl rfl rfl (z7s 1023 z2d (.val rfl)) fun v30=>Zp 8 rfl rfl rfl rfl rfl (z4e 1020 rfl rfl (.here z00) rfl z2g z08 z2d)<|Zp 9 rfl rfl rfl rfl rfl (z4e 1023 rfl rfl (.here z00) rfl z2g z08 z2d)<|z0y (by kernel_rfl)<|z2x (fun aa ww h=>⟨nvl [v25,v30],Zu h [1,1020,1023,1001]⟩)
    ·
     refine zo1 7 rfl (gd0 rfl) rfl rfl rfl (z7s 1023 z2d (.val rfl)) fun v31=>zd9 5 [1001] [] rfl (by kernel_rfl) rfl (gd0 rfl) rfl Tryz.func47 rfl rfl (z2j _ _) (Y2 rfl rfl) (y1 rfl) rfl fun r32 n33=>Zp 8 rfl rfl rfl rfl rfl (z4e 1020 rfl rfl (.here z00) rfl z2g z08 z2d)<|Zp 9 rfl rfl rfl rfl rfl (z4e 1023 rfl rfl (.here z00) rfl z2g z08 z2d)<|z0y (by kernel_rfl)<|z2x (fun aa ww h=>⟨nvl [v25,v31],Zu h [1,1020,1023,1001]⟩)
   ·
    refine zo1 7 rfl (gd0 rfl) rfl rfl rfl (z7s 1023 z2d (.val rfl)) fun v34=>zd9 2 [1001] [] rfl (by kernel_rfl) rfl (gd0 rfl) rfl Tryz.func47 rfl rfl (z2j _ _) (Y2 rfl rfl) (y1 rfl) rfl fun r35 n36=>zd9 5 [1001] [] rfl (by kernel_rfl) rfl (gd0 rfl) rfl Tryz.func47 rfl rfl (z2j _ _) (Y2 rfl rfl) (y1 rfl) rfl fun r37 n38=>Zp 8 rfl rfl rfl rfl rfl (z4e 1020 rfl rfl (.here z00) rfl z2g z08 z2d)<|Zp 9 rfl rfl rfl rfl rfl (z4e 1023 rfl rfl (.here z00) rfl z2g z08 z2d)<|z0y (by kernel_rfl)<|z2x (fun aa ww h=>⟨nvl [v25,v34],Zu h [1,1020,1023,1001]⟩)
  ·
   refine zo1 7 rfl (gd0 rfl) rfl rfl rfl (z7s 1023 z2d (.val rfl)) fun v39=>z6o [2,6] (by kernel_rfl) rfl ⟨?_,?_,trivial⟩
   ·
    refine zhr 2 [1001] [] rfl rfl (gd0 rfl) rfl Tryz.func47 rfl rfl (z2j _ _) (Y2 rfl rfl) (y1 rfl) rfl fun r40 n41=>z6o [5,6] (by kernel_rfl) rfl ⟨?_,?_,trivial⟩
    ·
     refine zhr 5 [1001] [] rfl rfl (gd0 rfl) rfl Tryz.func47 rfl rfl (z2j _ _) (Y2 rfl rfl) (y1 rfl) rfl fun r42 n43=>zzt 6 rfl (by kernel_rfl) (gd0 rfl) rfl rfl rfl (z7s 1020 z2d (.val rfl)) fun v44=>Zp 8 rfl rfl rfl rfl rfl (z4e 1020 rfl rfl (.here z00) rfl z2g z08 z2d)<|Zp 9 rfl rfl rfl rfl rfl (z4e 1023 rfl rfl (.here z00) rfl z2g z08 z2d)<|z0y (by kernel_rfl)<|z2x (fun aa ww h=>⟨nvl [v44,v39],Zu h [1,1020,1023,1001]⟩)
    ·
     refine zo1 6 rfl (gd0 rfl) rfl rfl rfl (z7s 1020 z2d (.val rfl)) fun v45=>zd9 5 [1001] [] rfl (by kernel_rfl) rfl (gd0 rfl) rfl Tryz.func47 rfl rfl (z2j _ _) (Y2 rfl rfl) (y1 rfl) rfl fun r46 n47=>Zp 8 rfl rfl rfl rfl rfl (z4e 1020 rfl rfl (.here z00) rfl z2g z08 z2d)<|Zp 9 rfl rfl rfl rfl rfl (z4e 1023 rfl rfl (.here z00) rfl z2g z08 z2d)<|z0y (by kernel_rfl)<|z2x (fun aa ww h=>⟨nvl [v45,v39],Zu h [1,1020,1023,1001]⟩)
   ·
    refine zo1 6 rfl (gd0 rfl) rfl rfl rfl (z7s 1020 z2d (.val rfl)) fun v48=>zd9 2 [1001] [] rfl (by kernel_rfl) rfl (gd0 rfl) rfl Tryz.func47 rfl rfl (z2j _ _) (Y2 rfl rfl) (y1 rfl) rfl fun r49 n50=>zd9 5 [1001] [] rfl (by kernel_rfl) rfl (gd0 rfl) rfl Tryz.func47 rfl rfl (z2j _ _) (Y2 rfl rfl) (y1 rfl) rfl fun r51 n52=>Zp 8 rfl rfl rfl rfl rfl (z4e 1020 rfl rfl (.here z00) rfl z2g z08 z2d)<|Zp 9 rfl rfl rfl rfl rfl (z4e 1023 rfl rfl (.here z00) rfl z2g z08 z2d)<|z0y (by kernel_rfl)<|z2x (fun aa ww h=>⟨nvl [v48,v39],Zu h [1,1020,1023,1001]⟩)
 ·
  refine gEx fun n53=>gSR<|Zq (ld 1 rfl rfl Foc.here z99 rfl)<|Zc [1001] [(100,1035)] Tryz.func85 rfl (zke _) fun r54 n55=>Zm rfl<|Zq (ext rfl rfl)<|Zq (ext rfl rfl)<|Za rfl<|Za rfl<|Zn<|gSR<|Zm rfl<|Zq (mkf mp0 (mp2 rfl rfl))<|Zc [1035,20,23] [(100,1036),(2,20),(3,23)] Tryz.func75 rfl (z7i _ _ _ _ _ _) fun r56 n57=>Za rfl<|Zn<|z0m<|Ze [(n57 0)] [1001,1036] rfl
def zgw (a0:z01) (a1:List (Vector UInt8 32)) (a2:List (Vector UInt8 32)):Option ((List (Vector UInt8 32)) × Int) :=
 z8a a0 [a1,a2] >>= fun r3 =>
 if r3 != 0 then
  some ([],r3)
 else
  zee a0 a1 a2 >>= fun r6 =>
  some (r6,0)
theorem znv (a0:z01) (a1:List (Vector UInt8 32)) (a2:List (Vector UInt8 32)):z27 Tryz.prog 16 [.rd z03 a0,.rd (z02 (z06 32 u8R)) a1,.rd (z02 (z06 32 u8R)) a2] [zG1] (zgw a0 a1 a2) (fun r nv=>⟨[.val (nv 0),.rd z0k r.2],[(1001,some (.bool true,.glob 1 (z06 64 z1c) z8f)),(100,some (nv 0,.list (z06 32 u8R) 62 r.1))]⟩):=by
 refine z2n 21 Tryz.func16 rfl rfl rfl fun H w=>?_
 refine gSR<|Eb rfl (bx 1 rfl) fun v1=>Za rfl<|Za rfl<|Zn<|z0w<|gSR<|Zq (ld 1 rfl rfl Foc.here z99 rfl)<|Zm rfl<|Zm rfl<|Ef rfl (lit (R:=(z02 (z06 32 u8R))) ([a1,a2]:List (List (Vector UInt8 32))) 2 (pP rfl rfl<|pP rfl rfl<|pN) rfl Tryz.underlying110 z2d rfl rfl) fun v2=>zgv 2 [12] rfl (fS rfl<|fN)<|Zc [1001] [] Tryz.func43 rfl (zcb _ _) fun r3 n4=>Za rfl<|Zn<|gSR<|Zm rfl<|Zq (I.neq rfl rfl)<|Zn<|gIf rfl rfl (fun h5=>?_) (fun h5=>?_)
 ·
  refine gSR<|Zm rfl<|Za rfl<|Za rfl<|Zn<|z0m<|z12<|zm0 (z06 32 u8R) 62 3<|Ze [(.slice none 0 0)] [1001,3] rfl
 ·
  refine Zt<|gSR<|Zq (ld 1 rfl rfl Foc.here z99 rfl)<|Zm rfl<|Zm rfl<|Zc [1001] [(100,4)] Tryz.func49 rfl (zjs _ _ _) fun r6 n7=>Za rfl<|Za rfl<|Zn<|z0m<|Ze [(n7 0)] [1001,4] rfl
def z97 (r2:(List (Vector UInt8 32))) (r4:(List (Vector UInt8 32))) (r6:(List (Vector UInt8 32)) × Int) (s9:(List (Vector UInt8 32)) × Int):Option (Sum ((List (Vector UInt8 32))) ((List (Vector UInt8 32)) × Int)) :=
 if decide (s9.2<(r6.1.length:Int)) then
  (idx r6.1 s9.2 >>= fun x13 =>
  z8g r2 x13 >>= fun r15 =>
  if r15 then
   idx r6.1 s9.2 >>= fun x18 =>
   z8g r4 x18 >>= fun r20 =>
   some (!r20)
  else
   some false) >>= fun s12 =>
  if s12 then
   idx r6.1 s9.2 >>= fun x23 =>
   app 32 s9.1 [x23] >>= fun x26 =>
   some (w64 (s9.2+1)) >>= fun y29 =>
   some (.inr (x26,y29))
  else
   some (w64 (s9.2+1)) >>= fun y30 =>
   some (.inr (s9.1,y30))
 else
  some (.inl s9.1)
def z9i (a0:z01) (a1:List (Vector UInt8 32)) (a2:List (Vector UInt8 32)):Option ((List (Vector UInt8 32))) :=
 z5d a0 a1 >>= fun r2 =>
 z5d a0 a2 >>= fun r4 =>
 z8m a0 >>= fun r6 =>
 (iter (z97 r2 r4 r6) ([],0)) >>= fun s8 =>
 some s8
theorem zdv (a0:z01) (a1:List (Vector UInt8 32)) (a2:List (Vector UInt8 32)):z27 Tryz.prog 50 [.rd z03 a0,.rd (z02 (z06 32 u8R)) a1,.rd (z02 (z06 32 u8R)) a2] [] (z9i a0 a1 a2) (fun r nv=>⟨[.val (nv 0)],[(100,some (nv 0,.list (z06 32 u8R) 62 r))]⟩):=by
 refine z2n 53 Tryz.func50 rfl rfl rfl fun H w=>?_
 refine gSR<|Eb rfl (bx 1 rfl) fun v1=>Za rfl<|Zn<|z0w<|z5m [] mixed rfl rfl<|hTk 0 rfl rfl (ld 1 rfl rfl Foc.here z99 rfl)<|hTk 1 rfl rfl (mv rfl)<|hTk 3 rfl rfl (ld 1 rfl rfl Foc.here z99 rfl)<|hTk 4 rfl rfl (mv rfl)<|zd9 2 [] [] rfl (by kernel_rfl) rfl (gd0 rfl) rfl Tryz.func48 rfl rfl (zay _ _) (Y2 rfl rfl) rN rfl fun r2 n3=>zd9 5 [] [] rfl (by kernel_rfl) rfl (gd0 rfl) rfl Tryz.func48 rfl rfl (zay _ _) (Y2 rfl rfl) rN rfl fun r4 n5=>zbw 6 rfl (by kernel_rfl) (by kernel_rfl) (by kernel_rfl) (gd0 rfl) rfl rfl (asg rfl)<|zbw 7 rfl (by kernel_rfl) (by kernel_rfl) (by kernel_rfl) (gd0 rfl) rfl rfl (asg rfl)<|z0y (by kernel_rfl)<|z0d<|gSR<|Zq (ld 1 rfl rfl Foc.here z99 rfl)<|Zc [] [(100,29)] Tryz.func87 rfl (zi8 _) fun r6 n7=>Zm rfl<|Zq (ext rfl rfl)<|Zq (ext rfl rfl)<|Za rfl<|Za rfl<|Zn<|gSR<|Za rfl<|Zn<|z7f (fun (s8:(List (Vector UInt8 32))) aa ww=>∃ nv:Nat→Value,Sta (ctx 53 H [] w) [(11,.val (nv 0))] [(31,some ((nv 0),.list (z06 32 u8R) 62 s8))] aa ww) ?_ (fun s8=>?_)
 ·
  refine gSR<|Za rfl<|Zn<|zrq (z06 32 u8R) 62 34<|z2h (fun (s9:(List (Vector UInt8 32)) × Int) aa ww=>∃ nv:Nat→Value,Sta (ctx 53 H [] w) [(7,.rd (z02 (z06 32 u8R)) r2),(8,.rd (z02 (z06 32 u8R)) r4),(9,.val (n7 0)),(11,.val (nv 0)),(12,.rd z0k s9.2)] [(29,some ((n7 0),.list (z06 32 u8R) 62 r6.1)),(33,some ((nv 0),.list (z06 32 u8R) 62 s9.1))] aa ww) (fun aa ww h=>⟨nvl [(.slice none 0 0)],Zu h [29,34]⟩) (fun s9=>?_)
  refine gEx fun n10=>z0w<|gSR<|Zm rfl<|Zm rfl<|Zq (z37 rfl (.own 29 rfl) rfl tu22)<|Zq (I.lss rfl rfl)<|Zn<|gIf rfl rfl (fun h11=>?_) (fun h11=>?_)
  ·
   refine Zt<|z0w<|z4q<|z7f (fun (s12:Bool) aa ww=>Sta (ctx 53 H [] w) [(7,.rd (z02 (z06 32 u8R)) r2),(8,.rd (z02 (z06 32 u8R)) r4),(9,.val (n7 0)),(11,.val (n10 0)),(12,.rd z0k s9.2),(44,.rd z0n s12)] [(29,some ((n7 0),.list (z06 32 u8R) 62 r6.1)),(33,some ((n10 0),.list (z06 32 u8R) 62 s9.1))] aa ww) ?_ (fun s12=>?_)
   ·
    refine z1m<|Zm rfl<|Zm rfl<|Zm rfl<|z0s fun x13 h14=>Zq (ixO 29 rfl rfl rfl h14 tu22 z1p)<|Zq (ld 29 rfl rfl (Foc.el h14) z49 rfl)<|Zc [] [] Tryz.func32 rfl (zao _ _) fun r15 n16=>Zm rfl<|z1n 36 rfl (fun h17=>?_) (fun h17=>?_)
    ·
     refine lKn 35 rfl h17<|z0z Zx rfl rfl (mv rfl)<|z0z Zx rfl rfl (mv rfl)<|z0z Zx rfl rfl (mv rfl)<|z0s fun x18 h19=>z0z Zx rfl rfl (ixO 29 rfl rfl rfl h19 tu22 z1p)<|z0z Zx rfl rfl (ld 29 rfl rfl (Foc.el h19) z49 rfl)<|zcw [] [] Zx rfl Tryz.func32 rfl rfl (zao _ _) (Y2 rfl rfl) rN fun r20 n21=>z0z Zx rfl rfl (zcy rfl)<|Zq (pkT rfl rfl)<|z1f<|z2x (fun aa ww h=>Zu h [29,33])
    ·
     refine lKn 35 rfl h17<|Zk rfl<|Zk rfl<|Zk rfl<|Zk rfl<|Zk rfl<|Zk rfl<|Zk rfl<|Zq (pkF rfl rfl)<|z1f<|z2x (fun aa ww h=>Zu h [29,33])
   ·
    refine gIf rfl rfl (fun h22=>?_) (fun h22=>?_)
    ·
     refine z1m<|Zm rfl<|Zm rfl<|Zm rfl<|z0s fun x23 h24=>Zq (ixO 29 rfl rfl rfl h24 tu22 z1p)<|Zq (ld 29 rfl rfl (Foc.el h24) z49 rfl)<|Ef rfl (lit (R:=(z06 32 u8R)) ([x23]:List (Vector UInt8 32)) 35 (pP rfl rfl<|pN) rfl tu22 z1p rfl rfl) fun v25=>zgv 35 [50] rfl (fS rfl<|fN)<|z0s fun x26 h27=>Ef rfl (apn 33 rfl rfl rfl .rd h27 tu22 z1p rfl rfl rfl) fun v28=>Za rfl<|z1f<|z1w<|z0d<|z1m<|Zm rfl<|Zq (I.add rfl rfl)<|Za rfl<|z1e 12 rfl fun y29=>z1f<|z0r (fun aa ww h=>⟨nvl [v28],Zu h [29,33]⟩)
    ·
     refine z2l<|z1w<|z0d<|z1m<|Zm rfl<|Zq (I.add rfl rfl)<|Za rfl<|z1e 12 rfl fun y30=>z1f<|z0r (fun aa ww h=>⟨nvl [(n10 0)],Zu h [29,33]⟩)
  ·
   refine z1z<|z13<|z14<|z2x (fun aa ww h=>⟨nvl [(n10 0)],Zu h [33]⟩)
 ·
  refine gEx fun n31=>gSR<|Zm rfl<|Za rfl<|Zn<|z0m<|Ze [(n31 0)] [31] rfl
def zbm (a0:z01) (a1:List (Vector UInt8 32)) (a2:List (Vector UInt8 32)):Option ((List (Vector UInt8 32)) × Int) :=
 z4b a0 a1 a2 >>= fun r2 =>
 if r2 != 0 then
  some ([],r2)
 else
  z9i a0 a1 a2 >>= fun r5 =>
  some (r5,0)
theorem zjt (a0:z01) (a1:List (Vector UInt8 32)) (a2:List (Vector UInt8 32)):z27 Tryz.prog 17 [.rd z03 a0,.rd (z02 (z06 32 u8R)) a1,.rd (z02 (z06 32 u8R)) a2] [] (zbm a0 a1 a2) (fun r nv=>⟨[.val (nv 0),.rd z0k r.2],[(100,some (nv 0,.list (z06 32 u8R) 62 r.1))]⟩):=by
 refine z2n 20 Tryz.func17 rfl rfl rfl fun H w=>?_
 refine gSR<|Eb rfl (bx 1 rfl) fun v1=>Za rfl<|Za rfl<|Zn<|z0w<|gSR<|Zq (ld 1 rfl rfl Foc.here z99 rfl)<|Zm rfl<|Zm rfl<|Zc [] [] Tryz.func33 rfl (z7d _ _ _) fun r2 n3=>Za rfl<|Zn<|gSR<|Zm rfl<|Zq (I.neq rfl rfl)<|Zn<|gIf rfl rfl (fun h4=>?_) (fun h4=>?_)
 ·
  refine gSR<|Zm rfl<|Za rfl<|Za rfl<|Zn<|z0m<|z12<|zm0 (z06 32 u8R) 62 2<|Ze [(.slice none 0 0)] [2] rfl
 ·
  refine Zt<|gSR<|Zq (ld 1 rfl rfl Foc.here z99 rfl)<|Zm rfl<|Zm rfl<|Zc [] [(100,3)] Tryz.func50 rfl (zdv _ _ _) fun r5 n6=>Za rfl<|Za rfl<|Zn<|z0m<|Ze [(n6 0)] [3] rfl
def z5s (a0:List (List UInt8)):Option ((List (List UInt8))) :=
 app 24 ([]:List (List UInt8)) a0 >>= fun x3 =>
 some x3
theorem zdo (a0:List (List UInt8)):z27 Tryz.prog 90 [.rd (z02 (z02 u8R)) a0] [] (z5s a0) (fun r nv=>⟨[.val (nv 0)],[(100,some (nv 0,.list (z02 u8R) 75 r))]⟩):=by
 refine z2n 8 Tryz.func90 rfl rfl rfl fun H w=>?_
 refine gSR<|Za rfl<|Zn<|z0w<|gSR<|Zm rfl<|z10l rfl rfl .rd rfl tu42 (fun h1=>?_) ?_
 ·
  subst h1
  refine Zn<|zdg rfl<|gSR<|Za rfl<|Zn<|z0m<|z12<|zm0 (z02 u8R) 75 1<|Ze [(.slice none 0 0)] [1] rfl
 ·
  refine Zn<|zbl rfl<|Zt<|gSR<|Ef rfl (lit (R:=(z02 u8R)) (([]:List (List UInt8)):List (List UInt8)) 2 (pN) rfl tu42 zcm rfl rfl) fun v2=>Zm rfl<|z0s fun x3 h4=>Ef rfl (apn 2 rfl rfl rfl .rd h4 tu42 zcm rfl rfl rfl) fun v5=>Za rfl<|Zn<|z0m<|Ze [v5] [2] rfl
def zgb (a0:UInt8):Option (Bool) :=
 if decide (2≤a0) then
  some (decide (a0≤4)) >>= fun y2 =>
  some y2
 else
  some false
theorem zm8 (a0:UInt8):z27 Tryz.prog 98 [.rd u8R a0] [] (zgb a0) (fun r nv=>⟨[.rd z0n r],[]⟩):=by
 refine z2n 9 Tryz.func98 rfl rfl rfl fun H w=>?_
 refine gSR<|Za rfl<|Zn<|gSR<|Zm rfl<|Zq (B.geq rfl rfl)<|Zm rfl<|z1n 5 rfl (fun h1=>?_) (fun h1=>?_)
 ·
  refine lKn 4 rfl h1<|z0z Zx rfl rfl (mv rfl)<|z0z Zx rfl rfl (B.leq rfl rfl)<|Zq (pkT rfl rfl)<|Za rfl<|z1e 2 rfl fun y2=>Zn<|z0m<|Ze [] [] rfl
 ·
  refine lKn 4 rfl h1<|Zk rfl<|Zk rfl<|Zq (pkF rfl rfl)<|Za rfl<|Zn<|z0m<|Ze [] [] rfl
def zlk (a0:List (Vector UInt8 32)) (s2:Int):Option (Sum (Sum Bool Unit) Int) :=
 if decide (s2<(a0.length:Int)) then
  idx a0 (w64 (s2 - 1)) >>= fun x4 =>
  idx a0 s2 >>= fun x6 =>
  z91 x4 x6 >>= fun r8 =>
  if decide (0≤r8) then
   some (.inl (.inl false))
  else
   some (.inr (w64 (s2+1)))
 else
  some (.inl (.inr ()))
def zkn (a0:List (Vector UInt8 32)):Option (Bool) :=
 z5p (iter (zlk a0) 1) fun s1 =>
 some true
theorem zmm (a0:List (Vector UInt8 32)):z27 Tryz.prog 99 [.rd (z02 (z06 32 u8R)) a0] [] (zkn a0) (fun r nv=>⟨[.rd z0n r],[]⟩):=by
 refine z2n 21 Tryz.func99 rfl rfl rfl fun H w=>?_
 refine gSR<|Za rfl<|Zn<|z7k (fun (s1:Unit) aa ww=>Sta (ctx 21 H [] w) [] [] aa ww) ?_ (fun s1=>?_)
 ·
  refine gSR<|Za rfl<|Zn<|z2h (fun (s2:Int) aa ww=>Sta (ctx 21 H [] w) [(0,.rd (z02 (z06 32 u8R)) a0),(3,.rd z0k s2)] [] aa ww) (fun aa ww h=>Zu h []) (fun s2=>?_)
  refine z0w<|gSR<|Zm rfl<|Zm rfl<|Zq (z37 rfl .rd rfl tu22)<|Zq (I.lss rfl rfl)<|Zn<|gIf rfl rfl (fun h3=>?_) (fun h3=>?_)
  ·
   refine Zt<|z0w<|z4q<|z0w<|z5m [] mixed rfl rfl<|hTk 0 rfl rfl (mv rfl)<|hTk 1 rfl rfl (mv rfl)<|hTk 2 rfl rfl (I.sub rfl rfl)<|z0o fun x4 h5=>hTk 3 rfl rfl (ixR rfl rfl h5 tu22 z1p rfl)<|hTk 4 rfl rfl (ldR rfl z49)<|hTk 5 rfl rfl (mv rfl)<|hTk 6 rfl rfl (mv rfl)<|z0o fun x6 h7=>hTk 7 rfl rfl (ixR rfl rfl h7 tu22 z1p rfl)<|hTk 8 rfl rfl (ldR rfl z49)<|z10 9 [] [] rfl (by kernel_rfl) rfl (gd0 rfl) rfl Tryz.func105 rfl rfl (za2 _ _) (Y2 rfl rfl) rN rfl (fun _ _=>z07) fun r8 n9=>hTk 10 rfl rfl (I.geq rfl rfl)<|z0y (by kernel_rfl)<|z0d<|gIf rfl rfl (fun h10=>?_) (fun h10=>?_)
   ·
    refine gSR<|Za rfl<|Zn<|z0m<|z4a<|z12<|z7g<|z54<|Ze [] [] rfl
   ·
    refine z2l<|z1w<|z0d<|z1m<|Zm rfl<|Zq (I.add rfl rfl)<|Za rfl<|z1f<|z0r (fun aa ww h=>Zu h [])
  ·
   refine z1z<|z13<|z14<|z4s (fun aa ww h=>Zu h [])
 ·
  refine gSR<|Za rfl<|Zn<|z0m<|Ze [] [] rfl
def z7m (a0:z0i) (s29:(List UInt8) × Bool × Int):Option (Sum ((List UInt8) × Bool) ((List UInt8) × Bool × Int)) :=
 if s29.2.1 then
  if decide (s29.2.2<(a0.Ops.length:Int)) then
   idx a0.Ops s29.2.2 >>= fun x33 =>
   zc2 x33 >>= fun r35 =>
   app 1 s29.1 r35.1 >>= fun x37 =>
   idx a0.Ops s29.2.2 >>= fun x40 =>
   some (decide ((x40.length:Int)≤400)) >>= fun y42 =>
   some (w64 (s29.2.2+1)) >>= fun y43 =>
   some (.inr (x37,y42,y43))
  else
   some (.inl (s29.1,true))
 else
  some (.inl (s29.1,false))
def zfe (a0:z0i):Option ((List UInt8) × Bool) :=
 (zgb a0.Kind >>= fun r4 =>
 if r4 then
  (if a0.N==0 then
   if (a0.Ops.length:Int)==0 then
    if decide ((a0.IDs.length:Int)≤40) then
     zkn a0.IDs >>= fun r11 =>
     some r11
    else
     some false
   else
    some false
  else
   some false) >>= fun s7 =>
  if s7 then
   zj1 a0.IDs >>= fun r14 =>
   app 1 [a0.Kind] r14.1 >>= fun x16 =>
   some (x16,true)
  else
   some ([a0.Kind],false)
 else
  if a0.Kind==5 then
   (if a0.N==0 then
    if (a0.IDs.length:Int)==0 then
     some (decide ((a0.Ops.length:Int)≤8)) >>= fun y23 =>
     some y23
    else
     some false
   else
    some false) >>= fun s20 =>
   z4o (UInt64.ofInt (a0.Ops.length:Int)) >>= fun r24 =>
   app 1 [a0.Kind] r24 >>= fun x26 =>
   iter (z7m a0) (x26,s20,0)
  else
   (if a0.Kind==1 then
    some true
   else
    some (a0.Kind==6)) >>= fun s44 =>
   if s44 then
    (if (a0.IDs.length:Int)==0 then
     some ((a0.Ops.length:Int)==0) >>= fun y49 =>
     some y49
    else
     some false) >>= fun s47 =>
    z4o a0.N >>= fun r50 =>
    app 1 [a0.Kind] r50 >>= fun x52 =>
    some (x52,s47)
   else
    some ([a0.Kind],false)) >>= fun s3 =>
 if s3.2 then
  some (decide ((s3.1.length:Int)≤2000)) >>= fun y57 =>
  some (s3.1,y57)
 else
  some (s3.1,false)
theorem zn0 (a0:z0i):z27 Tryz.prog 62 [.rd z0h a0] [] (zfe a0) (fun r nv=>⟨[.val (nv 0),.rd z0n r.2],[(100,some (nv 0,.list u8R 5 r.1))]⟩):=by
 refine z2n 132 Tryz.func62 rfl rfl rfl fun H w=>?_
 refine gSR<|Eb rfl (bx 1 rfl) fun v1=>Za rfl<|Za rfl<|Zn<|gSR<|Zq (faB 1 rfl rfl Tryz.underlying44 rfl (by exact ti5))<|Zq (ld 1 rfl rfl ((Foc.here).part (z15 _)) ty5 rfl)<|Ef rfl (lit (R:=u8R) ([a0.Kind]:List UInt8) 2 (pP rfl rfl<|pN) rfl tu75 ti5 rfl rfl) fun v2=>Za rfl<|Zn<|gSR<|Za rfl<|Zn<|z7f (fun (s3:(List UInt8) × Bool) aa ww=>∃ nv:Nat→Value,Sta (ctx 132 H [] w) [(4,.val (nv 0)),(5,.rd z0n s3.2)] [(2,some ((nv 0),.list u8R 5 s3.1))] aa ww) ?_ (fun s3=>?_)
 ·
  refine z4q<|gSR<|Zq (faB 1 rfl rfl Tryz.underlying44 rfl (by exact ti5))<|Zq (ld 1 rfl rfl ((Foc.here).part (z15 _)) ty5 rfl)<|Zc [] [] Tryz.func98 rfl (zm8 _) fun r4 n5=>Za rfl<|Zn<|gIf rfl rfl (fun h6=>?_) (fun h6=>?_)
  ·
   refine gKn 17 rfl h6<|z7f (fun (s7:Bool) aa ww=>Sta (ctx 132 H [] w) [(1,.val (z09 v1 0)),(4,.val v2),(5,.rd z0n s7)] [(1,some (v1,.box 44 [.rd z0h a0])),(2,some (v2,.list u8R 5 [a0.Kind]))] aa ww) ?_ (fun s7=>?_)
   ·
    refine z1m<|Zq (faB 1 rfl rfl Tryz.underlying44 rfl (by exact znl))<|Zq (ld 1 rfl rfl ((Foc.here).part (z7l _)) zmo rfl)<|Zq (U.eql rfl rfl)<|Zm rfl<|z1n 21 rfl (fun h8=>?_) (fun h8=>?_)
    ·
     refine lKn 20 rfl h8<|z0z Zx rfl rfl (faB 1 rfl rfl Tryz.underlying44 rfl (by exact zk1))<|z0z Zx rfl rfl (ld 1 rfl rfl ((Foc.here).part (z11 _)) zl2 rfl)<|z0z Zx rfl rfl (z37 rfl .rd rfl tu42)<|z0z Zx rfl rfl (I.eql rfl rfl)<|Zq (pkT rfl rfl)<|Zm rfl<|z1n 27 rfl (fun h9=>?_) (fun h9=>?_)
     ·
      refine lKn 25 rfl h9<|lKn 26 rfl h9<|z0z Zx rfl rfl (faB 1 rfl rfl Tryz.underlying44 rfl (by exact z2d))<|z0z Zx rfl rfl (ld 1 rfl rfl ((Foc.here).part (z29 _)) z8l rfl)<|z0z Zx rfl rfl (z37 rfl .rd rfl tu22)<|z0z Zx rfl rfl (I.leq rfl rfl)<|Zq (pkT rfl rfl)<|Zm rfl<|z1n 33 rfl (fun h10=>?_) (fun h10=>?_)
      ·
       refine lKn 31 rfl h10<|lKn 32 rfl h10<|z0z Zx rfl rfl (faB 1 rfl rfl Tryz.underlying44 rfl (by exact z2d))<|z0z Zx rfl rfl (ld 1 rfl rfl ((Foc.here).part (z29 _)) z8l rfl)<|zcw [] [] Zx rfl Tryz.func99 rfl rfl (zmm _) (Y1 rfl) rN fun r11 n12=>Zq (pkT rfl rfl)<|Za rfl<|z1f<|z2x (fun aa ww h=>Zu h [1,2])
      ·
       refine lKn 31 rfl h10<|lKn 32 rfl h10<|Zk rfl<|Zk rfl<|Zk rfl<|Zq (pkF rfl rfl)<|Za rfl<|z1f<|z2x (fun aa ww h=>Zu h [1,2])
     ·
      refine lKn 25 rfl h9<|lKn 26 rfl h9<|Zk rfl<|Zk rfl<|Zk rfl<|Zk rfl<|Zq (pkF rfl rfl)<|Zm rfl<|Zk rfl<|Zk rfl<|Zk rfl<|Zq (pkF rfl rfl)<|Za rfl<|z1f<|z2x (fun aa ww h=>Zu h [1,2])
    ·
     refine lKn 20 rfl h8<|Zk rfl<|Zk rfl<|Zk rfl<|Zk rfl<|Zq (pkF rfl rfl)<|Zm rfl<|Zk rfl<|Zk rfl<|Zk rfl<|Zk rfl<|Zq (pkF rfl rfl)<|Zm rfl<|Zk rfl<|Zk rfl<|Zk rfl<|Zq (pkF rfl rfl)<|Za rfl<|z1f<|z2x (fun aa ww h=>Zu h [1,2])
   ·
    refine gSR<|Zm rfl<|Zn<|gIf rfl rfl (fun h13=>?_) (fun h13=>?_)
    ·
     refine gKn 5 rfl h13<|gSR<|Zq (faB 1 rfl rfl Tryz.underlying44 rfl (by exact z2d))<|Zq (ld 1 rfl rfl ((Foc.here).part (z29 _)) z8l rfl)<|Zc [] [(100,3)] Tryz.func100 rfl (zmc _) fun r14 n15=>Zm rfl<|Zq (ext rfl rfl)<|Zq (ext rfl rfl)<|Za rfl<|Za rfl<|Zn<|z1m<|Zm rfl<|Zm rfl<|z0s fun x16 h17=>Ef rfl (apn 2 rfl rfl rfl (.own 3 rfl) h17 tu75 ti5 rfl rfl rfl) fun v18=>Za rfl<|z1f<|z1w<|z2x (fun aa ww h=>⟨nvl [v18],Zu h [2]⟩)
    ·
     refine gKn 5 rfl h13<|z2l<|z1w<|z2x (fun aa ww h=>⟨nvl [v2],Zu h [2]⟩)
  ·
   refine gKn 17 rfl h6<|gSR<|Zq (faB 1 rfl rfl Tryz.underlying44 rfl (by exact ti5))<|Zq (ld 1 rfl rfl ((Foc.here).part (z15 _)) ty5 rfl)<|Zq (B.eql rfl rfl)<|Za rfl<|Zn<|gIf rfl rfl (fun h19=>?_) (fun h19=>?_)
   ·
    refine gKn 51 rfl h19<|z7f (fun (s20:Bool) aa ww=>Sta (ctx 132 H [] w) [(1,.val (z09 v1 0)),(4,.val v2),(5,.rd z0n s20)] [(1,some (v1,.box 44 [.rd z0h a0])),(2,some (v2,.list u8R 5 [a0.Kind]))] aa ww) ?_ (fun s20=>?_)
    ·
     refine z1m<|Zq (faB 1 rfl rfl Tryz.underlying44 rfl (by exact znl))<|Zq (ld 1 rfl rfl ((Foc.here).part (z7l _)) zmo rfl)<|Zq (U.eql rfl rfl)<|Zm rfl<|z1n 55 rfl (fun h21=>?_) (fun h21=>?_)
     ·
      refine lKn 54 rfl h21<|z0z Zx rfl rfl (faB 1 rfl rfl Tryz.underlying44 rfl (by exact z2d))<|z0z Zx rfl rfl (ld 1 rfl rfl ((Foc.here).part (z29 _)) z8l rfl)<|z0z Zx rfl rfl (z37 rfl .rd rfl tu22)<|z0z Zx rfl rfl (I.eql rfl rfl)<|Zq (pkT rfl rfl)<|Zm rfl<|z1n 61 rfl (fun h22=>?_) (fun h22=>?_)
      ·
       refine lKn 59 rfl h22<|lKn 60 rfl h22<|z0z Zx rfl rfl (faB 1 rfl rfl Tryz.underlying44 rfl (by exact zk1))<|z0z Zx rfl rfl (ld 1 rfl rfl ((Foc.here).part (z11 _)) zl2 rfl)<|z0z Zx rfl rfl (z37 rfl .rd rfl tu42)<|z0z Zx rfl rfl (I.leq rfl rfl)<|Zq (pkT rfl rfl)<|Za rfl<|z1e 5 rfl fun y23=>z1f<|z2x (fun aa ww h=>Zu h [1,2])
      ·
       refine lKn 59 rfl h22<|lKn 60 rfl h22<|Zk rfl<|Zk rfl<|Zk rfl<|Zk rfl<|Zq (pkF rfl rfl)<|Za rfl<|z1f<|z2x (fun aa ww h=>Zu h [1,2])
     ·
      refine lKn 54 rfl h21<|Zk rfl<|Zk rfl<|Zk rfl<|Zk rfl<|Zq (pkF rfl rfl)<|Zm rfl<|Zk rfl<|Zk rfl<|Zk rfl<|Zk rfl<|Zq (pkF rfl rfl)<|Za rfl<|z1f<|z2x (fun aa ww h=>Zu h [1,2])
    ·
     refine gSR<|Zm rfl<|Zq (faB 1 rfl rfl Tryz.underlying44 rfl (by exact zk1))<|Zq (ld 1 rfl rfl ((Foc.here).part (z11 _)) zl2 rfl)<|Zq (z37 rfl .rd rfl tu42)<|Zq (I.toU rfl tu3 tu41)<|Zc [] [(100,4)] Tryz.func101 rfl (z1k _) fun r24 n25=>z0s fun x26 h27=>Ef rfl (apn 2 rfl rfl rfl (.own 4 rfl) h27 tu75 ti5 rfl rfl rfl) fun v28=>Za rfl<|Zn<|gSR<|Za rfl<|Zn<|z2h (fun (s29:(List UInt8) × Bool × Int) aa ww=>∃ nv:Nat→Value,Sta (ctx 132 H [] w) [(1,.val (z09 v1 0)),(4,.val (nv 0)),(5,.rd z0n s29.2.1),(8,.rd z0k s29.2.2)] [(1,some (v1,.box 44 [.rd z0h a0])),(2,some ((nv 0),.list u8R 5 s29.1))] aa ww) (fun aa ww h=>⟨nvl [v28],Zu h [1,2]⟩) (fun s29=>?_)
     refine gEx fun n30=>z0w<|gSR<|Zm rfl<|Zm rfl<|z1n 75 rfl (fun h31=>?_) (fun h31=>?_)
     ·
      refine lKn 5 rfl h31<|lKn 74 rfl h31<|z0z Zx rfl rfl (mv rfl)<|z0z Zx rfl rfl (faB 1 rfl rfl Tryz.underlying44 rfl (by exact zk1))<|z0z Zx rfl rfl (ld 1 rfl rfl ((Foc.here).part (z11 _)) zl2 rfl)<|z0z Zx rfl rfl (z37 rfl .rd rfl tu42)<|z0z Zx rfl rfl (I.lss rfl rfl)<|Zq (pkT rfl rfl)<|Zn<|gIf rfl rfl (fun h32=>?_) (fun h32=>?_)
      ·
       refine gKn 80 rfl h32<|Zt<|z0w<|z4q<|gSR<|Zq (faB 1 rfl rfl Tryz.underlying44 rfl (by exact zk1))<|Zq (ld 1 rfl rfl ((Foc.here).part (z11 _)) zl2 rfl)<|Zm rfl<|z0s fun x33 h34=>Zq (ixR rfl rfl h34 tu42 zcm rfl)<|Zq (ldR rfl zuu)<|Zc [] [(100,5)] Tryz.func102 rfl (zf1 _) fun r35 n36=>Zm rfl<|Zq (ext rfl rfl)<|Zq (ext rfl rfl)<|Za rfl<|Za rfl<|Zn<|gSR<|Zm rfl<|Zm rfl<|z0s fun x37 h38=>Ef rfl (apn 2 rfl rfl rfl (.own 5 rfl) h38 tu75 ti5 rfl rfl rfl) fun v39=>Za rfl<|Zn<|z1m<|Zq (faB 1 rfl rfl Tryz.underlying44 rfl (by exact zk1))<|Zq (ld 1 rfl rfl ((Foc.here).part (z11 _)) zl2 rfl)<|Zm rfl<|z0s fun x40 h41=>Zq (ixR rfl rfl h41 tu42 zcm rfl)<|Zq (ldR rfl zuu)<|Zq (z37 rfl .rd rfl tu75)<|Zq (I.leq rfl rfl)<|Za rfl<|z1e 5 rfl fun y42=>z1f<|z1w<|z0d<|z1m<|Zm rfl<|Zq (I.add rfl rfl)<|Za rfl<|z1e 8 rfl fun y43=>z1f<|z0r (fun aa ww h=>⟨nvl [v39],Zu h [1,2]⟩)
      ·
       refine gKn 80 rfl h32<|z1z<|z13<|z14<|z1w<|z2x (fun aa ww h=>⟨nvl [(n30 0)],Zu h [2]⟩)
     ·
      refine lKn 5 rfl h31<|lKn 74 rfl h31<|Zk rfl<|Zk rfl<|Zk rfl<|Zk rfl<|Zk rfl<|Zq (pkF rfl rfl)<|Zn<|zbl rfl<|z1z<|z13<|z14<|z1w<|z2x (fun aa ww h=>⟨nvl [(n30 0)],Zu h [2]⟩)
   ·
    refine gKn 51 rfl h19<|z7f (fun (s44:Bool) aa ww=>Sta (ctx 132 H [] w) [(1,.val (z09 v1 0)),(4,.val v2),(5,.rd z0n false),(103,.rd z0n s44)] [(1,some (v1,.box 44 [.rd z0h a0])),(2,some (v2,.list u8R 5 [a0.Kind]))] aa ww) ?_ (fun s44=>?_)
    ·
     refine gSR<|Zq (faB 1 rfl rfl Tryz.underlying44 rfl (by exact ti5))<|Zq (ld 1 rfl rfl ((Foc.here).part (z15 _)) ty5 rfl)<|Zq (B.eql rfl rfl)<|Za rfl<|Zn<|gIf rfl rfl (fun h45=>?_) (fun h45=>?_)
     ·
      refine gKn 106 rfl h45<|z2l<|z2x (fun aa ww h=>Zu h [1,2])
     ·
      refine gKn 106 rfl h45<|z1m<|Zq (faB 1 rfl rfl Tryz.underlying44 rfl (by exact ti5))<|Zq (ld 1 rfl rfl ((Foc.here).part (z15 _)) ty5 rfl)<|Zq (B.eql rfl rfl)<|Za rfl<|z1f<|z2x (fun aa ww h=>Zu h [1,2])
    ·
     refine gIf rfl rfl (fun h46=>?_) (fun h46=>?_)
     ·
      refine z7f (fun (s47:Bool) aa ww=>Sta (ctx 132 H [] w) [(1,.val (z09 v1 0)),(4,.val v2),(5,.rd z0n s47)] [(1,some (v1,.box 44 [.rd z0h a0])),(2,some (v2,.list u8R 5 [a0.Kind]))] aa ww) ?_ (fun s47=>?_)
      ·
       refine z1m<|Zq (faB 1 rfl rfl Tryz.underlying44 rfl (by exact z2d))<|Zq (ld 1 rfl rfl ((Foc.here).part (z29 _)) z8l rfl)<|Zq (z37 rfl .rd rfl tu22)<|Zq (I.eql rfl rfl)<|Zm rfl<|z1n 114 rfl (fun h48=>?_) (fun h48=>?_)
       ·
        refine lKn 113 rfl h48<|z0z Zx rfl rfl (faB 1 rfl rfl Tryz.underlying44 rfl (by exact zk1))<|z0z Zx rfl rfl (ld 1 rfl rfl ((Foc.here).part (z11 _)) zl2 rfl)<|z0z Zx rfl rfl (z37 rfl .rd rfl tu42)<|z0z Zx rfl rfl (I.eql rfl rfl)<|Zq (pkT rfl rfl)<|Za rfl<|z1e 5 rfl fun y49=>z1f<|z2x (fun aa ww h=>Zu h [1,2])
       ·
        refine lKn 113 rfl h48<|Zk rfl<|Zk rfl<|Zk rfl<|Zk rfl<|Zq (pkF rfl rfl)<|Za rfl<|z1f<|z2x (fun aa ww h=>Zu h [1,2])
      ·
       refine z1m<|Zm rfl<|Zq (faB 1 rfl rfl Tryz.underlying44 rfl (by exact znl))<|Zq (ld 1 rfl rfl ((Foc.here).part (z7l _)) zmo rfl)<|Zc [] [(100,6)] Tryz.func101 rfl (z1k _) fun r50 n51=>z0s fun x52 h53=>Ef rfl (apn 2 rfl rfl rfl (.own 6 rfl) h53 tu75 ti5 rfl rfl rfl) fun v54=>Za rfl<|z1f<|z1w<|z2x (fun aa ww h=>⟨nvl [v54],Zu h [2]⟩)
     ·
      refine z2l<|z1w<|z2x (fun aa ww h=>⟨nvl [v2],Zu h [2]⟩)
 ·
  refine gEx fun n55=>gSR<|Zm rfl<|Zm rfl<|Zm rfl<|z1n 127 rfl (fun h56=>?_) (fun h56=>?_)
  ·
   refine lKn 5 rfl h56<|lKn 126 rfl h56<|z0z Zx rfl rfl (mv rfl)<|z0z Zx rfl rfl (z37 rfl (.own 2 rfl) rfl tu75)<|z0z Zx rfl rfl (I.leq rfl rfl)<|Zq (pkT rfl rfl)<|Za rfl<|Za rfl<|z1e 3 rfl fun y57=>Zn<|z0m<|Ze [(n55 0)] [2] rfl
  ·
   refine lKn 5 rfl h56<|lKn 126 rfl h56<|Zk rfl<|Zk rfl<|Zk rfl<|Zq (pkF rfl rfl)<|Za rfl<|Za rfl<|Zn<|z0m<|Ze [(n55 0)] [2] rfl
def zfc (a0:z0i):Option (Int) :=
 zfe a0 >>= fun r2 =>
 if !r2.2 then
  some 8
 else
  some 0
theorem zn3 (a0:z0i):z27 Tryz.prog 35 [.rd z0h a0] [] (zfc a0) (fun r nv=>⟨[.rd z0k r],[]⟩):=by
 refine z2n 12 Tryz.func35 rfl rfl rfl fun H w=>?_
 refine gSR<|Eb rfl (bx 1 rfl) fun v1=>Za rfl<|Zn<|z0w<|gSR<|Zq (ld 1 rfl rfl Foc.here zu2 rfl)<|Zc [] [(100,2)] Tryz.func62 rfl (zn0 _) fun r2 n3=>Zm rfl<|Zq (ext rfl rfl)<|Zq (ext rfl rfl)<|Za rfl<|Za rfl<|Zn<|gSR<|Zm rfl<|Zq (zcy rfl)<|Zn<|gIf rfl rfl (fun h4=>?_) (fun h4=>?_)
 ·
  refine gSR<|Za rfl<|Zn<|z0m<|z12<|Ze [] [] rfl
 ·
  refine Zt<|gSR<|Za rfl<|Zn<|z0m<|Ze [] [] rfl
def z51 (a0:z01) (a1:List (Vector UInt8 32)) (s3:(List z0i) × Int):Option (Sum ((List z0i)) ((List z0i) × Int)) :=
 if decide (s3.2<(a1.length:Int)) then
  idx a1 s3.2 >>= fun x6 =>
  znw a0 x6 >>= fun r9 =>
  zcg r9.1 >>= fun r12 =>
  z5p (some (s3.1.length:Int) >>= fun y15 =>
  if decide (0<y15) then
   idx s3.1 (w64 (y15 - 1)) >>= fun x17 =>
   z5s x17.Ops >>= fun r20 =>
   app 24 r20 [r12.1] >>= fun x23 =>
   zfc (⟨x17.Kind,x17.N,x17.IDs,x23⟩:z0i) >>= fun r26 =>
   if r26==0 then
    idx s3.1 (w64 (y15 - 1)) >>= fun x29 =>
    some (.inl (.inr (s3.1.set (w64 (y15 - 1):Int).toNat (⟨x17.Kind,x17.N,x17.IDs,x23⟩:z0i),w64 (s3.2+1))))
   else
    some (.inr r12.1)
  else
   some (.inr r12.1)) fun s14 =>
  app 64 s3.1 [(⟨5,0,[],[s14]⟩:z0i)] >>= fun x33 =>
  some (.inr (x33,w64 (s3.2+1)))
 else
  some (.inl s3.1)
def zdq (a0:z01) (a1:List (Vector UInt8 32)):Option ((List z0i)) :=
 (iter (z51 a0 a1) ([],0)) >>= fun s2 =>
 some s2
end
section
open Go Go.RowKit
set_option maxRecDepth 100000
theorem zme (a0:z01) (a1:List (Vector UInt8 32)):z27 Tryz.prog 51 [.rd z03 a0,.rd (z02 (z06 32 u8R)) a1] [zG1] (zdq a0 a1) (fun r nv=>⟨[.val (nv 0)],[(1001,some (.bool true,.glob 1 (z06 64 z1c) z8f)),(100,some (nv 0,.list z0h 44 r))]⟩):=by
 refine z2n 63 Tryz.func51 rfl rfl rfl fun H w=>?_
 refine gSR<|Eb rfl (bx 1 rfl) fun v1=>Za rfl<|Zn<|gSR<|Za rfl<|Zn<|z7f (fun (s2:(List z0i)) aa ww=>∃ nv:Nat→Value,Sta (ctx 63 H [zG1] w) [(5,.val (nv 0))] [(1009,some ((nv 0),.list z0h 44 s2)),zG1] aa ww) ?_ (fun s2=>?_)
 ·
  refine gSR<|Zm rfl<|Zq (z37 rfl .rd rfl tu22)<|Zm rfl<|Zn<|zrq z0h 44 1021<|z2h (fun (s3:(List z0i) × Int) aa ww=>∃ nv:Nat→Value,Sta (ctx 63 H [zG1] w) [(2,.val (z09 v1 0)),(5,.val (nv 0)),(14,.rd (z02 (z06 32 u8R)) a1),(15,.rd z0k (a1.length:Int)),(16,.rd z0k s3.2)] [(1,some (v1,.box 25 [.rd z03 a0])),(1020,some ((nv 0),.list z0h 44 s3.1)),zG1] aa ww) (fun aa ww h=>⟨nvl [(.slice none 0 0)],Zu h [1,1021,1001]⟩) (fun s3=>?_)
  refine gEx fun n4=>gSR<|Zq (I.lss rfl rfl)<|Zn<|z0w<|gIf rfl rfl (fun h5=>?_) (fun h5=>?_)
  ·
   refine Zt<|z0w<|z4q<|gSR<|z0s fun x6 h7=>Zq (ixR rfl rfl h7 tu22 z1p rfl)<|Zq (ldR rfl z49)<|Eb rfl (z7s 1022 z1p (.zr (R:=(z06 32 u8R)) (x:=(Vector.replicate 32 0)) zj3)) fun v8=>Es (sto 1022 rfl rfl Foc.here rfl z1p)<|Zn<|gSR<|Zq (ld 1 rfl rfl Foc.here z99 rfl)<|Zq (ld 1022 rfl rfl Foc.here z49 rfl)<|Zc [1001] [] Tryz.func88 rfl (zt6 _ _) fun r9 n10=>Zm rfl<|Zq (ext rfl rfl)<|Zq (ext rfl rfl)<|Eb rfl (z7s 1023 z4w (ZrE.rd (R:=z1c) (x:=0) (Zr.num rfl) (ZrE.nilS (ZrE.rd (R:=z2r) (x:=0) (Zr.num rfl) (ZrE.rd (R:=z1i) (x:=(⟨0,[],(⟨0,0,0,[]⟩:z0b)⟩:z1u)) zx2 (ZrE.rd (R:=z1q) (x:=(⟨0,0⟩:z0u)) zx9 ZrE.nil rfl) rfl) rfl)) rfl)) fun v11=>znn (z06 32 u8R) [.rd z1c 0,.rd (z02 (z06 32 u8R)) [],.rd z2r 0,.rd z1i (⟨0,[],(⟨0,0,0,[]⟩:z0b)⟩:z1u),.rd z1q (⟨0,0⟩:z0u)] 1023 [.rd z1c 0] [.rd z2r 0,.rd z1i (⟨0,[],(⟨0,0,0,[]⟩:z0b)⟩:z1u),.rd z1q (⟨0,0⟩:z0u)] rfl rfl rfl<|zks (R:=z0c) (⟨0,[],0,(⟨0,[],(⟨0,0,0,[]⟩:z0b)⟩:z1u),(⟨0,0⟩:z0u)⟩:z0g) 1023 rfl (Sp.via (Sp.prod (Sp.prod (Sp.prod (Sp.prod (Sp.prod Sp.unit))))))<|Es (sto 1023 rfl rfl Foc.here rfl z4w)<|Za rfl<|Zn<|gSR<|Zq (ld 1023 rfl rfl Foc.here zg5 rfl)<|Zc [] [(100,1024)] Tryz.func89 rfl (zkv _) fun r12 n13=>Zm rfl<|Zq (ext rfl rfl)<|Zq (ext rfl rfl)<|Za rfl<|Za rfl<|Zn<|z7k (fun (s14:(List UInt8)) aa ww=>Sta (ctx 63 H [zG1] w) [(2,.val (z09 v1 0)),(5,.val (n4 0)),(10,.rd (z02 u8R) s14),(14,.rd (z02 (z06 32 u8R)) a1),(15,.rd z0k (a1.length:Int)),(16,.rd z0k s3.2)] [(1,some (v1,.box 25 [.rd z03 a0])),(1020,some ((n4 0),.list z0h 44 s3.1)),zG1] aa ww) ?_ (fun s14=>?_)
   ·
    refine gSR<|Zm rfl<|Zq (z37 rfl (.own 1020 rfl) rfl tu35)<|Za rfl<|z1e 12 rfl fun y15=>Zn<|gSR<|Zm rfl<|Zq (I.gtr rfl rfl)<|Zn<|gIf rfl rfl (fun h16=>?_) (fun h16=>?_)
    ·
     refine gSR<|Zm rfl<|Zm rfl<|Zq (I.sub rfl rfl)<|z0s fun x17 h18=>Zq (ixO 1020 rfl rfl rfl h18 tu35 zew)<|Zq (ld 1020 rfl rfl (Foc.el h18) zu2 rfl)<|Eb rfl (z7s 1025 zew (ZrE.rd (R:=u8R) (x:=0) (Zr.num rfl) (ZrE.rd (R:=z2r) (x:=0) (Zr.num rfl) (ZrE.nilS (ZrE.nilS ZrE.nil)) rfl) rfl)) fun v19=>znn (z06 32 u8R) [.rd u8R 0,.rd z2r 0,.rd (z02 (z06 32 u8R)) [],.val (.slice none 0 0)] 1025 [.rd u8R 0,.rd z2r 0] [.val (.slice none 0 0)] rfl rfl rfl<|znn (z02 u8R) [.rd u8R 0,.rd z2r 0,.rd (z02 (z06 32 u8R)) [],.rd (z02 (z02 u8R)) []] 1025 [.rd u8R 0,.rd z2r 0,.rd (z02 (z06 32 u8R)) []] [] rfl rfl rfl<|zks (R:=z0h) (⟨0,0,[],[]⟩:z0i) 1025 rfl (Sp.via (Sp.prod (Sp.prod (Sp.prod (Sp.prod Sp.unit)))))<|Es (sto 1025 rfl rfl Foc.here rfl zew)<|Zn<|gSR<|Zq (faB 1025 rfl rfl Tryz.underlying44 rfl (by exact zk1))<|Zq (ld 1025 rfl rfl ((Foc.here).part (z11 _)) zl2 rfl)<|Zc [] [(100,1026)] Tryz.func90 rfl (zdo _) fun r20 n21=>Zm rfl<|zgv 1024 [29,10,43] rfl (fS rfl<|fS rfl<|fS rfl<|fN)<|Ef rfl (lit (R:=(z02 u8R)) ([r12.1]:List (List UInt8)) 1027 (pP rfl rfl<|pN) rfl tu42 zcm rfl rfl) fun v22=>zgv 1027 [44] rfl (fS rfl<|fN)<|z0s fun x23 h24=>Ef rfl (apn 1026 rfl rfl rfl .rd h24 tu42 zcm rfl rfl rfl) fun v25=>Zq (faB 1025 rfl rfl Tryz.underlying44 rfl (by exact zk1))<|lSpl (R:=z0h) 1025 rfl (Sp.via (Sp.prod (Sp.prod (Sp.prod (Sp.prod Sp.unit)))))<|Es (z4e 1025 rfl rfl (z18.cast (z18.next z08 (z18.next z08 (z18.next z08 (z18.here z08)))) rfl) rfl z0a z00 zk1)<|Zn<|gSR<|zuy [.rd u8R x17.Kind,.rd z2r x17.N,.rd (z02 (z06 32 u8R)) x17.IDs,.rd (z02 (z02 u8R)) x23] 1025 1026 [.rd u8R x17.Kind,.rd z2r x17.N,.rd (z02 (z06 32 u8R)) x17.IDs] [] rfl rfl rfl rfl rfl<|zks (R:=z0h) (⟨x17.Kind,x17.N,x17.IDs,x23⟩:z0i) 1025 rfl (Sp.via (Sp.prod (Sp.prod (Sp.prod (Sp.prod Sp.unit)))))<|Zq (ld 1025 rfl rfl Foc.here zu2 rfl)<|Zc [] [] Tryz.func35 rfl (zn3 _) fun r26 n27=>Zq (I.eql rfl rfl)<|Zn<|gIf rfl rfl (fun h28=>?_) (fun h28=>?_)
     ·
      refine gSR<|Zm rfl<|Zm rfl<|Zq (I.sub rfl rfl)<|Zq (ld 1025 rfl rfl Foc.here zu2 rfl)<|z0s fun x29 h30=>Zq (ixO 1020 rfl rfl rfl h30 tu35 zew)<|Es (sto 1020 rfl rfl (Foc.el h30) rfl zew)<|Zn<|z1z<|z12r<|zz9<|z0d<|z1m<|Zq (I.add rfl rfl)<|Zm rfl<|z1f<|z0r (fun aa ww h=>⟨nvl [(n4 0)],Zu h [1,1020,1001]⟩)
     ·
      refine z2l<|z4s (fun aa ww h=>Zu h [1,1020,1001])
    ·
     refine z2l<|eFrz 1024 [29,10] rfl (fS rfl<|fS rfl<|fN)<|z4s (fun aa ww h=>Zu h [1,1020,1001])
   ·
    refine z1m<|Zm rfl<|Zm rfl<|Ef rfl (lit (R:=(z02 u8R)) ([s14]:List (List UInt8)) 1028 (pP rfl rfl<|pN) rfl tu42 zcm rfl rfl) fun v31=>zgv 1028 [57] rfl (fS rfl<|fN)<|Zq (bld (x':=(⟨5,0,[],[s14]⟩:z0i)) [(0,1),(1,1),(2,1),(3,1)] Tryz.underlying44 zew rfl zr44 rfl (Bld.cons (z15 _) rfl rfl<|Bld.cons (z11 _) rfl rfl<|Bld.done rfl))<|Ef rfl (lit (R:=z0h) ([(⟨5,0,[],[s14]⟩:z0i)]:List z0i) 1029 (pP rfl rfl<|pN) rfl tu35 zew rfl rfl) fun v32=>zgv 1029 [59] rfl (fS rfl<|fN)<|z0s fun x33 h34=>Ef rfl (apn 1020 rfl rfl rfl .rd h34 tu35 zew rfl rfl rfl) fun v35=>Za rfl<|z1f<|z1w<|z0d<|z1m<|Zq (I.add rfl rfl)<|Zm rfl<|z1f<|z0r (fun aa ww h=>⟨nvl [v35],Zu h [1,1020,1001]⟩)
  ·
   refine z1z<|z13<|z14<|z2x (fun aa ww h=>⟨nvl [(n4 0)],Zu h [1020,1001]⟩)
 ·
  refine gEx fun n36=>gSR<|Zm rfl<|Za rfl<|Zn<|z0m<|Ze [(n36 0)] [1001,1009] rfl
def zfm (a0:z01) (a1:List (Vector UInt8 32)) (a2:List (Vector UInt8 32)):Option ((List z0i) × Int) :=
 z8a a0 [a1,a2] >>= fun r3 =>
 if r3 != 0 then
  some ([],r3)
 else
  zee a0 a1 a2 >>= fun r6 =>
  zdq a0 r6 >>= fun r8 =>
  some (r8,0)
theorem zn5 (a0:z01) (a1:List (Vector UInt8 32)) (a2:List (Vector UInt8 32)):z27 Tryz.prog 18 [.rd z03 a0,.rd (z02 (z06 32 u8R)) a1,.rd (z02 (z06 32 u8R)) a2] [zG1] (zfm a0 a1 a2) (fun r nv=>⟨[.val (nv 0),.rd z0k r.2],[(1001,some (.bool true,.glob 1 (z06 64 z1c) z8f)),(100,some (nv 0,.list z0h 44 r.1))]⟩):=by
 refine z2n 23 Tryz.func18 rfl rfl rfl fun H w=>?_
 refine gSR<|Eb rfl (bx 1 rfl) fun v1=>Za rfl<|Za rfl<|Zn<|z0w<|gSR<|Zq (ld 1 rfl rfl Foc.here z99 rfl)<|Zm rfl<|Zm rfl<|Ef rfl (lit (R:=(z02 (z06 32 u8R))) ([a1,a2]:List (List (Vector UInt8 32))) 2 (pP rfl rfl<|pP rfl rfl<|pN) rfl Tryz.underlying110 z2d rfl rfl) fun v2=>zgv 2 [12] rfl (fS rfl<|fN)<|Zc [1001] [] Tryz.func43 rfl (zcb _ _) fun r3 n4=>Za rfl<|Zn<|gSR<|Zm rfl<|Zq (I.neq rfl rfl)<|Zn<|gIf rfl rfl (fun h5=>?_) (fun h5=>?_)
 ·
  refine gSR<|Zm rfl<|Za rfl<|Za rfl<|Zn<|z0m<|z12<|zm0 z0h 44 3<|Ze [(.slice none 0 0)] [1001,3] rfl
 ·
  refine Zt<|z0w<|z5m [16,19,1001] mixed rfl rfl<|hTk 0 rfl rfl (ld 1 rfl rfl Foc.here z99 rfl)<|hTk 1 rfl rfl (ld 1 rfl rfl Foc.here z99 rfl)<|hTk 2 rfl rfl (mv rfl)<|hTk 3 rfl rfl (mv rfl)<|z10 4 [1001] [(100,16)] rfl (by kernel_rfl) rfl (gd0 rfl) rfl Tryz.func49 rfl rfl (zjs _ _ _) (aQ rfl<|aQ rfl<|aQ rfl<|aN) (y1 rfl) rfl (fun _ _=>z05) fun r6 n7=>z2z 16 [21] rfl (fS rfl<|fN)<|z10 5 [1001] [(100,19)] rfl (by kernel_rfl) rfl (gd0 rfl) rfl Tryz.func51 rfl rfl (zme _ _) (Y2 rfl rfl) (y1 rfl) rfl (fun _ _=>z05) fun r8 n9=>Zf 6 rfl rfl z05 (asg rfl)<|hTk 7 rfl rfl (asg rfl)<|z0y (by kernel_rfl)<|z0d<|z0m<|Ze [(n9 0)] [1001,19] rfl
def zc0 (a0:z0g):Option ((List UInt8) × Int) :=
 z5e a0 >>= fun r2 =>
 if r2 != 0 then
  z5e a0 >>= fun r5 =>
  some ([],r5)
 else
  z8o a0 >>= fun r7 =>
  some (r7,0)
theorem zh2 (a0:z0g):z27 Tryz.prog 63 [.rd z0c a0] [] (zc0 a0) (fun r nv=>⟨[.val (nv 0),.rd z0k r.2],[(100,some (nv 0,.list u8R 5 r.1))]⟩):=by
 refine z2n 11 Tryz.func63 rfl rfl rfl fun H w=>?_
 refine gSR<|Eb rfl (bx 1 rfl) fun v1=>Za rfl<|Za rfl<|Zn<|z0w<|gSR<|Zq (ld 1 rfl rfl Foc.here zg5 rfl)<|Zc [] [] Tryz.func103 rfl (z8d _) fun r2 n3=>Zq (I.neq rfl rfl)<|Zn<|gIf rfl rfl (fun h4=>?_) (fun h4=>?_)
 ·
  refine gSR<|Zq (ld 1 rfl rfl Foc.here zg5 rfl)<|Zc [] [] Tryz.func103 rfl (z8d _) fun r5 n6=>Za rfl<|Za rfl<|Zn<|z0m<|z12<|zm0 u8R 5 2<|Ze [(.slice none 0 0)] [2] rfl
 ·
  refine Zt<|gSR<|Zq (ld 1 rfl rfl Foc.here zg5 rfl)<|Zc [] [(100,3)] Tryz.func96 rfl (zdl _) fun r7 n8=>Za rfl<|Za rfl<|Zn<|z0m<|Ze [(n8 0)] [3] rfl
def z8c (a0:z01) (a1:Vector UInt8 32) (s4:Int):Option (Sum (Sum ((List UInt8)) Unit) Int) :=
 if decide (s4<(a0.IDs.length:Int)) then
  idx a0.IDs s4 >>= fun x6 =>
  if decide (x6=a1) then
   idx a0.Ops s4 >>= fun x9 =>
   zc0 x9 >>= fun r11 =>
   some (.inl (.inl r11.1))
  else
   some (.inr (w64 (s4+1)))
 else
  some (.inl (.inr ()))
def z8s (a0:z01) (a1:Vector UInt8 32):Option ((List UInt8)) :=
 z5p (iter (z8c a0 a1) 0) fun s3 =>
 some []
theorem z67 (a0:z01) (a1:Vector UInt8 32):z27 Tryz.prog 36 [.rd z03 a0,.rd (z06 32 u8R) a1] [] (z8s a0 a1) (fun r nv=>⟨[.val (nv 0)],[(100,some (nv 0,.list u8R 5 r))]⟩):=by
 refine z2n 32 Tryz.func36 rfl rfl rfl fun H w=>?_
 refine gSR<|Eb rfl (bx 1 rfl) fun v1=>Eb rfl (bx 2 rfl) fun v2=>Za rfl<|Zn<|z7k (fun (s3:Unit) aa ww=>Sta (ctx 32 H [] w) [] [] aa ww) ?_ (fun s3=>?_)
 ·
  refine gSR<|Za rfl<|Zn<|z2h (fun (s4:Int) aa ww=>Sta (ctx 32 H [] w) [(2,.val (z09 v1 0)),(3,.val (z09 v2 0)),(5,.rd z0k s4)] [(1,some (v1,.box 25 [.rd z03 a0])),(2,some (v2,.box 62 [.rd (z06 32 u8R) a1]))] aa ww) (fun aa ww h=>Zu h [1,2]) (fun s4=>?_)
  refine z0w<|gSR<|Zm rfl<|Zq (faB 1 rfl rfl Tryz.underlying25 rfl (by exact z2d))<|Zq (ld 1 rfl rfl ((Foc.here).part (z0j _)) z8l rfl)<|Zq (z37 rfl .rd rfl tu22)<|Zq (I.lss rfl rfl)<|Zn<|gIf rfl rfl (fun h5=>?_) (fun h5=>?_)
  ·
   refine Zt<|z0w<|z4q<|z0w<|zdn mixed (by kernel_rfl)<|Rq rfl (faB 1 rfl rfl Tryz.underlying25 rfl (by exact z2d))<|Rq rfl (ld 1 rfl rfl ((Foc.here).part (z0j _)) z8l rfl)<|Rq rfl (mv rfl)<|z6a fun x6 h7=>Rq rfl (ixR rfl rfl h7 tu22 z1p rfl)<|Rq rfl (ldR rfl z49)<|Rq rfl (ld 2 rfl rfl Foc.here z49 rfl)<|Rq rfl (eqA rfl rfl zsh rfl rfl zsu)<|zl6<|z0d<|gIf rfl rfl (fun h8=>?_) (fun h8=>?_)
   ·
    refine gSR<|Zq (faB 1 rfl rfl Tryz.underlying25 rfl (by exact z40))<|Zq (ld 1 rfl rfl ((Foc.here).part (z0f _)) zg6 rfl)<|Zm rfl<|z0s fun x9 h10=>Zq (ixR rfl rfl h10 tu23 z4w rfl)<|Zq (ldR rfl zg5)<|Zc [] [(100,3)] Tryz.func63 rfl (zh2 _) fun r11 n12=>Zm rfl<|Zq (ext rfl rfl)<|Zq (ext rfl rfl)<|Za rfl<|Za rfl<|Zn<|gSR<|Zm rfl<|Za rfl<|Zn<|z0m<|z4a<|z12<|z7g<|z54<|Ze [(n12 0)] [3] rfl
   ·
    refine z2l<|z1w<|z0d<|z1m<|Zm rfl<|Zq (I.add rfl rfl)<|Za rfl<|z1f<|z0r (fun aa ww h=>Zu h [1,2])
  ·
   refine z1z<|z13<|z14<|z4s (fun aa ww h=>Zu h [])
 ·
  refine gSR<|Za rfl<|Zn<|z0m<|zm0 u8R 5 4<|Ze [(.slice none 0 0)] [4] rfl
def z5y (a0:UInt8):Option (Bool) :=
 if a0==2 then
  some true
 else
  if a0==3 then
   some true
  else
   some (a0==4)
theorem za9 (a0:UInt8):z27 Tryz.prog 131 [.rd u8R a0] [] (z5y a0) (fun r nv=>⟨[.rd z0n r],[]⟩):=by
 refine z2n 13 Tryz.func131 rfl rfl rfl fun H w=>?_
 refine gSR<|Za rfl<|Zn<|gSR<|Zm rfl<|Zq (B.eql rfl rfl)<|Zm rfl<|z1n 5 rfl (fun h1=>?_) (fun h1=>?_)
 ·
  refine lKn 4 rfl h1<|Zk rfl<|Zk rfl<|Zq (pkT rfl rfl)<|Zm rfl<|Zk rfl<|Zk rfl<|Zq (pkT rfl rfl)<|Za rfl<|Zn<|z0m<|Ze [] [] rfl
 ·
  refine lKn 4 rfl h1<|z0z Zx rfl rfl (mv rfl)<|z0z Zx rfl rfl (B.eql rfl rfl)<|Zq (pkF rfl rfl)<|Zm rfl<|z1n 9 rfl (fun h2=>?_) (fun h2=>?_)
  ·
   refine lKn 7 rfl h2<|lKn 8 rfl h2<|Zk rfl<|Zk rfl<|Zq (pkT rfl rfl)<|Za rfl<|Zn<|z0m<|Ze [] [] rfl
  ·
   refine lKn 7 rfl h2<|lKn 8 rfl h2<|z0z Zx rfl rfl (mv rfl)<|z0z Zx rfl rfl (B.eql rfl rfl)<|Zq (pkF rfl rfl)<|Za rfl<|Zn<|z0m<|Ze [] [] rfl
def z6c (a0:z0i) (s23:(List UInt8) × Int):Option (Sum ((List UInt8)) ((List UInt8) × Int)) :=
 if decide (s23.2<(a0.Ops.length:Int)) then
  idx a0.Ops s23.2 >>= fun x26 =>
  z61 x26 >>= fun r28 =>
  app 1 s23.1 r28 >>= fun x30 =>
  some (w64 (s23.2+1)) >>= fun y33 =>
  some (.inr (x30,y33))
 else
  some (.inl s23.1)
def zap (a0:z0i):Option ((List UInt8)) :=
 z5y a0.Kind >>= fun r3 =>
 if r3 then
  z9f a0.IDs >>= fun r6 =>
  app 1 [a0.Kind] r6 >>= fun x8 =>
  some x8
 else
  if a0.Kind != 5 then
   z21 a0.N >>= fun r12 =>
   app 1 [a0.Kind] r12 >>= fun x14 =>
   some x14
  else
   z21 (UInt64.ofInt (a0.Ops.length:Int)) >>= fun r17 =>
   app 1 [a0.Kind] r17 >>= fun x19 =>
   (iter (z6c a0) (x19,0)) >>= fun s22 =>
   some s22
theorem zhz (a0:z0i):z27 Tryz.prog 132 [.rd z0h a0] [] (zap a0) (fun r nv=>⟨[.val (nv 0)],[(100,some (nv 0,.list u8R 5 r))]⟩):=by
 refine z2n 47 Tryz.func132 rfl rfl rfl fun H w=>?_
 refine gSR<|Eb rfl (bx 1 rfl) fun v1=>Za rfl<|Zn<|gSR<|Zq (faB 1 rfl rfl Tryz.underlying44 rfl (by exact ti5))<|Zq (ld 1 rfl rfl ((Foc.here).part (z15 _)) ty5 rfl)<|Ef rfl (lit (R:=u8R) ([a0.Kind]:List UInt8) 2 (pP rfl rfl<|pN) rfl tu75 ti5 rfl rfl) fun v2=>Za rfl<|Zn<|z0w<|gSR<|Zq (faB 1 rfl rfl Tryz.underlying44 rfl (by exact ti5))<|Zq (ld 1 rfl rfl ((Foc.here).part (z15 _)) ty5 rfl)<|Zc [] [] Tryz.func131 rfl (za9 _) fun r3 n4=>Zn<|gIf rfl rfl (fun h5=>?_) (fun h5=>?_)
 ·
  refine gSR<|Zm rfl<|Zq (faB 1 rfl rfl Tryz.underlying44 rfl (by exact z2d))<|Zq (ld 1 rfl rfl ((Foc.here).part (z29 _)) z8l rfl)<|Zc [] [(100,3)] Tryz.func174 rfl (zdt _) fun r6 n7=>z0s fun x8 h9=>Ef rfl (apn 2 rfl rfl rfl (.own 3 rfl) h9 tu75 ti5 rfl rfl rfl) fun v10=>Za rfl<|Zn<|z0m<|z12<|Ze [v10] [2] rfl
 ·
  refine Zt<|z0w<|gSR<|Zq (faB 1 rfl rfl Tryz.underlying44 rfl (by exact ti5))<|Zq (ld 1 rfl rfl ((Foc.here).part (z15 _)) ty5 rfl)<|Zq (B.neq rfl rfl)<|Zn<|gIf rfl rfl (fun h11=>?_) (fun h11=>?_)
  ·
   refine gSR<|Zm rfl<|Zq (faB 1 rfl rfl Tryz.underlying44 rfl (by exact znl))<|Zq (ld 1 rfl rfl ((Foc.here).part (z7l _)) zmo rfl)<|Zc [] [(100,4)] Tryz.func140 rfl (z2o _) fun r12 n13=>z0s fun x14 h15=>Ef rfl (apn 2 rfl rfl rfl (.own 4 rfl) h15 tu75 ti5 rfl rfl rfl) fun v16=>Za rfl<|Zn<|z0m<|z12<|Ze [v16] [2] rfl
  ·
   refine Zt<|gSR<|Zm rfl<|Zq (faB 1 rfl rfl Tryz.underlying44 rfl (by exact zk1))<|Zq (ld 1 rfl rfl ((Foc.here).part (z11 _)) zl2 rfl)<|Zq (z37 rfl .rd rfl tu42)<|Zq (I.toU rfl tu3 tu41)<|Zc [] [(100,5)] Tryz.func140 rfl (z2o _) fun r17 n18=>z0s fun x19 h20=>Ef rfl (apn 2 rfl rfl rfl (.own 5 rfl) h20 tu75 ti5 rfl rfl rfl) fun v21=>Za rfl<|Zn<|z7f (fun (s22:(List UInt8)) aa ww=>∃ nv:Nat→Value,Sta (ctx 47 H [] w) [(3,.val (nv 0))] [(2,some ((nv 0),.list u8R 5 s22))] aa ww) ?_ (fun s22=>?_)
   ·
    refine gSR<|Za rfl<|Zn<|z2h (fun (s23:(List UInt8) × Int) aa ww=>∃ nv:Nat→Value,Sta (ctx 47 H [] w) [(1,.val (z09 v1 0)),(3,.val (nv 0)),(4,.rd z0k s23.2)] [(1,some (v1,.box 44 [.rd z0h a0])),(2,some ((nv 0),.list u8R 5 s23.1))] aa ww) (fun aa ww h=>⟨nvl [v21],Zu h [1,2]⟩) (fun s23=>?_)
    refine gEx fun n24=>z0w<|gSR<|Zm rfl<|Zq (faB 1 rfl rfl Tryz.underlying44 rfl (by exact zk1))<|Zq (ld 1 rfl rfl ((Foc.here).part (z11 _)) zl2 rfl)<|Zq (z37 rfl .rd rfl tu42)<|Zq (I.lss rfl rfl)<|Zn<|gIf rfl rfl (fun h25=>?_) (fun h25=>?_)
    ·
     refine Zt<|z0w<|z4q<|z1m<|Zm rfl<|Zq (faB 1 rfl rfl Tryz.underlying44 rfl (by exact zk1))<|Zq (ld 1 rfl rfl ((Foc.here).part (z11 _)) zl2 rfl)<|Zm rfl<|z0s fun x26 h27=>Zq (ixR rfl rfl h27 tu42 zcm rfl)<|Zq (ldR rfl zuu)<|Zc [] [(100,6)] Tryz.func175 rfl (zb8 _) fun r28 n29=>z0s fun x30 h31=>Ef rfl (apn 2 rfl rfl rfl (.own 6 rfl) h31 tu75 ti5 rfl rfl rfl) fun v32=>Za rfl<|z1f<|z1w<|z0d<|z1m<|Zm rfl<|Zq (I.add rfl rfl)<|Za rfl<|z1e 4 rfl fun y33=>z1f<|z0r (fun aa ww h=>⟨nvl [v32],Zu h [1,2]⟩)
    ·
     refine z1z<|z13<|z14<|z2x (fun aa ww h=>⟨nvl [(n24 0)],Zu h [2]⟩)
   ·
    refine gEx fun n34=>gSR<|Zm rfl<|Za rfl<|Zn<|z0m<|Ze [(n34 0)] [2] rfl
def z60 (a0:z0i) (s32:Int):Option (Sum (Sum Int Unit) Int) :=
 if decide (s32<(a0.Ops.length:Int)) then
  idx a0.Ops s32 >>= fun x34 =>
  if decide (400<(x34.length:Int)) then
   some (.inl (.inl 8))
  else
   some (w64 (s32+1)) >>= fun y37 =>
   some (.inr y37)
 else
  some (.inl (.inr ()))
def zar (a0:z0i):Option (Int) :=
 if decide (a0.Kind<1) then
  some 8
 else
  if decide (6<a0.Kind) then
   some 8
  else
   (if a0.Kind==1 then
    some true
   else
    some (a0.Kind==6)) >>= fun s4 =>
   z5p (if !s4 then
    if a0.N != 0 then
     some (.inl 8)
    else
     z5y a0.Kind >>= fun r9 =>
     if !r9 then
      if decide (0<(a0.IDs.length:Int)) then
       some (.inl 8)
      else
       if a0.Kind != 5 then
        if decide (0<(a0.Ops.length:Int)) then
         some (.inl 8)
        else
         some (.inr ())
       else
        some (.inr ())
     else
      if a0.Kind != 5 then
       if decide (0<(a0.Ops.length:Int)) then
        some (.inl 8)
       else
        some (.inr ())
      else
       some (.inr ())
   else
    z5y a0.Kind >>= fun r17 =>
    if !r17 then
     if decide (0<(a0.IDs.length:Int)) then
      some (.inl 8)
     else
      if a0.Kind != 5 then
       if decide (0<(a0.Ops.length:Int)) then
        some (.inl 8)
       else
        some (.inr ())
      else
       some (.inr ())
    else
     if a0.Kind != 5 then
      if decide (0<(a0.Ops.length:Int)) then
       some (.inl 8)
      else
       some (.inr ())
     else
      some (.inr ())) fun s6 =>
   (if decide (40<(a0.IDs.length:Int)) then
    some true
   else
    z4n a0.IDs >>= fun r27 =>
    if !r27 then
     some true
    else
     some (decide (8<(a0.Ops.length:Int)))) >>= fun s25 =>
   if s25 then
    some 8
   else
    z5p (iter (z60 a0) 0) fun s31 =>
    zap a0 >>= fun r38 =>
    if decide (2000<(r38.length:Int)) then
     some 8
    else
     some 0
theorem zhw (a0:z0i):z27 Tryz.prog 91 [.rd z0h a0] [] (zar a0) (fun r nv=>⟨[.rd z0k r],[]⟩):=by
 refine z2n 85 Tryz.func91 rfl rfl rfl fun H w=>?_
 refine gSR<|Eb rfl (bx 1 rfl) fun v1=>Za rfl<|Zn<|z0w<|gSR<|Zq (faB 1 rfl rfl Tryz.underlying44 rfl (by exact ti5))<|Zq (ld 1 rfl rfl ((Foc.here).part (z15 _)) ty5 rfl)<|Zq (B.lss rfl rfl)<|Zm rfl<|z1n 8 rfl (fun h2=>?_) (fun h2=>?_)
 ·
  refine lKn 7 rfl h2<|Zk rfl<|Zk rfl<|Zk rfl<|Zq (pkT rfl rfl)<|Zn<|zdg rfl<|gSR<|Za rfl<|Zn<|z0m<|z12<|Ze [] [] rfl
 ·
  refine lKn 7 rfl h2<|z0z Zx rfl rfl (faB 1 rfl rfl Tryz.underlying44 rfl (by exact ti5))<|z0z Zx rfl rfl (ld 1 rfl rfl ((Foc.here).part (z15 _)) ty5 rfl)<|z0z Zx rfl rfl (B.gtr rfl rfl)<|Zq (pkF rfl rfl)<|Zn<|gIf rfl rfl (fun h3=>?_) (fun h3=>?_)
  ·
   refine gKn 11 rfl h3<|gSR<|Za rfl<|Zn<|z0m<|z12<|Ze [] [] rfl
  ·
   refine gKn 11 rfl h3<|Zt<|z7f (fun (s4:Bool) aa ww=>Sta (ctx 85 H [] w) [(1,.val (z09 v1 0)),(3,.rd z0n s4)] [(1,some (v1,.box 44 [.rd z0h a0]))] aa ww) ?_ (fun s4=>?_)
   ·
    refine z1m<|Zq (faB 1 rfl rfl Tryz.underlying44 rfl (by exact ti5))<|Zq (ld 1 rfl rfl ((Foc.here).part (z15 _)) ty5 rfl)<|Zq (B.eql rfl rfl)<|Zm rfl<|z1n 16 rfl (fun h5=>?_) (fun h5=>?_)
    ·
     refine lKn 15 rfl h5<|Zk rfl<|Zk rfl<|Zk rfl<|Zq (pkT rfl rfl)<|Za rfl<|z1f<|z2x (fun aa ww h=>Zu h [1])
    ·
     refine lKn 15 rfl h5<|z0z Zx rfl rfl (faB 1 rfl rfl Tryz.underlying44 rfl (by exact ti5))<|z0z Zx rfl rfl (ld 1 rfl rfl ((Foc.here).part (z15 _)) ty5 rfl)<|z0z Zx rfl rfl (B.eql rfl rfl)<|Zq (pkF rfl rfl)<|Za rfl<|z1f<|z2x (fun aa ww h=>Zu h [1])
   ·
    refine z7k (fun (s6:Unit) aa ww=>Sta (ctx 85 H [] w) [(1,.val (z09 v1 0))] [(1,some (v1,.box 44 [.rd z0h a0]))] aa ww) ?_ (fun s6=>?_)
    ·
     refine gSR<|Zm rfl<|Zq (zcy rfl)<|Zm rfl<|z1n 23 rfl (fun h7=>?_) (fun h7=>?_)
     ·
      refine lKn 22 rfl h7<|z0z Zx rfl rfl (faB 1 rfl rfl Tryz.underlying44 rfl (by exact znl))<|z0z Zx rfl rfl (ld 1 rfl rfl ((Foc.here).part (z7l _)) zmo rfl)<|z0z Zx rfl rfl (U.neq rfl rfl)<|Zq (pkT rfl rfl)<|Zm rfl<|z1n 28 rfl (fun h8=>?_) (fun h8=>?_)
      ·
       refine lKn 26 rfl h8<|lKn 27 rfl h8<|Zk rfl<|Zk rfl<|Zk rfl<|Zk rfl<|Zk rfl<|zgo (gdU rfl rfl rfl) rfl rfl<|zgo (gdU rfl rfl rfl) rfl rfl<|zgo (gdU rfl rfl rfl) rfl rfl<|zgo (gdU rfl rfl rfl) rfl rfl<|Zk rfl<|Zq (pkT rfl rfl)<|Zm rfl<|Zk rfl<|Zk rfl<|Zk rfl<|Zk rfl<|zgo (gdU rfl rfl rfl) rfl rfl<|zgo (gdU rfl rfl rfl) rfl rfl<|zgo (gdU rfl rfl rfl) rfl rfl<|zgo (gdU rfl rfl rfl) rfl rfl<|Zk rfl<|Zq (pkT rfl rfl)<|Zn<|zdg rfl<|gSR<|Za rfl<|Zn<|z0m<|z54<|Ze [] [] rfl
      ·
       refine lKn 26 rfl h8<|lKn 27 rfl h8<|z0z Zx rfl rfl (faB 1 rfl rfl Tryz.underlying44 rfl (by exact ti5))<|z0z Zx rfl rfl (ld 1 rfl rfl ((Foc.here).part (z15 _)) ty5 rfl)<|zcw [] [] Zx rfl Tryz.func131 rfl rfl (za9 _) (Y1 rfl) rN fun r9 n10=>z0z Zx rfl rfl (zcy rfl)<|z0z Zx rfl rfl (mv rfl)<|z1n 33 rfl (fun h11=>?_) (fun h11=>?_)
       ·
        refine lKn 32 rfl h11<|z0z Zx rfl rfl (faB 1 rfl rfl Tryz.underlying44 rfl (by exact z2d))<|z0z Zx rfl rfl (ld 1 rfl rfl ((Foc.here).part (z29 _)) z8l rfl)<|z0z Zx rfl rfl (z37 rfl .rd rfl tu22)<|z0z Zx rfl rfl (I.gtr rfl rfl)<|z0z Zx rfl rfl (pkT rfl rfl)<|Zq (pkF rfl rfl)<|Zm rfl<|z1n 40 rfl (fun h12=>?_) (fun h12=>?_)
        ·
         refine lKn 37 rfl h12<|lKn 38 rfl h12<|lKn 39 rfl h12<|Zk rfl<|Zk rfl<|Zk rfl<|Zk rfl<|zgo (gdU rfl rfl rfl) rfl rfl<|zgo (gdU rfl rfl rfl) rfl rfl<|zgo (gdU rfl rfl rfl) rfl rfl<|zgo (gdU rfl rfl rfl) rfl rfl<|Zk rfl<|Zq (pkT rfl rfl)<|Zn<|zdg rfl<|gSR<|Za rfl<|Zn<|z0m<|z54<|Ze [] [] rfl
        ·
         refine lKn 37 rfl h12<|lKn 38 rfl h12<|lKn 39 rfl h12<|z0z Zx rfl rfl (faB 1 rfl rfl Tryz.underlying44 rfl (by exact ti5))<|z0z Zx rfl rfl (ld 1 rfl rfl ((Foc.here).part (z15 _)) ty5 rfl)<|z0z Zx rfl rfl (B.neq rfl rfl)<|z0z Zx rfl rfl (mv rfl)<|z1n 44 rfl (fun h13=>?_) (fun h13=>?_)
         ·
          refine lKn 43 rfl h13<|z0z Zx rfl rfl (faB 1 rfl rfl Tryz.underlying44 rfl (by exact zk1))<|z0z Zx rfl rfl (ld 1 rfl rfl ((Foc.here).part (z11 _)) zl2 rfl)<|z0z Zx rfl rfl (z37 rfl .rd rfl tu42)<|z0z Zx rfl rfl (I.gtr rfl rfl)<|z0z Zx rfl rfl (pkT rfl rfl)<|Zq (pkF rfl rfl)<|Zn<|gIf rfl rfl (fun h14=>?_) (fun h14=>?_)
          ·
           refine gKn 48 rfl h14<|gKn 49 rfl h14<|gSR<|Za rfl<|Zn<|z0m<|z54<|Ze [] [] rfl
          ·
           refine gKn 48 rfl h14<|gKn 49 rfl h14<|z2l<|z4s (fun aa ww h=>Zu h [1])
         ·
          refine lKn 43 rfl h13<|Zk rfl<|Zk rfl<|Zk rfl<|Zk rfl<|z0z Zx rfl rfl (pkF rfl rfl)<|Zq (pkF rfl rfl)<|Zn<|zbl rfl<|z2l<|z4s (fun aa ww h=>Zu h [1])
       ·
        refine lKn 32 rfl h11<|Zk rfl<|Zk rfl<|Zk rfl<|Zk rfl<|z0z Zx rfl rfl (pkF rfl rfl)<|Zq (pkF rfl rfl)<|Zm rfl<|z0z Zx rfl rfl (faB 1 rfl rfl Tryz.underlying44 rfl (by exact ti5))<|z0z Zx rfl rfl (ld 1 rfl rfl ((Foc.here).part (z15 _)) ty5 rfl)<|z0z Zx rfl rfl (B.neq rfl rfl)<|z0z Zx rfl rfl (mv rfl)<|z1n 44 rfl (fun h15=>?_) (fun h15=>?_)
        ·
         refine lKn 43 rfl h15<|z0z Zx rfl rfl (faB 1 rfl rfl Tryz.underlying44 rfl (by exact zk1))<|z0z Zx rfl rfl (ld 1 rfl rfl ((Foc.here).part (z11 _)) zl2 rfl)<|z0z Zx rfl rfl (z37 rfl .rd rfl tu42)<|z0z Zx rfl rfl (I.gtr rfl rfl)<|z0z Zx rfl rfl (pkT rfl rfl)<|Zq (pkF rfl rfl)<|Zn<|gIf rfl rfl (fun h16=>?_) (fun h16=>?_)
         ·
          refine gKn 48 rfl h16<|gKn 49 rfl h16<|gSR<|Za rfl<|Zn<|z0m<|z54<|Ze [] [] rfl
         ·
          refine gKn 48 rfl h16<|gKn 49 rfl h16<|z2l<|z4s (fun aa ww h=>Zu h [1])
        ·
         refine lKn 43 rfl h15<|Zk rfl<|Zk rfl<|Zk rfl<|Zk rfl<|z0z Zx rfl rfl (pkF rfl rfl)<|Zq (pkF rfl rfl)<|Zn<|zbl rfl<|z2l<|z4s (fun aa ww h=>Zu h [1])
     ·
      refine lKn 22 rfl h7<|Zk rfl<|Zk rfl<|Zk rfl<|Zq (pkF rfl rfl)<|Zm rfl<|z0z Zx rfl rfl (faB 1 rfl rfl Tryz.underlying44 rfl (by exact ti5))<|z0z Zx rfl rfl (ld 1 rfl rfl ((Foc.here).part (z15 _)) ty5 rfl)<|zcw [] [] Zx rfl Tryz.func131 rfl rfl (za9 _) (Y1 rfl) rN fun r17 n18=>z0z Zx rfl rfl (zcy rfl)<|z0z Zx rfl rfl (mv rfl)<|z1n 33 rfl (fun h19=>?_) (fun h19=>?_)
      ·
       refine lKn 32 rfl h19<|z0z Zx rfl rfl (faB 1 rfl rfl Tryz.underlying44 rfl (by exact z2d))<|z0z Zx rfl rfl (ld 1 rfl rfl ((Foc.here).part (z29 _)) z8l rfl)<|z0z Zx rfl rfl (z37 rfl .rd rfl tu22)<|z0z Zx rfl rfl (I.gtr rfl rfl)<|z0z Zx rfl rfl (pkT rfl rfl)<|Zq (pkF rfl rfl)<|Zm rfl<|z1n 40 rfl (fun h20=>?_) (fun h20=>?_)
       ·
        refine lKn 37 rfl h20<|lKn 38 rfl h20<|lKn 39 rfl h20<|Zk rfl<|Zk rfl<|Zk rfl<|Zk rfl<|zgo (gdU rfl rfl rfl) rfl rfl<|zgo (gdU rfl rfl rfl) rfl rfl<|zgo (gdU rfl rfl rfl) rfl rfl<|zgo (gdU rfl rfl rfl) rfl rfl<|Zk rfl<|Zq (pkT rfl rfl)<|Zn<|zdg rfl<|gSR<|Za rfl<|Zn<|z0m<|z54<|Ze [] [] rfl
       ·
        refine lKn 37 rfl h20<|lKn 38 rfl h20<|lKn 39 rfl h20<|z0z Zx rfl rfl (faB 1 rfl rfl Tryz.underlying44 rfl (by exact ti5))<|z0z Zx rfl rfl (ld 1 rfl rfl ((Foc.here).part (z15 _)) ty5 rfl)<|z0z Zx rfl rfl (B.neq rfl rfl)<|z0z Zx rfl rfl (mv rfl)<|z1n 44 rfl (fun h21=>?_) (fun h21=>?_)
        ·
         refine lKn 43 rfl h21<|z0z Zx rfl rfl (faB 1 rfl rfl Tryz.underlying44 rfl (by exact zk1))<|z0z Zx rfl rfl (ld 1 rfl rfl ((Foc.here).part (z11 _)) zl2 rfl)<|z0z Zx rfl rfl (z37 rfl .rd rfl tu42)<|z0z Zx rfl rfl (I.gtr rfl rfl)<|z0z Zx rfl rfl (pkT rfl rfl)<|Zq (pkF rfl rfl)<|Zn<|gIf rfl rfl (fun h22=>?_) (fun h22=>?_)
         ·
          refine gKn 48 rfl h22<|gKn 49 rfl h22<|gSR<|Za rfl<|Zn<|z0m<|z54<|Ze [] [] rfl
         ·
          refine gKn 48 rfl h22<|gKn 49 rfl h22<|z2l<|z4s (fun aa ww h=>Zu h [1])
        ·
         refine lKn 43 rfl h21<|Zk rfl<|Zk rfl<|Zk rfl<|Zk rfl<|z0z Zx rfl rfl (pkF rfl rfl)<|Zq (pkF rfl rfl)<|Zn<|zbl rfl<|z2l<|z4s (fun aa ww h=>Zu h [1])
      ·
       refine lKn 32 rfl h19<|Zk rfl<|Zk rfl<|Zk rfl<|Zk rfl<|z0z Zx rfl rfl (pkF rfl rfl)<|Zq (pkF rfl rfl)<|Zm rfl<|z0z Zx rfl rfl (faB 1 rfl rfl Tryz.underlying44 rfl (by exact ti5))<|z0z Zx rfl rfl (ld 1 rfl rfl ((Foc.here).part (z15 _)) ty5 rfl)<|z0z Zx rfl rfl (B.neq rfl rfl)<|z0z Zx rfl rfl (mv rfl)<|z1n 44 rfl (fun h23=>?_) (fun h23=>?_)
       ·
        refine lKn 43 rfl h23<|z0z Zx rfl rfl (faB 1 rfl rfl Tryz.underlying44 rfl (by exact zk1))<|z0z Zx rfl rfl (ld 1 rfl rfl ((Foc.here).part (z11 _)) zl2 rfl)<|z0z Zx rfl rfl (z37 rfl .rd rfl tu42)<|z0z Zx rfl rfl (I.gtr rfl rfl)<|z0z Zx rfl rfl (pkT rfl rfl)<|Zq (pkF rfl rfl)<|Zn<|gIf rfl rfl (fun h24=>?_) (fun h24=>?_)
        ·
         refine gKn 48 rfl h24<|gKn 49 rfl h24<|gSR<|Za rfl<|Zn<|z0m<|z54<|Ze [] [] rfl
        ·
         refine gKn 48 rfl h24<|gKn 49 rfl h24<|z2l<|z4s (fun aa ww h=>Zu h [1])
       ·
        refine lKn 43 rfl h23<|Zk rfl<|Zk rfl<|Zk rfl<|Zk rfl<|z0z Zx rfl rfl (pkF rfl rfl)<|Zq (pkF rfl rfl)<|Zn<|zbl rfl<|z2l<|z4s (fun aa ww h=>Zu h [1])
    ·
     refine z0w<|z7f (fun (s25:Bool) aa ww=>Sta (ctx 85 H [] w) [(1,.val (z09 v1 0)),(66,.rd z0n s25)] [(1,some (v1,.box 44 [.rd z0h a0]))] aa ww) ?_ (fun s25=>?_)
     ·
      refine z1m<|Zq (faB 1 rfl rfl Tryz.underlying44 rfl (by exact z2d))<|Zq (ld 1 rfl rfl ((Foc.here).part (z29 _)) z8l rfl)<|Zq (z37 rfl .rd rfl tu22)<|Zq (I.gtr rfl rfl)<|Zm rfl<|z1n 55 rfl (fun h26=>?_) (fun h26=>?_)
      ·
       refine lKn 54 rfl h26<|Zk rfl<|Zk rfl<|Zk rfl<|Zk rfl<|Zq (pkT rfl rfl)<|Zm rfl<|Zk rfl<|Zk rfl<|Zk rfl<|Zk rfl<|Zq (pkT rfl rfl)<|z1f<|z2x (fun aa ww h=>Zu h [1])
      ·
       refine lKn 54 rfl h26<|z0z Zx rfl rfl (faB 1 rfl rfl Tryz.underlying44 rfl (by exact z2d))<|z0z Zx rfl rfl (ld 1 rfl rfl ((Foc.here).part (z29 _)) z8l rfl)<|zcw [] [] Zx rfl Tryz.func108 rfl rfl (zac _) (Y1 rfl) rN fun r27 n28=>z0z Zx rfl rfl (zcy rfl)<|Zq (pkF rfl rfl)<|Zm rfl<|z1n 61 rfl (fun h29=>?_) (fun h29=>?_)
       ·
        refine lKn 59 rfl h29<|lKn 60 rfl h29<|Zk rfl<|Zk rfl<|Zk rfl<|Zk rfl<|Zq (pkT rfl rfl)<|z1f<|z2x (fun aa ww h=>Zu h [1])
       ·
        refine lKn 59 rfl h29<|lKn 60 rfl h29<|z0z Zx rfl rfl (faB 1 rfl rfl Tryz.underlying44 rfl (by exact zk1))<|z0z Zx rfl rfl (ld 1 rfl rfl ((Foc.here).part (z11 _)) zl2 rfl)<|z0z Zx rfl rfl (z37 rfl .rd rfl tu42)<|z0z Zx rfl rfl (I.gtr rfl rfl)<|Zq (pkF rfl rfl)<|z1f<|z2x (fun aa ww h=>Zu h [1])
     ·
      refine gIf rfl rfl (fun h30=>?_) (fun h30=>?_)
      ·
       refine gSR<|Za rfl<|Zn<|z0m<|z12<|Ze [] [] rfl
      ·
       refine Zt<|z7k (fun (s31:Unit) aa ww=>Sta (ctx 85 H [] w) [(1,.val (z09 v1 0))] [(1,some (v1,.box 44 [.rd z0h a0]))] aa ww) ?_ (fun s31=>?_)
       ·
        refine gSR<|Za rfl<|Zn<|z2h (fun (s32:Int) aa ww=>Sta (ctx 85 H [] w) [(1,.val (z09 v1 0)),(4,.rd z0k s32)] [(1,some (v1,.box 44 [.rd z0h a0]))] aa ww) (fun aa ww h=>Zu h [1]) (fun s32=>?_)
        refine z0w<|gSR<|Zm rfl<|Zq (faB 1 rfl rfl Tryz.underlying44 rfl (by exact zk1))<|Zq (ld 1 rfl rfl ((Foc.here).part (z11 _)) zl2 rfl)<|Zq (z37 rfl .rd rfl tu42)<|Zq (I.lss rfl rfl)<|Zn<|gIf rfl rfl (fun h33=>?_) (fun h33=>?_)
        ·
         refine Zt<|z0w<|z4q<|gSR<|Zq (faB 1 rfl rfl Tryz.underlying44 rfl (by exact zk1))<|Zq (ld 1 rfl rfl ((Foc.here).part (z11 _)) zl2 rfl)<|Zm rfl<|z0s fun x34 h35=>Zq (ixR rfl rfl h35 tu42 zcm rfl)<|Zq (ldR rfl zuu)<|Zq (z37 rfl .rd rfl tu75)<|Zq (I.gtr rfl rfl)<|Zn<|gIf rfl rfl (fun h36=>?_) (fun h36=>?_)
         ·
          refine gSR<|Za rfl<|Zn<|z0m<|z4a<|z12<|z7g<|z54<|Ze [] [] rfl
         ·
          refine z2l<|z1w<|z0d<|z1m<|Zm rfl<|Zq (I.add rfl rfl)<|Za rfl<|z1e 4 rfl fun y37=>z1f<|z0r (fun aa ww h=>Zu h [1])
        ·
         refine z1z<|z13<|z14<|z4s (fun aa ww h=>Zu h [1])
       ·
        refine z0w<|gSR<|Zq (ld 1 rfl rfl Foc.here zu2 rfl)<|Zc [] [(100,2)] Tryz.func132 rfl (zhz _) fun r38 n39=>Zq (z37 rfl (.own 2 rfl) rfl tu75)<|Zq (I.gtr rfl rfl)<|Zn<|gIf rfl rfl (fun h40=>?_) (fun h40=>?_)
        ·
         refine gSR<|Za rfl<|Zn<|z0m<|z12<|Ze [] [] rfl
        ·
         refine Zt<|gSR<|Za rfl<|Zn<|z0m<|Ze [] [] rfl
def z4h (a0:z01) (a1:List (Vector UInt8 32)) (s4:(List z0i) × UInt8 × UInt64 × (List (Vector UInt8 32)) × (List (List UInt8)) × Int):Option (Sum ((List z0i) × UInt8 × UInt64 × (List (Vector UInt8 32)) × (List (List UInt8))) ((List z0i) × UInt8 × UInt64 × (List (Vector UInt8 32)) × (List (List UInt8)) × Int)) :=
 if decide (s4.2.2.2.2.2<(a1.length:Int)) then
  (idx a1 s4.2.2.2.2.2 >>= fun x8 =>
  app 24 ([]:List (List UInt8)) s4.2.2.2.2.1 >>= fun x11 =>
  z8s a0 x8 >>= fun r14 =>
  app 24 x11 [r14] >>= fun x17 =>
  some x17) >>= fun s7 =>
  zar (⟨5,0,[],s7⟩:z0i) >>= fun r59 =>
  if r59 != 0 then
   app 64 s4.1 [(⟨s4.2.1,s4.2.2.1,s4.2.2.2.1,s4.2.2.2.2.1⟩:z0i)] >>= fun x63 =>
   idx a1 s4.2.2.2.2.2 >>= fun x66 =>
   z8s a0 x66 >>= fun r68 =>
   some (w64 (s4.2.2.2.2.2+1)) >>= fun y71 =>
   some (.inr (x63,(⟨5,0,[],[r68]⟩:z0i).Kind,(⟨5,0,[],[r68]⟩:z0i).N,(⟨5,0,[],[r68]⟩:z0i).IDs,(⟨5,0,[],[r68]⟩:z0i).Ops,y71))
  else
   some (w64 (s4.2.2.2.2.2+1)) >>= fun y72 =>
   some (.inr (s4.1,(⟨5,0,[],s7⟩:z0i).Kind,(⟨5,0,[],s7⟩:z0i).N,(⟨5,0,[],s7⟩:z0i).IDs,(⟨5,0,[],s7⟩:z0i).Ops,y72))
 else
  some (.inl (s4.1,s4.2.1,s4.2.2.1,s4.2.2.2.1,s4.2.2.2.2.1))
def z9z (a0:z01) (a1:List (Vector UInt8 32)):Option ((List z0i)) :=
 (iter (z4h a0 a1) ([],5,0,[],[],0)) >>= fun s3 =>
 if decide (0<(s3.2.2.2.2.length:Int)) then
  app 64 s3.1 [(⟨s3.2.1,s3.2.2.1,s3.2.2.2.1,s3.2.2.2.2⟩:z0i)] >>= fun x76 =>
  some x76
 else
  some s3.1
theorem zhe (a0:z01) (a1:List (Vector UInt8 32)):z27 Tryz.prog 52 [.rd z03 a0,.rd (z02 (z06 32 u8R)) a1] [] (z9z a0 a1) (fun r nv=>⟨[.val (nv 0)],[(100,some (nv 0,.list z0h 44 r))]⟩):=by
 refine z2n 54 Tryz.func52 rfl rfl rfl fun H w=>?_
 refine gSR<|Eb rfl (bx 1 rfl) fun v1=>Za rfl<|Zn<|gSR<|Za rfl<|Zn<|gSR<|Zq (zsp [(0,1),(1,1),(2,1),(3,1)] Tryz.underlying44 zew (ZrE.rd (R:=u8R) (x:=0) (Zr.num rfl) (ZrE.rd (R:=z2r) (x:=0) (Zr.num rfl) (ZrE.nilS (ZrE.nilS ZrE.nil)) rfl) rfl) rfl (zef.cons rfl rfl z08 (z18.cast (z18.here z08) rfl)<|zef.done rfl))<|Eb rfl (z7s 2 zew (ZrE.rd (R:=u8R) (x:=0) (Zr.num rfl) (ZrE.rd (R:=z2r) (x:=0) (Zr.num rfl) (ZrE.nilS (ZrE.nilS ZrE.nil)) rfl) rfl)) fun v2=>Es (zsq 2 rfl rfl (z0e.cast (z0e.cons z08 (z0e.cons z08 (z0e.cons z00 (z0e.cons z00 z0e.nil)))) rfl) rfl (z3l.cons z2g (z3l.cons z2g (z3l.cons z0a (z3l.cons z0a z3l.nil)))) (z0e.cast (z0e.cons z08 (z0e.cons z08 (z0e.cons z00 (z0e.cons z00 z0e.nil)))) rfl) zew)<|Zn<|z7f (fun (s3:(List z0i) × UInt8 × UInt64 × (List (Vector UInt8 32)) × (List (List UInt8))) aa ww=>∃ nv:Nat→Value,Sta (ctx 54 H [] w) [(5,.val (nv 0)),(6,.val (z09 v2 0))] [(92,some ((nv 0),.list z0h 44 s3.1)),(2,some (v2,.box 44 [.rd u8R s3.2.1,.rd z2r s3.2.2.1,.rd (z02 (z06 32 u8R)) s3.2.2.2.1,.rd (z02 (z02 u8R)) s3.2.2.2.2]))] aa ww) ?_ (fun s3=>?_)
 ·
  refine gSR<|Za rfl<|Zn<|zrq z0h 44 183<|gPnl (z06 32 u8R) [.rd u8R 5,.rd z2r 0,.rd (z02 (z06 32 u8R)) [],.val (.slice none 0 0)] 2 [.rd u8R 5,.rd z2r 0] [.val (.slice none 0 0)] rfl rfl rfl<|gPnl (z02 u8R) [.rd u8R 5,.rd z2r 0,.rd (z02 (z06 32 u8R)) [],.rd (z02 (z02 u8R)) []] 2 [.rd u8R 5,.rd z2r 0,.rd (z02 (z06 32 u8R)) []] [] rfl rfl rfl<|z2h (fun (s4:(List z0i) × UInt8 × UInt64 × (List (Vector UInt8 32)) × (List (List UInt8)) × Int) aa ww=>∃ nv:Nat→Value,Sta (ctx 54 H [] w) [(1,.rd (z02 (z06 32 u8R)) a1),(2,.val (z09 v1 0)),(5,.val (nv 0)),(6,.val (z09 v2 0)),(7,.rd z0k s4.2.2.2.2.2)] [(1,some (v1,.box 25 [.rd z03 a0])),(182,some ((nv 0),.list z0h 44 s4.1)),(2,some (v2,.box 44 [.rd u8R s4.2.1,.rd z2r s4.2.2.1,.rd (z02 (z06 32 u8R)) s4.2.2.2.1,.rd (z02 (z02 u8R)) s4.2.2.2.2.1]))] aa ww) (fun aa ww h=>⟨nvl [(.slice none 0 0)],Zu h [1,183,2]⟩) (fun s4=>?_)
  refine gEx fun n5=>z0w<|gSR<|Zm rfl<|Zm rfl<|Zq (z37 rfl .rd rfl tu22)<|Zq (I.lss rfl rfl)<|Zn<|gIf rfl rfl (fun h6=>?_) (fun h6=>?_)
  ·
   refine Zt<|z0w<|z4q<|z7f (fun (s7:(List (List UInt8))) aa ww=>∃ nv:Nat→Value,Sta (ctx 54 H [] w) [(1,.rd (z02 (z06 32 u8R)) a1),(2,.val (z09 v1 0)),(5,.val (n5 0)),(6,.val (z09 v2 0)),(7,.rd z0k s4.2.2.2.2.2),(8,.val (z09 (nv 0) 0))] [(1,some (v1,.box 25 [.rd z03 a0])),(182,some ((n5 0),.list z0h 44 s4.1)),(2,some (v2,.box 44 [.rd u8R s4.2.1,.rd z2r s4.2.2.1,.rd (z02 (z06 32 u8R)) s4.2.2.2.1,.rd (z02 (z02 u8R)) s4.2.2.2.2.1])),(184,some ((nv 1),.list (z02 u8R) 75 s7)),(223,some ((nv 0),.box 44 [.rd u8R 5,.rd z2r 0,.val (.slice none 0 0),.val (nv 1)]))] aa ww) ?_ (fun s7=>?_)
   ·
    refine z5m [224,251,254,263] mixed rfl rfl<|hTk 1 rfl rfl (faB 2 rfl rfl Tryz.underlying44 rfl (by exact zk1))<|hTk 2 rfl rfl (ld 2 rfl rfl (Foc.cast (Foc.next z08 (Foc.next z08 (Foc.next z08 Foc.here))) rfl) zl2 rfl)<|hTk 4 rfl rfl (ld 1 rfl rfl Foc.here z99 rfl)<|hTk 5 rfl rfl (mv rfl)<|hTk 6 rfl rfl (mv rfl)<|z0o fun x8 h9=>hTk 7 rfl rfl (ixR rfl rfl h9 tu22 z1p rfl)<|hTk 8 rfl rfl (ldR rfl z49)<|z6o [0,13] (by kernel_rfl) rfl ⟨?_,?_,trivial⟩
    ·
     refine oDo 0 rfl (gd0 rfl) rfl rfl rfl (lit (R:=(z02 u8R)) (([]:List (List UInt8)):List (List UInt8)) 224 (pN) rfl tu42 zcm rfl rfl) (fun _=>rfl) fun v10=>z6o [3,13] (by kernel_rfl) rfl ⟨?_,?_,trivial⟩
     ·
      refine zfq fun x11 h12=>oDo 3 rfl (gd0 rfl) rfl rfl rfl (apn 224 rfl rfl rfl .rd h12 tu42 zcm rfl rfl rfl) (fun _=>rfl) fun v13=>z6o [9,13] (by kernel_rfl) rfl ⟨?_,?_,trivial⟩
      ·
       refine z4z 9 [] [(100,251)] rfl rfl (gd0 rfl) rfl Tryz.func36 rfl rfl (z67 _ _) (Y2 rfl rfl) rN rfl (fun _ _=>z05) fun r14 n15=>z6o [10,13] (by kernel_rfl) rfl ⟨?_,?_,trivial⟩
       ·
        refine zql 251 [25] rfl (fS rfl<|fN)<|oDo 10 rfl (gd0 rfl) rfl rfl rfl (lit (R:=(z02 u8R)) ([r14]:List (List UInt8)) 254 (pP rfl rfl<|pN) rfl tu42 zcm rfl rfl) (fun _=>rfl) fun v16=>z6o [11,13] (by kernel_rfl) rfl ⟨?_,?_,trivial⟩
        ·
         refine zql 254 [26] rfl (fS rfl<|fN)<|zfq fun x17 h18=>oDo 11 rfl (gd0 rfl) rfl rfl rfl (apn 224 rfl rfl rfl .rd h18 tu42 zcm rfl rfl rfl) (fun _=>rfl) fun v19=>zbw 12 rfl (by kernel_rfl) (by kernel_rfl) (by kernel_rfl) (gd0 rfl) rfl rfl (zsp [(0,1),(1,1),(2,1),(3,1)] Tryz.underlying44 zew (ZrE.rd (R:=u8R) (x:=0) (Zr.num rfl) (ZrE.rd (R:=z2r) (x:=0) (Zr.num rfl) (ZrE.nilS (ZrE.nilS ZrE.nil)) rfl) rfl) rfl (zef.cons rfl rfl z08 (z18.cast (z18.here z08) rfl)<|zef.cons rfl rfl z00 (z18.cast (z18.next z08 (z18.next z08 (z18.next z00 (z18.here z00)))) rfl)<|zef.done rfl))<|zzt 13 rfl (by kernel_rfl) (gd0 rfl) rfl rfl rfl (z7s 263 zew (ZrE.rd (R:=u8R) (x:=0) (Zr.num rfl) (ZrE.rd (R:=z2r) (x:=0) (Zr.num rfl) (ZrE.nilS (ZrE.nilS ZrE.nil)) rfl) rfl)) fun v20=>Zp 14 rfl rfl rfl rfl rfl (zsq 263 rfl rfl (z0e.cast (z0e.cons z08 (z0e.cons z08 (z0e.cons z00 (z0e.cons z00 z0e.nil)))) rfl) rfl (z3l.cons z2g (z3l.cons z2g (z3l.cons z0a (z3l.cons z0a z3l.nil)))) (z0e.cast (z0e.cons z08 (z0e.cons z08 (z0e.cons z00 (z0e.cons z00 z0e.nil)))) rfl) zew)<|z0y (by kernel_rfl)<|z2x (fun aa ww h=>⟨nvl [v20,v19],Zu h [1,182,2,224,263]⟩)
        ·
         refine zo1 13 rfl (gd0 rfl) rfl rfl rfl (z7s 263 zew (ZrE.rd (R:=u8R) (x:=0) (Zr.num rfl) (ZrE.rd (R:=z2r) (x:=0) (Zr.num rfl) (ZrE.nilS (ZrE.nilS ZrE.nil)) rfl) rfl)) fun v21=>z2z 254 [26] rfl (fS rfl<|fN)<|z0o fun x22 h23=>Zo 11 rfl rfl rfl (apn 224 rfl rfl rfl .rd h23 tu42 zcm rfl rfl rfl) fun v24=>zbw 12 rfl (by kernel_rfl) (by kernel_rfl) (by kernel_rfl) (gd0 rfl) rfl rfl (zsp [(0,1),(1,1),(2,1),(3,1)] Tryz.underlying44 zew (ZrE.rd (R:=u8R) (x:=0) (Zr.num rfl) (ZrE.rd (R:=z2r) (x:=0) (Zr.num rfl) (ZrE.nilS (ZrE.nilS ZrE.nil)) rfl) rfl) rfl (zef.cons rfl rfl z08 (z18.cast (z18.here z08) rfl)<|zef.cons rfl rfl z00 (z18.cast (z18.next z08 (z18.next z08 (z18.next z00 (z18.here z00)))) rfl)<|zef.done rfl))<|Zp 14 rfl rfl rfl rfl rfl (zsq 263 rfl rfl (z0e.cast (z0e.cons z08 (z0e.cons z08 (z0e.cons z00 (z0e.cons z00 z0e.nil)))) rfl) rfl (z3l.cons z2g (z3l.cons z2g (z3l.cons z0a (z3l.cons z0a z3l.nil)))) (z0e.cast (z0e.cons z08 (z0e.cons z08 (z0e.cons z00 (z0e.cons z00 z0e.nil)))) rfl) zew)<|z0y (by kernel_rfl)<|z2x (fun aa ww h=>⟨nvl [v21,v24],Zu h [1,182,2,224,263]⟩)
       ·
        refine zo1 13 rfl (gd0 rfl) rfl rfl rfl (z7s 263 zew (ZrE.rd (R:=u8R) (x:=0) (Zr.num rfl) (ZrE.rd (R:=z2r) (x:=0) (Zr.num rfl) (ZrE.nilS (ZrE.nilS ZrE.nil)) rfl) rfl)) fun v25=>z2z 251 [25] rfl (fS rfl<|fN)<|Zo 10 rfl rfl rfl (lit (R:=(z02 u8R)) ([r14]:List (List UInt8)) 254 (pP rfl rfl<|pN) rfl tu42 zcm rfl rfl) fun v26=>z2z 254 [26] rfl (fS rfl<|fN)<|z0o fun x27 h28=>Zo 11 rfl rfl rfl (apn 224 rfl rfl rfl .rd h28 tu42 zcm rfl rfl rfl) fun v29=>zbw 12 rfl (by kernel_rfl) (by kernel_rfl) (by kernel_rfl) (gd0 rfl) rfl rfl (zsp [(0,1),(1,1),(2,1),(3,1)] Tryz.underlying44 zew (ZrE.rd (R:=u8R) (x:=0) (Zr.num rfl) (ZrE.rd (R:=z2r) (x:=0) (Zr.num rfl) (ZrE.nilS (ZrE.nilS ZrE.nil)) rfl) rfl) rfl (zef.cons rfl rfl z08 (z18.cast (z18.here z08) rfl)<|zef.cons rfl rfl z00 (z18.cast (z18.next z08 (z18.next z08 (z18.next z00 (z18.here z00)))) rfl)<|zef.done rfl))<|Zp 14 rfl rfl rfl rfl rfl (zsq 263 rfl rfl (z0e.cast (z0e.cons z08 (z0e.cons z08 (z0e.cons z00 (z0e.cons z00 z0e.nil)))) rfl) rfl (z3l.cons z2g (z3l.cons z2g (z3l.cons z0a (z3l.cons z0a z3l.nil)))) (z0e.cast (z0e.cons z08 (z0e.cons z08 (z0e.cons z00 (z0e.cons z00 z0e.nil)))) rfl) zew)<|z0y (by kernel_rfl)<|z2x (fun aa ww h=>⟨nvl [v25,v29],Zu h [1,182,2,224,263]⟩)
      ·
       refine zo1 13 rfl (gd0 rfl) rfl rfl rfl (z7s 263 zew (ZrE.rd (R:=u8R) (x:=0) (Zr.num rfl) (ZrE.rd (R:=z2r) (x:=0) (Zr.num rfl) (ZrE.nilS (ZrE.nilS ZrE.nil)) rfl) rfl)) fun v30=>z10 9 [] [(100,251)] rfl (by kernel_rfl) rfl (gd0 rfl) rfl Tryz.func36 rfl rfl (z67 _ _) (Y2 rfl rfl) rN rfl (fun _ _=>z05) fun r31 n32=>z2z 251 [25] rfl (fS rfl<|fN)<|Zo 10 rfl rfl rfl (lit (R:=(z02 u8R)) ([r31]:List (List UInt8)) 254 (pP rfl rfl<|pN) rfl tu42 zcm rfl rfl) fun v33=>z2z 254 [26] rfl (fS rfl<|fN)<|z0o fun x34 h35=>Zo 11 rfl rfl rfl (apn 224 rfl rfl rfl .rd h35 tu42 zcm rfl rfl rfl) fun v36=>zbw 12 rfl (by kernel_rfl) (by kernel_rfl) (by kernel_rfl) (gd0 rfl) rfl rfl (zsp [(0,1),(1,1),(2,1),(3,1)] Tryz.underlying44 zew (ZrE.rd (R:=u8R) (x:=0) (Zr.num rfl) (ZrE.rd (R:=z2r) (x:=0) (Zr.num rfl) (ZrE.nilS (ZrE.nilS ZrE.nil)) rfl) rfl) rfl (zef.cons rfl rfl z08 (z18.cast (z18.here z08) rfl)<|zef.cons rfl rfl z00 (z18.cast (z18.next z08 (z18.next z08 (z18.next z00 (z18.here z00)))) rfl)<|zef.done rfl))<|Zp 14 rfl rfl rfl rfl rfl (zsq 263 rfl rfl (z0e.cast (z0e.cons z08 (z0e.cons z08 (z0e.cons z00 (z0e.cons z00 z0e.nil)))) rfl) rfl (z3l.cons z2g (z3l.cons z2g (z3l.cons z0a (z3l.cons z0a z3l.nil)))) (z0e.cast (z0e.cons z08 (z0e.cons z08 (z0e.cons z00 (z0e.cons z00 z0e.nil)))) rfl) zew)<|z0y (by kernel_rfl)<|z2x (fun aa ww h=>⟨nvl [v30,v36],Zu h [1,182,2,224,263]⟩)
     ·
      refine zo1 13 rfl (gd0 rfl) rfl rfl rfl (z7s 263 zew (ZrE.rd (R:=u8R) (x:=0) (Zr.num rfl) (ZrE.rd (R:=z2r) (x:=0) (Zr.num rfl) (ZrE.nilS (ZrE.nilS ZrE.nil)) rfl) rfl)) fun v37=>z0o fun x38 h39=>Zo 3 rfl rfl rfl (apn 224 rfl rfl rfl .rd h39 tu42 zcm rfl rfl rfl) fun v40=>z10 9 [] [(100,251)] rfl (by kernel_rfl) rfl (gd0 rfl) rfl Tryz.func36 rfl rfl (z67 _ _) (Y2 rfl rfl) rN rfl (fun _ _=>z05) fun r41 n42=>z2z 251 [25] rfl (fS rfl<|fN)<|Zo 10 rfl rfl rfl (lit (R:=(z02 u8R)) ([r41]:List (List UInt8)) 254 (pP rfl rfl<|pN) rfl tu42 zcm rfl rfl) fun v43=>z2z 254 [26] rfl (fS rfl<|fN)<|z0o fun x44 h45=>Zo 11 rfl rfl rfl (apn 224 rfl rfl rfl .rd h45 tu42 zcm rfl rfl rfl) fun v46=>zbw 12 rfl (by kernel_rfl) (by kernel_rfl) (by kernel_rfl) (gd0 rfl) rfl rfl (zsp [(0,1),(1,1),(2,1),(3,1)] Tryz.underlying44 zew (ZrE.rd (R:=u8R) (x:=0) (Zr.num rfl) (ZrE.rd (R:=z2r) (x:=0) (Zr.num rfl) (ZrE.nilS (ZrE.nilS ZrE.nil)) rfl) rfl) rfl (zef.cons rfl rfl z08 (z18.cast (z18.here z08) rfl)<|zef.cons rfl rfl z00 (z18.cast (z18.next z08 (z18.next z08 (z18.next z00 (z18.here z00)))) rfl)<|zef.done rfl))<|Zp 14 rfl rfl rfl rfl rfl (zsq 263 rfl rfl (z0e.cast (z0e.cons z08 (z0e.cons z08 (z0e.cons z00 (z0e.cons z00 z0e.nil)))) rfl) rfl (z3l.cons z2g (z3l.cons z2g (z3l.cons z0a (z3l.cons z0a z3l.nil)))) (z0e.cast (z0e.cons z08 (z0e.cons z08 (z0e.cons z00 (z0e.cons z00 z0e.nil)))) rfl) zew)<|z0y (by kernel_rfl)<|z2x (fun aa ww h=>⟨nvl [v37,v46],Zu h [1,182,2,224,263]⟩)
    ·
     refine zo1 13 rfl (gd0 rfl) rfl rfl rfl (z7s 263 zew (ZrE.rd (R:=u8R) (x:=0) (Zr.num rfl) (ZrE.rd (R:=z2r) (x:=0) (Zr.num rfl) (ZrE.nilS (ZrE.nilS ZrE.nil)) rfl) rfl)) fun v47=>Zo 0 rfl rfl rfl (lit (R:=(z02 u8R)) (([]:List (List UInt8)):List (List UInt8)) 224 (pN) rfl tu42 zcm rfl rfl) fun v48=>z0o fun x49 h50=>Zo 3 rfl rfl rfl (apn 224 rfl rfl rfl .rd h50 tu42 zcm rfl rfl rfl) fun v51=>z10 9 [] [(100,251)] rfl (by kernel_rfl) rfl (gd0 rfl) rfl Tryz.func36 rfl rfl (z67 _ _) (Y2 rfl rfl) rN rfl (fun _ _=>z05) fun r52 n53=>z2z 251 [25] rfl (fS rfl<|fN)<|Zo 10 rfl rfl rfl (lit (R:=(z02 u8R)) ([r52]:List (List UInt8)) 254 (pP rfl rfl<|pN) rfl tu42 zcm rfl rfl) fun v54=>z2z 254 [26] rfl (fS rfl<|fN)<|z0o fun x55 h56=>Zo 11 rfl rfl rfl (apn 224 rfl rfl rfl .rd h56 tu42 zcm rfl rfl rfl) fun v57=>zbw 12 rfl (by kernel_rfl) (by kernel_rfl) (by kernel_rfl) (gd0 rfl) rfl rfl (zsp [(0,1),(1,1),(2,1),(3,1)] Tryz.underlying44 zew (ZrE.rd (R:=u8R) (x:=0) (Zr.num rfl) (ZrE.rd (R:=z2r) (x:=0) (Zr.num rfl) (ZrE.nilS (ZrE.nilS ZrE.nil)) rfl) rfl) rfl (zef.cons rfl rfl z08 (z18.cast (z18.here z08) rfl)<|zef.cons rfl rfl z00 (z18.cast (z18.next z08 (z18.next z08 (z18.next z00 (z18.here z00)))) rfl)<|zef.done rfl))<|Zp 14 rfl rfl rfl rfl rfl (zsq 263 rfl rfl (z0e.cast (z0e.cons z08 (z0e.cons z08 (z0e.cons z00 (z0e.cons z00 z0e.nil)))) rfl) rfl (z3l.cons z2g (z3l.cons z2g (z3l.cons z0a (z3l.cons z0a z3l.nil)))) (z0e.cast (z0e.cons z08 (z0e.cons z08 (z0e.cons z00 (z0e.cons z00 z0e.nil)))) rfl) zew)<|z0y (by kernel_rfl)<|z2x (fun aa ww h=>⟨nvl [v47,v57],Zu h [1,182,2,224,263]⟩)
   ·
    refine gEx fun n58=>z0w<|gSR<|znn (z06 32 u8R) [.rd u8R 5,.rd z2r 0,.rd (z02 (z06 32 u8R)) [],.val (n58 1)] 223 [.rd u8R 5,.rd z2r 0] [.val (n58 1)] rfl rfl rfl<|zuy [.rd u8R 5,.rd z2r 0,.rd (z02 (z06 32 u8R)) [],.rd (z02 (z02 u8R)) s7] 223 184 [.rd u8R 5,.rd z2r 0,.rd (z02 (z06 32 u8R)) []] [] rfl rfl rfl rfl rfl<|zks (R:=z0h) (⟨5,0,[],s7⟩:z0i) 223 rfl (Sp.via (Sp.prod (Sp.prod (Sp.prod (Sp.prod Sp.unit)))))<|Zq (ld 223 rfl rfl Foc.here zu2 rfl)<|Zc [] [] Tryz.func91 rfl (zhw _) fun r59 n60=>Zq (I.neq rfl rfl)<|Zn<|gIf rfl rfl (fun h61=>?_) (fun h61=>?_)
    ·
     refine gSR<|Zm rfl<|zks (R:=z0h) (⟨s4.2.1,s4.2.2.1,s4.2.2.2.1,s4.2.2.2.2.1⟩:z0i) 2 rfl (Sp.via (Sp.prod (Sp.prod (Sp.prod (Sp.prod Sp.unit)))))<|Zq (ld 2 rfl rfl Foc.here zu2 rfl)<|Ef rfl (lit (R:=z0h) ([(⟨s4.2.1,s4.2.2.1,s4.2.2.2.1,s4.2.2.2.2.1⟩:z0i)]:List z0i) 272 (pP rfl rfl<|pN) rfl tu35 zew rfl rfl) fun v62=>zgv 272 [34] rfl (fS rfl<|fN)<|z0s fun x63 h64=>Ef rfl (apn 182 rfl rfl rfl .rd h64 tu35 zew rfl rfl rfl) fun v65=>Za rfl<|Zn<|z5m [223,288,291] mixed rfl rfl<|hTk 0 rfl rfl (ld 1 rfl rfl Foc.here z99 rfl)<|hTk 1 rfl rfl (mv rfl)<|hTk 2 rfl rfl (mv rfl)<|z0o fun x66 h67=>hTk 3 rfl rfl (ixR rfl rfl h67 tu22 z1p rfl)<|hTk 4 rfl rfl (ldR rfl z49)<|z10 5 [] [(100,288)] rfl (by kernel_rfl) rfl (gd0 rfl) rfl Tryz.func36 rfl rfl (z67 _ _) (Y2 rfl rfl) rN rfl (fun _ _=>z05) fun r68 n69=>z2z 288 [41] rfl (fS rfl<|fN)<|Zo 6 rfl rfl rfl (lit (R:=(z02 u8R)) ([r68]:List (List UInt8)) 291 (pP rfl rfl<|pN) rfl tu42 zcm rfl rfl) fun v70=>zbw 7 rfl (by kernel_rfl) (by kernel_rfl) (by kernel_rfl) (gd0 rfl) rfl rfl (zsp [(0,1),(1,1),(2,1),(3,1)] Tryz.underlying44 zew (ZrE.rd (R:=u8R) (x:=0) (Zr.num rfl) (ZrE.rd (R:=z2r) (x:=0) (Zr.num rfl) (ZrE.nilS (ZrE.nilS ZrE.nil)) rfl) rfl) rfl (zef.cons rfl rfl z08 (z18.cast (z18.here z08) rfl)<|zef.cons rfl rfl z00 (z18.cast (z18.next z08 (z18.next z08 (z18.next z00 (z18.here z00)))) rfl)<|zef.done rfl))<|hSpl (R:=z0h) 223 rfl (Sp.via (Sp.prod (Sp.prod (Sp.prod (Sp.prod Sp.unit)))))<|Zp 8 rfl rfl rfl rfl rfl (zsq 223 rfl rfl (z0e.cast (z0e.cons z08 (z0e.cons z08 (z0e.cons z08 (z0e.cons z08 z0e.nil)))) rfl) rfl (z3l.cons z2g (z3l.cons z2g (z3l.cons z0a (z3l.cons z0a z3l.nil)))) (z0e.cast (z0e.cons z08 (z0e.cons z08 (z0e.cons z00 (z0e.cons z00 z0e.nil)))) rfl) zew)<|z0y (by kernel_rfl)<|z0d<|z1m<|znn (z06 32 u8R) [.rd u8R 5,.rd z2r 0,.rd (z02 (z06 32 u8R)) [],.val v70] 223 [.rd u8R 5,.rd z2r 0] [.val v70] rfl rfl rfl<|zuy [.rd u8R 5,.rd z2r 0,.rd (z02 (z06 32 u8R)) [],.rd (z02 (z02 u8R)) [r68]] 223 291 [.rd u8R 5,.rd z2r 0,.rd (z02 (z06 32 u8R)) []] [] rfl rfl rfl rfl rfl<|zks (R:=z0h) (⟨5,0,[],[r68]⟩:z0i) 223 rfl (Sp.via (Sp.prod (Sp.prod (Sp.prod (Sp.prod Sp.unit)))))<|Zq (ld 223 rfl rfl Foc.here zu2 rfl)<|Es (sto 2 rfl rfl Foc.here rfl zew)<|z1f<|z1w<|z0d<|z1m<|Zm rfl<|Zq (I.add rfl rfl)<|Za rfl<|z1e 7 rfl fun y71=>z1f<|eSpl (R:=z0h) 2 rfl (Sp.via (Sp.prod (Sp.prod (Sp.prod (Sp.prod Sp.unit)))))<|z0r (fun aa ww h=>⟨nvl [v65],Zu h [1,182,2]⟩)
    ·
     refine Zt<|z1m<|Zq (ld 223 rfl rfl Foc.here zu2 rfl)<|zks (R:=z0h) (⟨s4.2.1,s4.2.2.1,s4.2.2.2.1,s4.2.2.2.2.1⟩:z0i) 2 rfl (Sp.via (Sp.prod (Sp.prod (Sp.prod (Sp.prod Sp.unit)))))<|Es (sto 2 rfl rfl Foc.here rfl zew)<|z1f<|z1w<|z0d<|z1m<|Zm rfl<|Zq (I.add rfl rfl)<|Za rfl<|z1e 7 rfl fun y72=>z1f<|eSpl (R:=z0h) 2 rfl (Sp.via (Sp.prod (Sp.prod (Sp.prod (Sp.prod Sp.unit)))))<|z0r (fun aa ww h=>⟨nvl [(n5 0)],Zu h [1,182,2]⟩)
  ·
   refine z1z<|z13<|z14<|z2x (fun aa ww h=>⟨nvl [(n5 0)],Zu h [182,2]⟩)
 ·
  refine gEx fun n73=>z0w<|gSR<|Zq (faB 2 rfl rfl Tryz.underlying44 rfl (by exact zk1))<|Zq (ld 2 rfl rfl (Foc.cast (Foc.next z08 (Foc.next z08 (Foc.next z08 Foc.here))) rfl) zl2 rfl)<|Zq (z37 rfl .rd rfl tu42)<|Zq (I.gtr rfl rfl)<|Zn<|gIf rfl rfl (fun h74=>?_) (fun h74=>?_)
  ·
   refine z1m<|Zm rfl<|zks (R:=z0h) (⟨s3.2.1,s3.2.2.1,s3.2.2.2.1,s3.2.2.2.2⟩:z0i) 2 rfl (Sp.via (Sp.prod (Sp.prod (Sp.prod (Sp.prod Sp.unit)))))<|Zq (ld 2 rfl rfl Foc.here zu2 rfl)<|Ef rfl (lit (R:=z0h) ([(⟨s3.2.1,s3.2.2.1,s3.2.2.2.1,s3.2.2.2.2⟩:z0i)]:List z0i) 303 (pP rfl rfl<|pN) rfl tu35 zew rfl rfl) fun v75=>zgv 303 [51] rfl (fS rfl<|fN)<|z0s fun x76 h77=>Ef rfl (apn 92 rfl rfl rfl .rd h77 tu35 zew rfl rfl rfl) fun v78=>Za rfl<|Zn<|gSR<|Zm rfl<|Za rfl<|Zn<|z0m<|Ze [v78] [92] rfl
  ·
   refine Zt<|gSR<|Zm rfl<|Za rfl<|Zn<|z0m<|Ze [(n73 0)] [92] rfl
def zaj (a0:z01) (a1:List (Vector UInt8 32)) (a2:List (Vector UInt8 32)):Option ((List z0i) × Int) :=
 z4b a0 a1 a2 >>= fun r2 =>
 if r2 != 0 then
  some ([],r2)
 else
  z9i a0 a1 a2 >>= fun r5 =>
  z9z a0 r5 >>= fun r7 =>
  some (r7,0)
theorem zib (a0:z01) (a1:List (Vector UInt8 32)) (a2:List (Vector UInt8 32)):z27 Tryz.prog 19 [.rd z03 a0,.rd (z02 (z06 32 u8R)) a1,.rd (z02 (z06 32 u8R)) a2] [] (zaj a0 a1 a2) (fun r nv=>⟨[.val (nv 0),.rd z0k r.2],[(100,some (nv 0,.list z0h 44 r.1))]⟩):=by
 refine z2n 22 Tryz.func19 rfl rfl rfl fun H w=>?_
 refine gSR<|Eb rfl (bx 1 rfl) fun v1=>Za rfl<|Za rfl<|Zn<|z0w<|gSR<|Zq (ld 1 rfl rfl Foc.here z99 rfl)<|Zm rfl<|Zm rfl<|Zc [] [] Tryz.func33 rfl (z7d _ _ _) fun r2 n3=>Za rfl<|Zn<|gSR<|Zm rfl<|Zq (I.neq rfl rfl)<|Zn<|gIf rfl rfl (fun h4=>?_) (fun h4=>?_)
 ·
  refine gSR<|Zm rfl<|Za rfl<|Za rfl<|Zn<|z0m<|z12<|zm0 z0h 44 2<|Ze [(.slice none 0 0)] [2] rfl
 ·
  refine Zt<|z0w<|z5m [15,18] mixed rfl rfl<|hTk 0 rfl rfl (ld 1 rfl rfl Foc.here z99 rfl)<|hTk 1 rfl rfl (ld 1 rfl rfl Foc.here z99 rfl)<|hTk 2 rfl rfl (mv rfl)<|hTk 3 rfl rfl (mv rfl)<|z10 4 [] [(100,15)] rfl (by kernel_rfl) rfl (gd0 rfl) rfl Tryz.func50 rfl rfl (zdv _ _ _) (aQ rfl<|aQ rfl<|aQ rfl<|aN) rN rfl (fun _ _=>z05) fun r5 n6=>z2z 15 [20] rfl (fS rfl<|fN)<|z10 5 [] [(100,18)] rfl (by kernel_rfl) rfl (gd0 rfl) rfl Tryz.func52 rfl rfl (zhe _ _) (Y2 rfl rfl) rN rfl (fun _ _=>z05) fun r7 n8=>Zf 6 rfl rfl z05 (asg rfl)<|hTk 7 rfl rfl (asg rfl)<|z0y (by kernel_rfl)<|z0d<|z0m<|Ze [(n8 0)] [18] rfl
def z8e (a0:z0i) (a1:z0i) (s9:Int):Option (Sum (Sum Bool Unit) Int) :=
 if decide (s9<(a0.IDs.length:Int)) then
  idx a0.IDs s9 >>= fun x11 =>
  idx a1.IDs s9 >>= fun x13 =>
  if !decide (x11=x13) then
   some (.inl (.inl false))
  else
   some (.inr (w64 (s9+1)))
 else
  some (.inl (.inr ()))
def z5o (a0:z0i) (a1:z0i) (s17:Int):Option (Sum (Sum Bool Unit) Int) :=
 if decide (s17<(a0.Ops.length:Int)) then
  idx a0.Ops s17 >>= fun x19 =>
  idx a1.Ops s17 >>= fun x21 =>
  if x19 != x21 then
   some (.inl (.inl false))
  else
   some (w64 (s17+1)) >>= fun y24 =>
   some (.inr y24)
 else
  some (.inl (.inr ()))
def z7v (a0:z0i) (a1:z0i):Option (Bool) :=
 (if a0.Kind != a1.Kind then
  some true
 else
  if a0.N != a1.N then
   some true
  else
   if (a0.IDs.length:Int) != (a1.IDs.length:Int) then
    some true
   else
    some ((a0.Ops.length:Int) != (a1.Ops.length:Int))) >>= fun s3 =>
 if s3 then
  some false
 else
  z5p (iter (z8e a0 a1) 0) fun s8 =>
  z5p (iter (z5o a0 a1) 0) fun s16 =>
  some true
theorem zf2 (a0:z0i) (a1:z0i):z27 Tryz.prog 20 [.rd z0h a0,.rd z0h a1] [] (z7v a0 a1) (fun r nv=>⟨[.rd z0n r],[]⟩):=by
 refine z2n 75 Tryz.func20 rfl rfl rfl fun H w=>?_
 refine gSR<|Eb rfl (bx 1 rfl) fun v1=>Eb rfl (bx 2 rfl) fun v2=>Za rfl<|Zn<|z0w<|z7f (fun (s3:Bool) aa ww=>Sta (ctx 75 H [] w) [(2,.val (z09 v1 0)),(3,.val (z09 v2 0)),(36,.rd z0n s3)] [(1,some (v1,.box 44 [.rd z0h a0])),(2,some (v2,.box 44 [.rd z0h a1]))] aa ww) ?_ (fun s3=>?_)
 ·
  refine z1m<|Zq (faB 1 rfl rfl Tryz.underlying44 rfl (by exact ti5))<|Zq (ld 1 rfl rfl ((Foc.here).part (z15 _)) ty5 rfl)<|Zq (faB 2 rfl rfl Tryz.underlying44 rfl (by exact ti5))<|Zq (ld 2 rfl rfl ((Foc.here).part (z15 _)) ty5 rfl)<|Zq (B.neq rfl rfl)<|Zm rfl<|z1n 12 rfl (fun h4=>?_) (fun h4=>?_)
  ·
   refine lKn 11 rfl h4<|Zk rfl<|Zk rfl<|Zk rfl<|Zk rfl<|Zk rfl<|Zq (pkT rfl rfl)<|Zm rfl<|Zk rfl<|Zk rfl<|Zk rfl<|Zk rfl<|Zk rfl<|Zk rfl<|Zk rfl<|Zq (pkT rfl rfl)<|Zm rfl<|Zk rfl<|Zk rfl<|Zk rfl<|Zk rfl<|Zk rfl<|Zk rfl<|Zk rfl<|Zq (pkT rfl rfl)<|z1f<|z2x (fun aa ww h=>Zu h [1,2])
  ·
   refine lKn 11 rfl h4<|z0z Zx rfl rfl (faB 1 rfl rfl Tryz.underlying44 rfl (by exact znl))<|z0z Zx rfl rfl (ld 1 rfl rfl ((Foc.here).part (z7l _)) zmo rfl)<|z0z Zx rfl rfl (faB 2 rfl rfl Tryz.underlying44 rfl (by exact znl))<|z0z Zx rfl rfl (ld 2 rfl rfl ((Foc.here).part (z7l _)) zmo rfl)<|z0z Zx rfl rfl (U.neq rfl rfl)<|Zq (pkF rfl rfl)<|Zm rfl<|z1n 19 rfl (fun h5=>?_) (fun h5=>?_)
   ·
    refine lKn 17 rfl h5<|lKn 18 rfl h5<|Zk rfl<|Zk rfl<|Zk rfl<|Zk rfl<|Zk rfl<|Zk rfl<|Zk rfl<|Zq (pkT rfl rfl)<|Zm rfl<|Zk rfl<|Zk rfl<|Zk rfl<|Zk rfl<|Zk rfl<|Zk rfl<|Zk rfl<|Zq (pkT rfl rfl)<|z1f<|z2x (fun aa ww h=>Zu h [1,2])
   ·
    refine lKn 17 rfl h5<|lKn 18 rfl h5<|z0z Zx rfl rfl (faB 1 rfl rfl Tryz.underlying44 rfl (by exact z2d))<|z0z Zx rfl rfl (ld 1 rfl rfl ((Foc.here).part (z29 _)) z8l rfl)<|z0z Zx rfl rfl (z37 rfl .rd rfl tu22)<|z0z Zx rfl rfl (faB 2 rfl rfl Tryz.underlying44 rfl (by exact z2d))<|z0z Zx rfl rfl (ld 2 rfl rfl ((Foc.here).part (z29 _)) z8l rfl)<|z0z Zx rfl rfl (z37 rfl .rd rfl tu22)<|z0z Zx rfl rfl (I.neq rfl rfl)<|Zq (pkF rfl rfl)<|Zm rfl<|z1n 28 rfl (fun h6=>?_) (fun h6=>?_)
    ·
     refine lKn 26 rfl h6<|lKn 27 rfl h6<|Zk rfl<|Zk rfl<|Zk rfl<|Zk rfl<|Zk rfl<|Zk rfl<|Zk rfl<|Zq (pkT rfl rfl)<|z1f<|z2x (fun aa ww h=>Zu h [1,2])
    ·
     refine lKn 26 rfl h6<|lKn 27 rfl h6<|z0z Zx rfl rfl (faB 1 rfl rfl Tryz.underlying44 rfl (by exact zk1))<|z0z Zx rfl rfl (ld 1 rfl rfl ((Foc.here).part (z11 _)) zl2 rfl)<|z0z Zx rfl rfl (z37 rfl .rd rfl tu42)<|z0z Zx rfl rfl (faB 2 rfl rfl Tryz.underlying44 rfl (by exact zk1))<|z0z Zx rfl rfl (ld 2 rfl rfl ((Foc.here).part (z11 _)) zl2 rfl)<|z0z Zx rfl rfl (z37 rfl .rd rfl tu42)<|z0z Zx rfl rfl (I.neq rfl rfl)<|Zq (pkF rfl rfl)<|z1f<|z2x (fun aa ww h=>Zu h [1,2])
 ·
  refine gIf rfl rfl (fun h7=>?_) (fun h7=>?_)
  ·
   refine gSR<|Za rfl<|Zn<|z0m<|z12<|Ze [] [] rfl
  ·
   refine Zt<|z7k (fun (s8:Unit) aa ww=>Sta (ctx 75 H [] w) [(2,.val (z09 v1 0)),(3,.val (z09 v2 0))] [(1,some (v1,.box 44 [.rd z0h a0])),(2,some (v2,.box 44 [.rd z0h a1]))] aa ww) ?_ (fun s8=>?_)
   ·
    refine gSR<|Za rfl<|Zn<|z2h (fun (s9:Int) aa ww=>Sta (ctx 75 H [] w) [(2,.val (z09 v1 0)),(3,.val (z09 v2 0)),(5,.rd z0k s9)] [(1,some (v1,.box 44 [.rd z0h a0])),(2,some (v2,.box 44 [.rd z0h a1]))] aa ww) (fun aa ww h=>Zu h [1,2]) (fun s9=>?_)
    refine z0w<|gSR<|Zm rfl<|Zq (faB 1 rfl rfl Tryz.underlying44 rfl (by exact z2d))<|Zq (ld 1 rfl rfl ((Foc.here).part (z29 _)) z8l rfl)<|Zq (z37 rfl .rd rfl tu22)<|Zq (I.lss rfl rfl)<|Zn<|gIf rfl rfl (fun h10=>?_) (fun h10=>?_)
    ·
     refine Zt<|z0w<|z4q<|z0w<|zdn mixed (by kernel_rfl)<|Rq rfl (faB 1 rfl rfl Tryz.underlying44 rfl (by exact z2d))<|Rq rfl (ld 1 rfl rfl ((Foc.here).part (z29 _)) z8l rfl)<|Rq rfl (mv rfl)<|z6a fun x11 h12=>Rq rfl (ixR rfl rfl h12 tu22 z1p rfl)<|Rq rfl (ldR rfl z49)<|Rq rfl (faB 2 rfl rfl Tryz.underlying44 rfl (by exact z2d))<|Rq rfl (ld 2 rfl rfl ((Foc.here).part (z29 _)) z8l rfl)<|Rq rfl (mv rfl)<|z6a fun x13 h14=>Rq rfl (ixR rfl rfl h14 tu22 z1p rfl)<|Rq rfl (ldR rfl z49)<|Rq rfl (neA rfl rfl zsh rfl rfl zsu)<|zl6<|z0d<|gIf rfl rfl (fun h15=>?_) (fun h15=>?_)
     ·
      refine gSR<|Za rfl<|Zn<|z0m<|z4a<|z12<|z7g<|z54<|Ze [] [] rfl
     ·
      refine z2l<|z1w<|z0d<|z1m<|Zm rfl<|Zq (I.add rfl rfl)<|Za rfl<|z1f<|z0r (fun aa ww h=>Zu h [1,2])
    ·
     refine z1z<|z13<|z14<|z4s (fun aa ww h=>Zu h [1,2])
   ·
    refine z7k (fun (s16:Unit) aa ww=>Sta (ctx 75 H [] w) [] [] aa ww) ?_ (fun s16=>?_)
    ·
     refine gSR<|Za rfl<|Zn<|z2h (fun (s17:Int) aa ww=>Sta (ctx 75 H [] w) [(2,.val (z09 v1 0)),(3,.val (z09 v2 0)),(6,.rd z0k s17)] [(1,some (v1,.box 44 [.rd z0h a0])),(2,some (v2,.box 44 [.rd z0h a1]))] aa ww) (fun aa ww h=>Zu h [1,2]) (fun s17=>?_)
     refine z0w<|gSR<|Zm rfl<|Zq (faB 1 rfl rfl Tryz.underlying44 rfl (by exact zk1))<|Zq (ld 1 rfl rfl ((Foc.here).part (z11 _)) zl2 rfl)<|Zq (z37 rfl .rd rfl tu42)<|Zq (I.lss rfl rfl)<|Zn<|gIf rfl rfl (fun h18=>?_) (fun h18=>?_)
     ·
      refine Zt<|z0w<|z4q<|z0w<|zdn mixed (by kernel_rfl)<|Rq rfl (faB 1 rfl rfl Tryz.underlying44 rfl (by exact zk1))<|Rq rfl (ld 1 rfl rfl ((Foc.here).part (z11 _)) zl2 rfl)<|Rq rfl (mv rfl)<|z6a fun x19 h20=>Rq rfl (ixR rfl rfl h20 tu42 zcm rfl)<|Rq rfl (ldR rfl zuu)<|Rq rfl (cvBS rfl tu75 tu5 tu9)<|Rq rfl (faB 2 rfl rfl Tryz.underlying44 rfl (by exact zk1))<|Rq rfl (ld 2 rfl rfl ((Foc.here).part (z11 _)) zl2 rfl)<|Rq rfl (mv rfl)<|z6a fun x21 h22=>Rq rfl (ixR rfl rfl h22 tu42 zcm rfl)<|Rq rfl (ldR rfl zuu)<|Rq rfl (cvBS rfl tu75 tu5 tu9)<|Rq rfl (neS rfl rfl)<|zl6<|z0d<|gIf rfl rfl (fun h23=>?_) (fun h23=>?_)
      ·
       refine gSR<|Za rfl<|Zn<|z0m<|z4a<|z12<|z7g<|z54<|Ze [] [] rfl
      ·
       refine z2l<|z1w<|z0d<|z1m<|Zm rfl<|Zq (I.add rfl rfl)<|Za rfl<|z1e 6 rfl fun y24=>z1f<|z0r (fun aa ww h=>Zu h [1,2])
     ·
      refine z1z<|z13<|z14<|z4s (fun aa ww h=>Zu h [])
    ·
     refine gSR<|Za rfl<|Zn<|z0m<|Ze [] [] rfl
def z98 (a0:List (Vector UInt8 32)) (a1:List (Vector UInt8 32)) (s3:Int):Option (Sum (Sum Bool Unit) Int) :=
 if decide (s3<(a0.length:Int)) then
  idx a0 s3 >>= fun x5 =>
  idx a1 s3 >>= fun x7 =>
  if !decide (x5=x7) then
   some (.inl (.inl false))
  else
   some (.inr (w64 (s3+1)))
 else
  some (.inl (.inr ()))
def z80 (a0:List (Vector UInt8 32)) (a1:List (Vector UInt8 32)):Option (Bool) :=
 if (a0.length:Int) != (a1.length:Int) then
  some false
 else
  z5p (iter (z98 a0 a1) 0) fun s2 =>
  some true
end
end Go.Proofs.YtefkialcgmohkaaGreatDoor
