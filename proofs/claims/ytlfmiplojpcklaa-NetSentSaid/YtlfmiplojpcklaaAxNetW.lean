/- The code is the program's, function by function. -/
import Derived.Test.YtlfmiplojpcklaaAxNetV
import Derived.Test.YtlfmiplojpcklaaProg
import Derived.KernelRfl
namespace Go.Proofs.Ytlfmiplojpcklaa.Net
open Go.Ax Go.Proofs
theorem ok_musterlaw08_NetSent : compFunc Try.prog Try.f3 = some (eraseF ac_musterlaw08_NetSent) := by kernel_rfl
theorem ok_musterlaw08_NetSpares : compFunc Try.prog Try.f4 = some (eraseF ac_musterlaw08_NetSpares) := by kernel_rfl
theorem ok_net_New : compFunc Try.prog Try.f14 = some (eraseF ac_net_New) := by kernel_rfl
theorem ok_musterlaw08_NetSent_1 : compFunc Try.prog Try.f15 = some (eraseF ac_musterlaw08_NetSent_1) := by kernel_rfl
theorem ok_musterlow_SameBytes : compFunc Try.prog Try.f16 = some (eraseF ac_musterlow_SameBytes) := by kernel_rfl
theorem ok_musterlaw08_body : compFunc Try.prog Try.f17 = some (eraseF ac_musterlaw08_body) := by kernel_rfl
theorem ok_musterlow_Pick : compFunc Try.prog Try.f18 = some (eraseF ac_musterlow_Pick) := by kernel_rfl
theorem ok_net_Net_List : compFunc Try.prog Try.f19 = some (eraseF ac_net_Net_List) := by kernel_rfl
theorem ok_net_Net_Send : compFunc Try.prog Try.f20 = some (eraseF ac_net_Net_Send) := by kernel_rfl
theorem ok_net_Net_Deliver : compFunc Try.prog Try.f21 = some (eraseF ac_net_Net_Deliver) := by kernel_rfl
theorem ok_net_Net_Drop : compFunc Try.prog Try.f22 = some (eraseF ac_net_Net_Drop) := by kernel_rfl
theorem ok_net_Net_Double : compFunc Try.prog Try.f23 = some (eraseF ac_net_Net_Double) := by kernel_rfl
theorem ok_musterlaw08_awake : compFunc Try.prog Try.f24 = some (eraseF ac_musterlaw08_awake) := by kernel_rfl
theorem ok_musterlow_CopyBytes : compFunc Try.prog Try.f25 = some (eraseF ac_musterlow_CopyBytes) := by kernel_rfl
theorem ok_musterlow_ApartBytes : compFunc Try.prog Try.f26 = some (eraseF ac_musterlow_ApartBytes) := by kernel_rfl
theorem ok_musterlow_Made : compFunc Try.prog Try.f82 = some (eraseF ac_musterlow_Made) := by kernel_rfl
theorem ok_net_Net_none : compFunc Try.prog Try.f83 = some (eraseF ac_net_Net_none) := by kernel_rfl
theorem ok_maps_Keys_map_int_api_Packet_int_api_Packet : compFunc Try.prog Try.f85 = some (eraseF ac_maps_Keys_map_int_api_Packet_int_api_Packet) := by kernel_rfl
theorem ok_slices_Clone_L_byte_byte : compFunc Try.prog Try.f86 = some (eraseF ac_slices_Clone_L_byte_byte) := by kernel_rfl
theorem ok_net_Net_put : compFunc Try.prog Try.f87 = some (eraseF ac_net_Net_put) := by kernel_rfl
theorem ok_net_Net_find : compFunc Try.prog Try.f88 = some (eraseF ac_net_Net_find) := by kernel_rfl
theorem ok_musterlow_markByte : compFunc Try.prog Try.f89 = some (eraseF ac_musterlow_markByte) := by kernel_rfl
theorem mixed : Try.prog.follows .mixedOrders = true := by kernel_rfl
structure Known where
  g_slices_Sorted_int : List AVal → Heap → Option (AVal × Heap)
noncomputable def flat (g : Known) : List (Nat × XDef) := [(musterlaw08_NetSent, .body (eraseF ac_musterlaw08_NetSent)), (musterlaw08_NetSpares, .body (eraseF ac_musterlaw08_NetSpares)), (net_New, .body (eraseF ac_net_New)), (musterlaw08_NetSent_1, .body (eraseF ac_musterlaw08_NetSent_1)), (musterlow_SameBytes, .body (eraseF ac_musterlow_SameBytes)), (musterlaw08_body, .body (eraseF ac_musterlaw08_body)), (musterlow_Pick, .body (eraseF ac_musterlow_Pick)), (net_Net_List, .body (eraseF ac_net_Net_List)), (net_Net_Send, .body (eraseF ac_net_Net_Send)), (net_Net_Deliver, .body (eraseF ac_net_Net_Deliver)), (net_Net_Drop, .body (eraseF ac_net_Net_Drop)), (net_Net_Double, .body (eraseF ac_net_Net_Double)), (musterlaw08_awake, .body (eraseF ac_musterlaw08_awake)), (musterlow_CopyBytes, .body (eraseF ac_musterlow_CopyBytes)), (musterlow_ApartBytes, .body (eraseF ac_musterlow_ApartBytes)), (musterlow_Made, .body (eraseF ac_musterlow_Made)), (net_Net_none, .body (eraseF ac_net_Net_none)), (slices_Sorted_int, .known g.g_slices_Sorted_int), (maps_Keys_map_int_api_Packet_int_api_Packet, .body (eraseF ac_maps_Keys_map_int_api_Packet_int_api_Packet)), (slices_Clone_L_byte_byte, .body (eraseF ac_slices_Clone_L_byte_byte)), (net_Net_put, .body (eraseF ac_net_Net_put)), (net_Net_find, .body (eraseF ac_net_Net_find)), (musterlow_markByte, .body (eraseF ac_musterlow_markByte))]
noncomputable def XG (g : Known) (f : Nat) : Option XDef := lookN f (flat g)
theorem en_musterlaw08_NetSent : EntryOk Try.prog musterlaw08_NetSent (.body (eraseF ac_musterlaw08_NetSent)) := body_ok (f := Try.f3) Try.func3 ok_musterlaw08_NetSent
theorem en_musterlaw08_NetSpares : EntryOk Try.prog musterlaw08_NetSpares (.body (eraseF ac_musterlaw08_NetSpares)) := body_ok (f := Try.f4) Try.func4 ok_musterlaw08_NetSpares
theorem en_net_New : EntryOk Try.prog net_New (.body (eraseF ac_net_New)) := body_ok (f := Try.f14) Try.func14 ok_net_New
theorem en_musterlaw08_NetSent_1 : EntryOk Try.prog musterlaw08_NetSent_1 (.body (eraseF ac_musterlaw08_NetSent_1)) := body_ok (f := Try.f15) Try.func15 ok_musterlaw08_NetSent_1
theorem en_musterlow_SameBytes : EntryOk Try.prog musterlow_SameBytes (.body (eraseF ac_musterlow_SameBytes)) := body_ok (f := Try.f16) Try.func16 ok_musterlow_SameBytes
theorem en_musterlaw08_body : EntryOk Try.prog musterlaw08_body (.body (eraseF ac_musterlaw08_body)) := body_ok (f := Try.f17) Try.func17 ok_musterlaw08_body
theorem en_musterlow_Pick : EntryOk Try.prog musterlow_Pick (.body (eraseF ac_musterlow_Pick)) := body_ok (f := Try.f18) Try.func18 ok_musterlow_Pick
theorem en_net_Net_List : EntryOk Try.prog net_Net_List (.body (eraseF ac_net_Net_List)) := body_ok (f := Try.f19) Try.func19 ok_net_Net_List
theorem en_net_Net_Send : EntryOk Try.prog net_Net_Send (.body (eraseF ac_net_Net_Send)) := body_ok (f := Try.f20) Try.func20 ok_net_Net_Send
theorem en_net_Net_Deliver : EntryOk Try.prog net_Net_Deliver (.body (eraseF ac_net_Net_Deliver)) := body_ok (f := Try.f21) Try.func21 ok_net_Net_Deliver
theorem en_net_Net_Drop : EntryOk Try.prog net_Net_Drop (.body (eraseF ac_net_Net_Drop)) := body_ok (f := Try.f22) Try.func22 ok_net_Net_Drop
theorem en_net_Net_Double : EntryOk Try.prog net_Net_Double (.body (eraseF ac_net_Net_Double)) := body_ok (f := Try.f23) Try.func23 ok_net_Net_Double
theorem en_musterlaw08_awake : EntryOk Try.prog musterlaw08_awake (.body (eraseF ac_musterlaw08_awake)) := body_ok (f := Try.f24) Try.func24 ok_musterlaw08_awake
theorem en_musterlow_CopyBytes : EntryOk Try.prog musterlow_CopyBytes (.body (eraseF ac_musterlow_CopyBytes)) := body_ok (f := Try.f25) Try.func25 ok_musterlow_CopyBytes
theorem en_musterlow_ApartBytes : EntryOk Try.prog musterlow_ApartBytes (.body (eraseF ac_musterlow_ApartBytes)) := body_ok (f := Try.f26) Try.func26 ok_musterlow_ApartBytes
theorem en_musterlow_Made : EntryOk Try.prog musterlow_Made (.body (eraseF ac_musterlow_Made)) := body_ok (f := Try.f82) Try.func82 ok_musterlow_Made
theorem en_net_Net_none : EntryOk Try.prog net_Net_none (.body (eraseF ac_net_Net_none)) := body_ok (f := Try.f83) Try.func83 ok_net_Net_none
theorem en_maps_Keys_map_int_api_Packet_int_api_Packet : EntryOk Try.prog maps_Keys_map_int_api_Packet_int_api_Packet (.body (eraseF ac_maps_Keys_map_int_api_Packet_int_api_Packet)) := body_ok (f := Try.f85) Try.func85 ok_maps_Keys_map_int_api_Packet_int_api_Packet
theorem en_slices_Clone_L_byte_byte : EntryOk Try.prog slices_Clone_L_byte_byte (.body (eraseF ac_slices_Clone_L_byte_byte)) := body_ok (f := Try.f86) Try.func86 ok_slices_Clone_L_byte_byte
theorem en_net_Net_put : EntryOk Try.prog net_Net_put (.body (eraseF ac_net_Net_put)) := body_ok (f := Try.f87) Try.func87 ok_net_Net_put
theorem en_net_Net_find : EntryOk Try.prog net_Net_find (.body (eraseF ac_net_Net_find)) := body_ok (f := Try.f88) Try.func88 ok_net_Net_find
theorem en_musterlow_markByte : EntryOk Try.prog musterlow_markByte (.body (eraseF ac_musterlow_markByte)) := body_ok (f := Try.f89) Try.func89 ok_musterlow_markByte
structure KnownsOk (g : Known) : Prop where
  k_slices_Sorted_int : KnownS Try.prog slices_Sorted_int g.g_slices_Sorted_int
theorem kn_slices_Sorted_int {g : Known} (hg : KnownsOk g) : EntryOk Try.prog slices_Sorted_int (.known g.g_slices_Sorted_int) := known_ok hg.k_slices_Sorted_int
theorem flat_ok {g : Known} (hg : KnownsOk g) : AllOk Try.prog (flat g) := by
  unfold flat
  refine AllOk.cons (en_musterlaw08_NetSent) ?_
  refine AllOk.cons (en_musterlaw08_NetSpares) ?_
  refine AllOk.cons (en_net_New) ?_
  refine AllOk.cons (en_musterlaw08_NetSent_1) ?_
  refine AllOk.cons (en_musterlow_SameBytes) ?_
  refine AllOk.cons (en_musterlaw08_body) ?_
  refine AllOk.cons (en_musterlow_Pick) ?_
  refine AllOk.cons (en_net_Net_List) ?_
  refine AllOk.cons (en_net_Net_Send) ?_
  refine AllOk.cons (en_net_Net_Deliver) ?_
  refine AllOk.cons (en_net_Net_Drop) ?_
  refine AllOk.cons (en_net_Net_Double) ?_
  refine AllOk.cons (en_musterlaw08_awake) ?_
  refine AllOk.cons (en_musterlow_CopyBytes) ?_
  refine AllOk.cons (en_musterlow_ApartBytes) ?_
  refine AllOk.cons (en_musterlow_Made) ?_
  refine AllOk.cons (en_net_Net_none) ?_
  refine AllOk.cons (kn_slices_Sorted_int hg) ?_
  refine AllOk.cons (en_maps_Keys_map_int_api_Packet_int_api_Packet) ?_
  refine AllOk.cons (en_slices_Clone_L_byte_byte) ?_
  refine AllOk.cons (en_net_Net_put) ?_
  refine AllOk.cons (en_net_Net_find) ?_
  refine AllOk.cons (en_musterlow_markByte) ?_
  exact AllOk.nil
theorem xg_ok {g : Known} (hg : KnownsOk g) : XOk Try.prog (XG g) := lookN_ok (flat_ok hg)
end Go.Proofs.Ytlfmiplojpcklaa.Net
